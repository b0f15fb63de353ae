/- What each function gives, and that it does. Printed. -/
import Derived.Test.YtihfaondfmeglaaZqTabLogs
import Derived.Test.YtihfaondfmeglaaZmc
import Derived.KernelRfl
import Derived.Test.YtihfaondfmeglaaZqLogsR
set_option linter.unusedVariables false
set_option linter.unusedSimpArgs false
namespace Go.Proofs.YtihfaondfmeglaaLogs
open Go Go.Zq
set_option maxRecDepth 100000
structure Gl1Cur where
  mk ::
  (fcode : List Row)
  (fat : Int)
  (fseed : Int)
def Gl1Cur.row (x : Gl1Cur) : Row := [.imm true 1 x.fcode, .lit (.int .i64 x.fat), .lit (.int .u64 x.fseed)]
def Gl1Cur.at (r : List Row) (j i : Nat) : Gl1Cur := ⟨rowsAt r j i, intAt r j (i + 1), intAt r j (i + 2)⟩
structure GBus where
  mk ::
  (Bytes : List Row)
  (Log : List Row)
def GBus.row (x : GBus) : Row := [.imm true 1 x.Bytes, .imm true 5 x.Log]
def GBus.at (r : List Row) (j i : Nat) : GBus := ⟨rowsAt r j i, rowsAt r j (i + 1)⟩
structure GAccess where
  mk ::
  (Kind : Int)
  (Size : Int)
  (Addr : Int)
  (Value : Int)
  (Code : Int)
def GAccess.row (x : GAccess) : Row := [.lit (.int .i64 x.Kind), .lit (.int .i64 x.Size), .lit (.int .i64 x.Addr), .lit (.int .i64 x.Value), .lit (.int .i64 x.Code)]
def GAccess.at (r : List Row) (j i : Nat) : GAccess := ⟨intAt r j i, intAt r j (i + 1), intAt r j (i + 2), intAt r j (i + 3), intAt r j (i + 4)⟩
/-! (*spec.l1Cur).next -/
noncomputable def y146_0 (x0 : Gl1Cur) : Int := (bif (ltI x0.fat (lenI x0.fcode)) then (wrapK .i64 (intAt x0.fcode (Int.toNat x0.fat) 0)) else 0)
noncomputable def y146_1 (x0 : Gl1Cur) : Int := (addK .u64 (addK .u64 (mulK .u64 x0.fseed 6364136223846793005) (wrapK .u64 (y146_0 x0))) 1442695040888963407)
noncomputable def T146 (x0 : Gl1Cur) : Pt (Gl1Cur × Int) := (.ok true (.ok true (.ok true (.ok ((((inRow [.int .u8] x0.fcode x0.fat) && true) || (!(ltI x0.fat (lenI x0.fcode)))) && true) (.ok true (.ok true (.ok true (.br (leI (addI x0.fat 1) (lenI x0.fcode)) (.ok true (.ok true (.leaf ((Gl1Cur.mk x0.fcode (addI x0.fat 1) (y146_1 x0)), (y146_0 x0))))) (.ok true (.ok true (.leaf ((Gl1Cur.mk x0.fcode (addI x0.fat 1) (y146_1 x0)), (wrapK .i64 (andK .u64 (shrK .u64 (y146_1 x0) 40) 255))))))))))))))
noncomputable def g146 (x0 : Gl1Cur) : Gl1Cur × Int := hid (T146 x0).val
noncomputable def k146 (x0 : Gl1Cur) : Bool := hid (T146 x0).okv
noncomputable def n146 (x0 : Gl1Cur) (r : Gl1Cur × Int) : SV × List Blk := ((.one (.lit (.int .i64 r.2))), [.box [.imm true 1 r.1.fcode, .lit (.int .i64 r.1.fat), .lit (.int .u64 r.1.fseed)]])
theorem e146 (x0 : Gl1Cur) : fnP qnil [(7, [.int .i64]), (11, [.imm 1]), (17, [.imm 1]), (21, [.int .i64]), (22, [.int .u8]), (23, [.int .u8]), (28, [.int .i64]), (36, [.int .u64]), (47, [.int .i64]), (51, [.imm 1]), (58, [.int .u64])] [] true [] 2097152 F146 [(.one (.ptr 0 0 0))] [.box [.imm true 1 x0.fcode, .lit (.int .i64 x0.fat), .lit (.int .u64 x0.fseed)]] = some ((T146 x0).map (n146 x0)) := by kernel_rfl
noncomputable def q146 : List SV → List Blk → Option ((SV × List Blk) × Bool)
  | [(.one (.ptr 0 0 0))], [.box [.imm true 1 c0, .lit (.int .i64 c1), .lit (.int .u64 c2)]] => some (n146 (Gl1Cur.mk c0 c1 c2) (g146 (Gl1Cur.mk c0 c1 c2)), k146 (Gl1Cur.mk c0 c1 c2))
  | _, _ => none
theorem t146 (args : List SV) (hp : List Blk) (r : SV × List Blk) (h : q146 args hp = some (r, true)) : frzR R 146 args hp = some r := by
  unfold q146 at h
  split at h
  · rename_i c0 c1 c2
    obtain ⟨hr, hk⟩ := Prod.mk.inj (Option.some.inj h)
    exact (frz_lo (by decide)).trans (R_fn at146 2097152 (fnP_c qnil_ok (loops_of (l := []) rfl trivial) (e146 (Gl1Cur.mk c0 c1 c2)) hr hk))
  · simp at h
noncomputable def Q146 : Qt := qcons 146 q146 qnil
theorem Q146_ok : QOk (frzR R) Q146 := qcons_ok t146 qnil_ok
/-! (*spec.l1Cur).pick -/
noncomputable def T73 (x1 : Int) (x0 : Gl1Cur) : Pt (Gl1Cur × Int) := (.ok true (.ok true (.br (leI x1 1) (.ok true (.ok true (.leaf (x0, 0)))) (.ok ((k146 x0) && true) (.ok true (.br (gtI x1 200) (.ok ((k146 (g146 x0).1) && true) (.ok ((neI x1 0) && true) (.ok true (.leaf ((g146 (g146 x0).1).1, (remI (addI (mulI (g146 x0).2 256) (g146 (g146 x0).1).2) x1)))))) (.ok ((neI x1 0) && true) (.ok true (.leaf ((g146 x0).1, (remI (g146 x0).2 x1)))))))))))
noncomputable def g73 (x1 : Int) (x0 : Gl1Cur) : Gl1Cur × Int := hid (T73 x1 x0).val
noncomputable def k73 (x1 : Int) (x0 : Gl1Cur) : Bool := hid (T73 x1 x0).okv
noncomputable def n73 (x1 : Int) (x0 : Gl1Cur) (r : Gl1Cur × Int) : SV × List Blk := ((.one (.lit (.int .i64 r.2))), [.box [.imm true 1 r.1.fcode, .lit (.int .i64 r.1.fat), .lit (.int .u64 r.1.fseed)]])
theorem e73 (x1 : Int) (x0 : Gl1Cur) : fnP Q146 [] [] true [] 2097152 F73 [(.one (.ptr 0 0 0)), (.one (.lit (.int .i64 x1)))] [.box [.imm true 1 x0.fcode, .lit (.int .i64 x0.fat), .lit (.int .u64 x0.fseed)]] = some ((T73 x1 x0).map (n73 x1 x0)) := by kernel_rfl
noncomputable def q73 : List SV → List Blk → Option ((SV × List Blk) × Bool)
  | [(.one (.ptr 0 0 0)), (.one (.lit (.int .i64 c0)))], [.box [.imm true 1 c1, .lit (.int .i64 c2), .lit (.int .u64 c3)]] => some (n73 c0 (Gl1Cur.mk c1 c2 c3) (g73 c0 (Gl1Cur.mk c1 c2 c3)), k73 c0 (Gl1Cur.mk c1 c2 c3))
  | _, _ => none
theorem t73 (args : List SV) (hp : List Blk) (r : SV × List Blk) (h : q73 args hp = some (r, true)) : frzR R 73 args hp = some r := by
  unfold q73 at h
  split at h
  · rename_i c0 c1 c2 c3
    obtain ⟨hr, hk⟩ := Prod.mk.inj (Option.some.inj h)
    exact (frz_lo (by decide)).trans (R_fn at73 2097152 (fnP_c Q146_ok (loops_of (l := []) rfl trivial) (e73 c0 (Gl1Cur.mk c1 c2 c3)) hr hk))
  · simp at h
noncomputable def Q73 : Qt := qcons 73 q73 Q146
theorem Q73_ok : QOk (frzR R) Q73 := qcons_ok t73 Q146_ok
/-! (*spec.l1Cur).bytes4 -/
structure V82_0 where
  mk ::
  (b0 : Gl1Cur)
  (s1 : Int)
  (s5 : List Row)
noncomputable def y82_0_l_0 (v : V82_0) : Nat := (List.length (v.s5 ++ [(rowI (g73 256 v.b0).2)]))
noncomputable def y82_0_l_1 (v : V82_0) : Bool := ((eqN (y82_0_l_0 v) (y82_0_l_0 v)) && true)
noncomputable def N82_0 (v : V82_0) : Pt (Option V82_0) := (.ok true (.br (gtI v.s1 0) (.ok ((k73 256 v.b0) && (((eqN (List.length v.s5) (List.length v.s5)) && ((eqN (0 + (List.length v.s5)) (List.length v.s5)) && ((leN (mulN ((List.length v.s5) + 1) 8) 140737488355328) && (leN ((List.length v.s5) + 1) 140737488355328)))) && true)) (.ok true (.ok ((y82_0_l_1 v) && (y82_0_l_1 v)) (.leaf (some (V82_0.mk (g73 256 v.b0).1 (subI v.s1 1) (v.s5 ++ [(rowI (g73 256 v.b0).2)]))))))) (.leaf none)))
noncomputable def s82_0 (v : V82_0) : St := ⟨[(0, (.one (.ptr 0 0 0))), (1, (.one (.lit (.int .i64 v.s1)))), (5, (.one (.sl 1 0 (List.length v.s5))))], [.box [.imm true 1 v.b0.fcode, .lit (.int .i64 v.b0.fat), .lit (.int .u64 v.b0.fseed)], .lst 1 v.s5]⟩
def u82_0 : St → Option (V82_0 × Bool)
  | ⟨[(0, (.one (.ptr 0 0 0))), (1, (.one (.lit (.int .i64 c3)))), (5, (.one (.sl 1 0 l1)))], [.box [.imm true 1 c0, .lit (.int .i64 c1), .lit (.int .u64 c2)], .lst 1 c_1]⟩ => some ((V82_0.mk (Gl1Cur.mk c0 c1 c2) c3 c_1), eqN l1 (List.length c_1) && (true))
  | _ => none
theorem hN82_0 (v : V82_0) : ((evp Q73 [] [] true [] 1 2097152 F82b0 (s82_0 v)).bind (stpT true false 1 [0, 1, 5])) = some ((N82_0 v).map (Option.map s82_0)) := by kernel_rfl
theorem hu82_0 (σ : St) (v : V82_0) (h : u82_0 σ = some (v, true)) : σ = s82_0 v := by
  unfold u82_0 at h
  split at h
  · obtain ⟨hr, hk⟩ := Prod.mk.inj (Option.some.inj h)
    obtain ⟨d0, hk0⟩ := and_t hk
    obtain rfl := of_decide_eq_true d0
    rw [← hr]
    rfl
  · simp at h
theorem lt82_0 : TellsP (lqP true false 1 [0, 1, 5] (evp Q73 [] [] true [] 1 2097152 F82b0) u82_0 s82_0 N82_0 2097152) (evc R 1 2097152 (.loop [0, 1, 5] F82b0)) := lqP_tells (evp_tells Q73_ok (loops_of (l := []) (by kernel_rfl) trivial)) hu82_0 hN82_0
noncomputable def lq82_0 : Lp := (6, lqP true false 1 [0, 1, 5] (evp Q73 [] [] true [] 1 2097152 F82b0) u82_0 s82_0 N82_0 2097152) :: []
noncomputable def w82_0 (v : V82_0) : V82_0 := (hid (loopV N82_0 2097152 v)).getD v
noncomputable def i82_0 (v : V82_0) : Bool := (hid (loopV N82_0 2097152 v)).isSome
noncomputable def y82_0 (x1 : Int) (x0 : Gl1Cur) : V82_0 := (w82_0 (V82_0.mk x0 x1 []))
noncomputable def y82_1 (x1 : Int) (x0 : Gl1Cur) : Bool := ((eqN (List.length (y82_0 x1 x0).s5) (List.length (y82_0 x1 x0).s5)) && true)
noncomputable def T82 (x1 : Int) (x0 : Gl1Cur) : Pt (Gl1Cur × List Row) := (.ok true (.ok true (.ok true (.ok true (.ok (i82_0 (V82_0.mk x0 x1 [])) (.ok true (.ok ((y82_1 x1 x0) && (y82_1 x1 x0)) (.leaf ((y82_0 x1 x0).b0, (y82_0 x1 x0).s5)))))))))
noncomputable def g82 (x1 : Int) (x0 : Gl1Cur) : Gl1Cur × List Row := hid (T82 x1 x0).val
noncomputable def k82 (x1 : Int) (x0 : Gl1Cur) : Bool := hid (T82 x1 x0).okv
noncomputable def n82 (x1 : Int) (x0 : Gl1Cur) (r : Gl1Cur × List Row) : SV × List Blk := ((.one (.sl 1 0 (List.length r.2))), [.box [.imm true 1 r.1.fcode, .lit (.int .i64 r.1.fat), .lit (.int .u64 r.1.fseed)], .lst 1 r.2])
theorem e82 (x1 : Int) (x0 : Gl1Cur) : fnP Q73 [] [] true lq82_0 2097152 F82 [(.one (.ptr 0 0 0)), (.one (.lit (.int .i64 x1)))] [.box [.imm true 1 x0.fcode, .lit (.int .i64 x0.fat), .lit (.int .u64 x0.fseed)]] = some ((T82 x1 x0).map (n82 x1 x0)) := by kernel_rfl
noncomputable def q82 : List SV → List Blk → Option ((SV × List Blk) × Bool)
  | [(.one (.ptr 0 0 0)), (.one (.lit (.int .i64 c0)))], [.box [.imm true 1 c1, .lit (.int .i64 c2), .lit (.int .u64 c3)]] => some (n82 c0 (Gl1Cur.mk c1 c2 c3) (g82 c0 (Gl1Cur.mk c1 c2 c3)), k82 c0 (Gl1Cur.mk c1 c2 c3))
  | _, _ => none
theorem hL82 : Loops (fun live x => TellsP (lpAt lq82_0 (tagC x)) (evc R 1 2097152 (.loop live x))) F82.body := (loops_of (l := [([0, 1, 5], F82b0)]) (by kernel_rfl) ⟨fun σ σr t h ho hl => lt82_0 σ σr t h ho hl, trivial⟩)
theorem t82 (args : List SV) (hp : List Blk) (r : SV × List Blk) (h : q82 args hp = some (r, true)) : frzR R 82 args hp = some r := by
  unfold q82 at h
  split at h
  · rename_i c0 c1 c2 c3
    obtain ⟨hr, hk⟩ := Prod.mk.inj (Option.some.inj h)
    exact (frz_lo (by decide)).trans (R_fn at82 2097152 (fnP_c Q73_ok hL82 (e82 c0 (Gl1Cur.mk c1 c2 c3)) hr hk))
  · simp at h
noncomputable def Q82 : Qt := qcons 82 q82 Q73
theorem Q82_ok : QOk (frzR R) Q82 := qcons_ok t82 Q73_ok
/-! spec.l1In -/
noncomputable def T78 (x0 : Int) (x1 : Int) (x2 : Int) : Pt (Bool) := (.ok true (.ok true (.ok true (.ok true (.leaf (bif (geI x0 x1) then (leI x0 x2) else false))))))
noncomputable def g78 (x0 : Int) (x1 : Int) (x2 : Int) : Bool := hid (T78 x0 x1 x2).val
noncomputable def k78 (x0 : Int) (x1 : Int) (x2 : Int) : Bool := hid (T78 x0 x1 x2).okv
noncomputable def n78 (x0 : Int) (x1 : Int) (x2 : Int) (r : Bool) : SV × List Blk := ((.one (.lit (.bool r))), [])
theorem e78 (x0 : Int) (x1 : Int) (x2 : Int) : fnZ Q82 [] [] true [] 2097152 F78 [(.one (.lit (.int .i64 x0))), (.one (.lit (.int .i64 x1))), (.one (.lit (.int .i64 x2)))] = some ((T78 x0 x1 x2).map (n78 x0 x1 x2)) := by kernel_rfl
noncomputable def q78 : List SV → List Blk → Option ((SV × List Blk) × Bool)
  | [(.one (.lit (.int .i64 c0))), (.one (.lit (.int .i64 c1))), (.one (.lit (.int .i64 c2)))], [] => some (n78 c0 c1 c2 (g78 c0 c1 c2), k78 c0 c1 c2)
  | _, _ => none
theorem t78 (args : List SV) (hp : List Blk) (r : SV × List Blk) (h : q78 args hp = some (r, true)) : frzR R 100078 args hp = some r := by
  unfold q78 at h
  split at h
  · rename_i c0 c1 c2
    obtain ⟨hr, hk⟩ := Prod.mk.inj (Option.some.inj h)
    exact fnZ_c (f := 78) Q82_ok (loops_of (l := []) rfl trivial) (e78 c0 c1 c2) hr hk (fun r h => R_fn at78 2097152 h)
  · simp at h
noncomputable def Q78 : Qt := qcons 100078 q78 Q82
theorem Q78_ok : QOk (frzR R) Q78 := qcons_ok t78 Q82_ok
/-! spec.l4Bytes -/
structure V85_0 where
  mk ::
  (s5 : List Row)
  (s6 : Int)
  (s7 : Int)
noncomputable def N85_0 (v : V85_0) : Pt (Option V85_0) := (.ok true (.br (ltI v.s7 v.s6) (.ok ((inRow [.int .i64] v.s5 v.s7) && true) (.ok ((k78 (intAt v.s5 (Int.toNat v.s7) 0) 0 255) && true) (.br (!(g78 (intAt v.s5 (Int.toNat v.s7) 0) 0 255)) (.ok true (.leaf none)) (.ok true (.ok true (.leaf (some { v with s7 := (addI v.s7 1) }))))))) (.leaf none)))
noncomputable def s85_0 (v : V85_0) : St := ⟨[(5, (.one (.imm false 1 v.s5))), (6, (.one (.lit (.int .i64 v.s6)))), (7, (.one (.lit (.int .i64 v.s7))))], []⟩
def u85_0 : St → Option (V85_0 × Bool)
  | ⟨[(5, (.one (.imm false 1 c0))), (6, (.one (.lit (.int .i64 c1)))), (7, (.one (.lit (.int .i64 c2))))], []⟩ => some ((V85_0.mk c0 c1 c2), true)
  | _ => none
theorem hN85_0 (v : V85_0) : ((evp Q78 [(9, [.int .i64]), (10, [.int .i64])] [] true [] 0 2097152 F85b0 (s85_0 v)).bind (stpT true false 0 [5, 6, 7])) = some ((N85_0 v).map (Option.map s85_0)) := by kernel_rfl
theorem hu85_0 (σ : St) (v : V85_0) (h : u85_0 σ = some (v, true)) : σ = s85_0 v := by
  unfold u85_0 at h
  split at h
  · obtain ⟨hr, hk⟩ := Prod.mk.inj (Option.some.inj h)
    rw [← hr]
    rfl
  · simp at h
theorem lt85_0 : TellsP (lqP true false 0 [5, 6, 7] (evp Q78 [(9, [.int .i64]), (10, [.int .i64])] [] true [] 0 2097152 F85b0) u85_0 s85_0 N85_0 2097152) (evc R 0 2097152 (.loop [5, 6, 7] F85b0)) := lqP_tells (evp_tells Q78_ok (loops_of (l := []) (by kernel_rfl) trivial)) hu85_0 hN85_0
noncomputable def lq85_0 : Lp := (8, lqP true false 0 [5, 6, 7] (evp Q78 [(9, [.int .i64]), (10, [.int .i64])] [] true [] 0 2097152 F85b0) u85_0 s85_0 N85_0 2097152) :: []
noncomputable def w85_0 (v : V85_0) : V85_0 := (hid (loopV N85_0 2097152 v)).getD v
noncomputable def i85_0 (v : V85_0) : Bool := (hid (loopV N85_0 2097152 v)).isSome
noncomputable def y85_0 (x0 : List Row) : V85_0 := (w85_0 (V85_0.mk x0 (lenI x0) 0))
noncomputable def T85 (x0 : List Row) : Pt (Bool) := (.ok true (.ok true (.ok true (.ok true (.ok (i85_0 (V85_0.mk x0 (lenI x0) 0)) (.br (ltI (y85_0 x0).s7 (y85_0 x0).s6) (.ok true (.ok true (.leaf false))) (.ok true (.ok true (.ok true (.leaf true))))))))))
noncomputable def g85 (x0 : List Row) : Bool := hid (T85 x0).val
noncomputable def k85 (x0 : List Row) : Bool := hid (T85 x0).okv
noncomputable def n85 (x0 : List Row) (r : Bool) : SV × List Blk := ((.one (.lit (.bool r))), [])
theorem e85 (x0 : List Row) : fnZ Q78 [(9, [.int .i64]), (10, [.int .i64])] [] true lq85_0 2097152 F85 [(.one (.imm false 1 x0))] = some ((T85 x0).map (n85 x0)) := by kernel_rfl
noncomputable def q85 : List SV → List Blk → Option ((SV × List Blk) × Bool)
  | [(.one (.imm false 1 c0))], [] => some (n85 c0 (g85 c0), k85 c0)
  | _, _ => none
theorem hL85 : Loops (fun live x => TellsP (lpAt lq85_0 (tagC x)) (evc R 0 2097152 (.loop live x))) F85.body := (loops_of (l := [([5, 6, 7], F85b0)]) (by kernel_rfl) ⟨fun σ σr t h ho hl => lt85_0 σ σr t h ho hl, trivial⟩)
theorem t85 (args : List SV) (hp : List Blk) (r : SV × List Blk) (h : q85 args hp = some (r, true)) : frzR R 100085 args hp = some r := by
  unfold q85 at h
  split at h
  · rename_i c0
    obtain ⟨hr, hk⟩ := Prod.mk.inj (Option.some.inj h)
    exact fnZ_c (f := 85) Q78_ok hL85 (e85 c0) hr hk (fun r h => R_fn at85 2097152 h)
  · simp at h
noncomputable def Q85 : Qt := qcons 100085 q85 Q78
theorem Q85_ok : QOk (frzR R) Q85 := qcons_ok t85 Q78_ok
/-! spec.NewBus -/
structure V18_0 where
  mk ::
  (b0 : GBus)
  (b1 : GBus)
  (s1 : List Row)
  (s32 : List Row)
  (s33 : Int)
  (s34 : Int)
noncomputable def y18_0_l_0 (v : V18_0) : Bool := (eqN (List.length v.b0.Bytes) (List.length v.b0.Bytes))
noncomputable def y18_0_l_1 (v : V18_0) : Bool := (eqN (List.length v.b0.Log) (List.length v.b0.Log))
noncomputable def y18_0_l_2 (v : V18_0) : Bool := ((y18_0_l_0 v) && ((y18_0_l_1 v) && true))
noncomputable def y18_0_l_3 (v : V18_0) : Bool := ((eqN (List.length v.b1.Log) (List.length v.b1.Log)) && true)
noncomputable def y18_0_l_4 (v : V18_0) : List Row := (List.set v.b1.Bytes (0 + (Int.toNat v.s34)) (rowI (intAt v.s32 (Int.toNat v.s34) 0)))
noncomputable def y18_0_l_5 (v : V18_0) : Bool := ((eqN (List.length v.b1.Bytes) (List.length (y18_0_l_4 v))) && (y18_0_l_3 v))
noncomputable def N18_0 (v : V18_0) : Pt (Option V18_0) := (.ok true (.br (ltI v.s34 v.s33) (.ok ((inRow [.int .i64] v.s32 v.s34) && true) (.ok (((leI 0 v.s34) && (ltI v.s34 (lenI v.b1.Bytes))) && (((blt (0 + (Int.toNat v.s34)) (List.length v.b1.Bytes)) && (beqN (rlen v.b1.Bytes (0 + (Int.toNat v.s34))) 1)) && true)) (.ok true (.ok ((((y18_0_l_2 v) && (((eqN (List.length v.b1.Bytes) (List.length v.b1.Bytes)) && (y18_0_l_3 v)) && ((y18_0_l_0 v) && ((y18_0_l_1 v) && (y18_0_l_5 v))))) && true) && ((y18_0_l_2 v) && ((y18_0_l_5 v) && true))) (.leaf (some { v with b1 := { v.b1 with Bytes := (y18_0_l_4 v) }, s34 := (addI v.s34 1) })))))) (.leaf none)))
noncomputable def s18_0 (v : V18_0) : St := ⟨[(1, (.one (.imm false 1 v.s1))), (4, (.one (.ptr 0 0 0))), (6, (.one (.ptr 1 0 0))), (32, (.one (.imm false 1 v.s32))), (33, (.one (.lit (.int .i64 v.s33)))), (34, (.one (.lit (.int .i64 v.s34))))], [.box [.sl 2 0 (List.length v.b0.Bytes), .sl 3 0 (List.length v.b0.Log)], .box [.sl 4 0 (List.length v.b1.Bytes), .sl 5 0 (List.length v.b1.Log)], .lst 1 v.b0.Bytes, .lst 5 v.b0.Log, .lst 1 v.b1.Bytes, .lst 5 v.b1.Log]⟩
def u18_0 : St → Option (V18_0 × Bool)
  | ⟨[(1, (.one (.imm false 1 c0))), (4, (.one (.ptr 0 0 0))), (6, (.one (.ptr 1 0 0))), (32, (.one (.imm false 1 c1))), (33, (.one (.lit (.int .i64 c2)))), (34, (.one (.lit (.int .i64 c3))))], [.box [.sl 2 0 l2, .sl 3 0 l3], .box [.sl 4 0 l4, .sl 5 0 l5], .lst 1 c_2, .lst 5 c_3, .lst 1 c_4, .lst 5 c_5]⟩ => some ((V18_0.mk (GBus.mk c_2 c_3) (GBus.mk c_4 c_5) c0 c1 c2 c3), eqN l2 (List.length c_2) && (eqN l3 (List.length c_3) && (eqN l4 (List.length c_4) && (eqN l5 (List.length c_5) && (true)))))
  | _ => none
theorem hN18_0 (v : V18_0) : ((evp Q85 [(37, [.int .i64]), (38, [.int .i64]), (40, [.imm 1]), (43, [.int .i64]), (50, [.int .i64]), (51, [.int .i64]), (53, [.imm 1]), (57, [.int .i64]), (59, [.imm 1, .imm 5]), (1000003, [])] [] true [] 0 2097152 F18b0 (s18_0 v)).bind (stpT true true 0 [1, 4, 6, 32, 33, 34])) = some ((N18_0 v).map (Option.map s18_0)) := by kernel_rfl
theorem hu18_0 (σ : St) (v : V18_0) (h : u18_0 σ = some (v, true)) : σ = s18_0 v := by
  unfold u18_0 at h
  split at h
  · obtain ⟨hr, hk⟩ := Prod.mk.inj (Option.some.inj h)
    obtain ⟨d0, hk0⟩ := and_t hk
    obtain ⟨d1, hk1⟩ := and_t hk0
    obtain ⟨d2, hk2⟩ := and_t hk1
    obtain ⟨d3, hk3⟩ := and_t hk2
    obtain rfl := of_decide_eq_true d0
    obtain rfl := of_decide_eq_true d1
    obtain rfl := of_decide_eq_true d2
    obtain rfl := of_decide_eq_true d3
    rw [← hr]
    rfl
  · simp at h
theorem lt18_0 : TellsP (lqP true true 0 [1, 4, 6, 32, 33, 34] (evp Q85 [(37, [.int .i64]), (38, [.int .i64]), (40, [.imm 1]), (43, [.int .i64]), (50, [.int .i64]), (51, [.int .i64]), (53, [.imm 1]), (57, [.int .i64]), (59, [.imm 1, .imm 5]), (1000003, [])] [] true [] 0 2097152 F18b0) u18_0 s18_0 N18_0 2097152) (evc R 0 2097152 (.loop [1, 4, 6, 32, 33, 34] F18b0)) := lqP_tells (evp_tells Q85_ok (loops_of (l := []) (by kernel_rfl) trivial)) hu18_0 hN18_0
noncomputable def lq18_0 : Lp := (35, lqP true true 0 [1, 4, 6, 32, 33, 34] (evp Q85 [(37, [.int .i64]), (38, [.int .i64]), (40, [.imm 1]), (43, [.int .i64]), (50, [.int .i64]), (51, [.int .i64]), (53, [.imm 1]), (57, [.int .i64]), (59, [.imm 1, .imm 5]), (1000003, [])] [] true [] 0 2097152 F18b0) u18_0 s18_0 N18_0 2097152) :: []
noncomputable def w18_0 (v : V18_0) : V18_0 := (hid (loopV N18_0 2097152 v)).getD v
noncomputable def i18_0 (v : V18_0) : Bool := (hid (loopV N18_0 2097152 v)).isSome
structure V18_1 where
  mk ::
  (b0 : GBus)
  (b1 : GBus)
  (s45 : List Row)
  (s46 : Int)
  (s47 : Int)
noncomputable def y18_1_l_0 (v : V18_1) : Bool := (eqN (List.length v.b0.Bytes) (List.length v.b0.Bytes))
noncomputable def y18_1_l_1 (v : V18_1) : Bool := (eqN (List.length v.b0.Log) (List.length v.b0.Log))
noncomputable def y18_1_l_2 (v : V18_1) : Bool := ((y18_1_l_0 v) && ((y18_1_l_1 v) && true))
noncomputable def y18_1_l_3 (v : V18_1) : Bool := ((eqN (List.length v.b1.Log) (List.length v.b1.Log)) && true)
noncomputable def y18_1_l_4 (v : V18_1) : List Row := (List.set v.b1.Bytes (0 + (Int.toNat (addI 384 v.s47))) (rowI (intAt v.s45 (Int.toNat v.s47) 0)))
noncomputable def y18_1_l_5 (v : V18_1) : Bool := ((eqN (List.length v.b1.Bytes) (List.length (y18_1_l_4 v))) && (y18_1_l_3 v))
noncomputable def N18_1 (v : V18_1) : Pt (Option V18_1) := (.ok true (.br (ltI v.s47 v.s46) (.ok ((inRow [.int .i64] v.s45 v.s47) && true) (.ok (((leI 0 (addI 384 v.s47)) && (ltI (addI 384 v.s47) (lenI v.b1.Bytes))) && (((blt (0 + (Int.toNat (addI 384 v.s47))) (List.length v.b1.Bytes)) && (beqN (rlen v.b1.Bytes (0 + (Int.toNat (addI 384 v.s47)))) 1)) && true)) (.ok true (.ok ((((y18_1_l_2 v) && (((eqN (List.length v.b1.Bytes) (List.length v.b1.Bytes)) && (y18_1_l_3 v)) && ((y18_1_l_0 v) && ((y18_1_l_1 v) && (y18_1_l_5 v))))) && true) && ((y18_1_l_2 v) && ((y18_1_l_5 v) && true))) (.leaf (some { v with b1 := { v.b1 with Bytes := (y18_1_l_4 v) }, s47 := (addI v.s47 1) })))))) (.leaf none)))
noncomputable def s18_1 (v : V18_1) : St := ⟨[(4, (.one (.ptr 0 0 0))), (6, (.one (.ptr 1 0 0))), (45, (.one (.imm false 1 v.s45))), (46, (.one (.lit (.int .i64 v.s46)))), (47, (.one (.lit (.int .i64 v.s47))))], [.box [.sl 2 0 (List.length v.b0.Bytes), .sl 3 0 (List.length v.b0.Log)], .box [.sl 4 0 (List.length v.b1.Bytes), .sl 5 0 (List.length v.b1.Log)], .lst 1 v.b0.Bytes, .lst 5 v.b0.Log, .lst 1 v.b1.Bytes, .lst 5 v.b1.Log]⟩
def u18_1 : St → Option (V18_1 × Bool)
  | ⟨[(4, (.one (.ptr 0 0 0))), (6, (.one (.ptr 1 0 0))), (45, (.one (.imm false 1 c0))), (46, (.one (.lit (.int .i64 c1)))), (47, (.one (.lit (.int .i64 c2))))], [.box [.sl 2 0 l2, .sl 3 0 l3], .box [.sl 4 0 l4, .sl 5 0 l5], .lst 1 c_2, .lst 5 c_3, .lst 1 c_4, .lst 5 c_5]⟩ => some ((V18_1.mk (GBus.mk c_2 c_3) (GBus.mk c_4 c_5) c0 c1 c2), eqN l2 (List.length c_2) && (eqN l3 (List.length c_3) && (eqN l4 (List.length c_4) && (eqN l5 (List.length c_5) && (true)))))
  | _ => none
theorem hN18_1 (v : V18_1) : ((evp Q85 [(37, [.int .i64]), (38, [.int .i64]), (40, [.imm 1]), (43, [.int .i64]), (50, [.int .i64]), (51, [.int .i64]), (53, [.imm 1]), (57, [.int .i64]), (59, [.imm 1, .imm 5]), (1000003, [])] [] true lq18_0 0 2097152 F18b1 (s18_1 v)).bind (stpT true true 0 [4, 6, 45, 46, 47])) = some ((N18_1 v).map (Option.map s18_1)) := by kernel_rfl
theorem hu18_1 (σ : St) (v : V18_1) (h : u18_1 σ = some (v, true)) : σ = s18_1 v := by
  unfold u18_1 at h
  split at h
  · obtain ⟨hr, hk⟩ := Prod.mk.inj (Option.some.inj h)
    obtain ⟨d0, hk0⟩ := and_t hk
    obtain ⟨d1, hk1⟩ := and_t hk0
    obtain ⟨d2, hk2⟩ := and_t hk1
    obtain ⟨d3, hk3⟩ := and_t hk2
    obtain rfl := of_decide_eq_true d0
    obtain rfl := of_decide_eq_true d1
    obtain rfl := of_decide_eq_true d2
    obtain rfl := of_decide_eq_true d3
    rw [← hr]
    rfl
  · simp at h
theorem lt18_1 : TellsP (lqP true true 0 [4, 6, 45, 46, 47] (evp Q85 [(37, [.int .i64]), (38, [.int .i64]), (40, [.imm 1]), (43, [.int .i64]), (50, [.int .i64]), (51, [.int .i64]), (53, [.imm 1]), (57, [.int .i64]), (59, [.imm 1, .imm 5]), (1000003, [])] [] true lq18_0 0 2097152 F18b1) u18_1 s18_1 N18_1 2097152) (evc R 0 2097152 (.loop [4, 6, 45, 46, 47] F18b1)) := lqP_tells (evp_tells Q85_ok (loops_of (l := []) (by kernel_rfl) trivial)) hu18_1 hN18_1
noncomputable def lq18_1 : Lp := (48, lqP true true 0 [4, 6, 45, 46, 47] (evp Q85 [(37, [.int .i64]), (38, [.int .i64]), (40, [.imm 1]), (43, [.int .i64]), (50, [.int .i64]), (51, [.int .i64]), (53, [.imm 1]), (57, [.int .i64]), (59, [.imm 1, .imm 5]), (1000003, [])] [] true lq18_0 0 2097152 F18b1) u18_1 s18_1 N18_1 2097152) :: lq18_0
noncomputable def w18_1 (v : V18_1) : V18_1 := (hid (loopV N18_1 2097152 v)).getD v
noncomputable def i18_1 (v : V18_1) : Bool := (hid (loopV N18_1 2097152 v)).isSome
noncomputable def y18_0 (x0 : List Row) (x1 : List Row) : V18_0 := (w18_0 (V18_0.mk (GBus.mk [] []) (GBus.mk (List.replicate 512 (rowI 0)) []) x1 x0 (lenI x0) 0))
noncomputable def y18_1 (x0 : List Row) (x1 : List Row) : Bool := (eqN (List.length (y18_0 x0 x1).b0.Bytes) (List.length (y18_0 x0 x1).b0.Bytes))
noncomputable def y18_2 (x0 : List Row) (x1 : List Row) : Bool := (eqN (List.length (y18_0 x0 x1).b0.Log) (List.length (y18_0 x0 x1).b0.Log))
noncomputable def y18_3 (x0 : List Row) (x1 : List Row) : Bool := ((y18_1 x0 x1) && ((y18_2 x0 x1) && true))
noncomputable def y18_4 (x0 : List Row) (x1 : List Row) : Bool := ((eqN (List.length (y18_0 x0 x1).b1.Bytes) (List.length (y18_0 x0 x1).b1.Bytes)) && ((eqN (List.length (y18_0 x0 x1).b1.Log) (List.length (y18_0 x0 x1).b1.Log)) && true))
noncomputable def y18_5 (x0 : List Row) (x1 : List Row) : Bool := ((y18_1 x0 x1) && ((y18_2 x0 x1) && (y18_4 x0 x1)))
noncomputable def y18_6 (x0 : List Row) (x1 : List Row) : Nat := (List.length (w18_1 (V18_1.mk (y18_0 x0 x1).b0 (y18_0 x0 x1).b1 (y18_0 x0 x1).s1 (lenI (y18_0 x0 x1).s1) 0)).b1.Bytes)
noncomputable def y18_7 (x0 : List Row) (x1 : List Row) : Nat := (List.length (w18_1 (V18_1.mk (y18_0 x0 x1).b0 (y18_0 x0 x1).b1 (y18_0 x0 x1).s1 (lenI (y18_0 x0 x1).s1) 0)).b1.Log)
noncomputable def y18_8 (x0 : List Row) (x1 : List Row) : Bool := ((eqN (y18_6 x0 x1) (y18_6 x0 x1)) && ((eqN (y18_7 x0 x1) (y18_7 x0 x1)) && true))
noncomputable def T18 (x0 : List Row) (x1 : List Row) : Pt (GBus × Bool) := (.ok true (.ok ((k85 x0) && ((((k85 x1) && true) || (!(g85 x0))) && true)) (.br (bif (bif (bif (!(g85 x0)) then true else (!(g85 x1))) then true else (gtI (lenI x0) 384)) then true else (gtI (lenI x1) 64)) (.ok true (.ok true (.leaf ((GBus.mk [] []), false)))) (.ok true (.ok true (.ok true (.ok true (.ok (i18_0 (V18_0.mk (GBus.mk [] []) (GBus.mk (List.replicate 512 (rowI 0)) []) x1 x0 (lenI x0) 0)) (.ok true (.ok ((((y18_3 x0 x1) && ((y18_4 x0 x1) && (y18_5 x0 x1))) && true) && ((y18_3 x0 x1) && ((y18_4 x0 x1) && true))) (.ok (y18_5 x0 x1) (.ok (i18_1 (V18_1.mk (y18_0 x0 x1).b0 (y18_0 x0 x1).b1 (y18_0 x0 x1).s1 (lenI (y18_0 x0 x1).s1) 0)) (.ok true (.ok ((y18_8 x0 x1) && ((y18_8 x0 x1) && true)) (.leaf ((w18_1 (V18_1.mk (y18_0 x0 x1).b0 (y18_0 x0 x1).b1 (y18_0 x0 x1).s1 (lenI (y18_0 x0 x1).s1) 0)).b1, true))))))))))))))))
noncomputable def g18 (x0 : List Row) (x1 : List Row) : GBus × Bool := hid (T18 x0 x1).val
noncomputable def k18 (x0 : List Row) (x1 : List Row) : Bool := hid (T18 x0 x1).okv
noncomputable def n18 (x0 : List Row) (x1 : List Row) (r : GBus × Bool) : SV × List Blk := ((.tup [(.agg [.sl 0 0 (List.length r.1.Bytes), .sl 1 0 (List.length r.1.Log)]), (.one (.lit (.bool r.2)))]), [.lst 1 r.1.Bytes, .lst 5 r.1.Log])
theorem e18 (x0 : List Row) (x1 : List Row) : fnP Q85 [(37, [.int .i64]), (38, [.int .i64]), (40, [.imm 1]), (43, [.int .i64]), (50, [.int .i64]), (51, [.int .i64]), (53, [.imm 1]), (57, [.int .i64]), (59, [.imm 1, .imm 5]), (1000003, [])] [] true lq18_1 2097152 F18 [(.one (.imm false 1 x0)), (.one (.imm false 1 x1))] [] = some ((T18 x0 x1).map (n18 x0 x1)) := by kernel_rfl
noncomputable def q18 : List SV → List Blk → Option ((SV × List Blk) × Bool)
  | [(.one (.imm false 1 c0)), (.one (.imm false 1 c1))], [] => some (n18 c0 c1 (g18 c0 c1), k18 c0 c1)
  | _, _ => none
theorem hL18 : Loops (fun live x => TellsP (lpAt lq18_1 (tagC x)) (evc R 0 2097152 (.loop live x))) F18.body := (loops_of (l := [([1, 4, 6, 32, 33, 34], F18b0), ([4, 6, 45, 46, 47], F18b1)]) (by kernel_rfl) ⟨fun σ σr t h ho hl => lt18_0 σ σr t h ho hl, fun σ σr t h ho hl => lt18_1 σ σr t h ho hl, trivial⟩)
theorem t18 (args : List SV) (hp : List Blk) (r : SV × List Blk) (h : q18 args hp = some (r, true)) : frzR R 18 args hp = some r := by
  unfold q18 at h
  split at h
  · rename_i c0 c1
    obtain ⟨hr, hk⟩ := Prod.mk.inj (Option.some.inj h)
    exact (frz_lo (by decide)).trans (R_fn at18 2097152 (fnP_c Q85_ok hL18 (e18 c0 c1) hr hk))
  · simp at h
noncomputable def Q18 : Qt := qcons 18 q18 Q85
theorem Q18_ok : QOk (frzR R) Q18 := qcons_ok t18 Q85_ok
/-! (*spec.l1Cur).among -/
noncomputable def T91 (x1 : List Row) (x0 : Gl1Cur) : Pt (Gl1Cur × Int) := (.ok true (.ok ((k73 (lenI x1) x0) && ((inRow [.int .i64] x1 (g73 (lenI x1) x0).2) && true)) (.ok true (.leaf ((g73 (lenI x1) x0).1, (intAt x1 (Int.toNat (g73 (lenI x1) x0).2) 0))))))
noncomputable def g91 (x1 : List Row) (x0 : Gl1Cur) : Gl1Cur × Int := hid (T91 x1 x0).val
noncomputable def k91 (x1 : List Row) (x0 : Gl1Cur) : Bool := hid (T91 x1 x0).okv
noncomputable def n91 (x1 : List Row) (x0 : Gl1Cur) (r : Gl1Cur × Int) : SV × List Blk := ((.one (.lit (.int .i64 r.2))), [.box [.imm true 1 r.1.fcode, .lit (.int .i64 r.1.fat), .lit (.int .u64 r.1.fseed)]])
theorem e91 (x1 : List Row) (x0 : Gl1Cur) : fnP Q18 [(10, [.int .i64]), (11, [.int .i64])] [] true [] 2097152 F91 [(.one (.ptr 0 0 0)), (.one (.imm false 1 x1))] [.box [.imm true 1 x0.fcode, .lit (.int .i64 x0.fat), .lit (.int .u64 x0.fseed)]] = some ((T91 x1 x0).map (n91 x1 x0)) := by kernel_rfl
noncomputable def q91 : List SV → List Blk → Option ((SV × List Blk) × Bool)
  | [(.one (.ptr 0 0 0)), (.one (.imm false 1 c0))], [.box [.imm true 1 c1, .lit (.int .i64 c2), .lit (.int .u64 c3)]] => some (n91 c0 (Gl1Cur.mk c1 c2 c3) (g91 c0 (Gl1Cur.mk c1 c2 c3)), k91 c0 (Gl1Cur.mk c1 c2 c3))
  | _, _ => none
theorem t91 (args : List SV) (hp : List Blk) (r : SV × List Blk) (h : q91 args hp = some (r, true)) : frzR R 91 args hp = some r := by
  unfold q91 at h
  split at h
  · rename_i c0 c1 c2 c3
    obtain ⟨hr, hk⟩ := Prod.mk.inj (Option.some.inj h)
    exact (frz_lo (by decide)).trans (R_fn at91 2097152 (fnP_c Q18_ok (loops_of (l := []) rfl trivial) (e91 c0 (Gl1Cur.mk c1 c2 c3)) hr hk))
  · simp at h
noncomputable def Q91 : Qt := qcons 91 q91 Q18
theorem Q91_ok : QOk (frzR R) Q91 := qcons_ok t91 Q18_ok
/-! (*spec.l1Cur).addr -/
noncomputable def y79_0 (x0 : Gl1Cur) : Gl1Cur × Int := (g91 [(rowI 0), (rowI 1), (rowI 2), (rowI 100), (rowI 383), (rowI 384), (rowI 446), (rowI 447), (rowI 448), (rowI 494), (rowI 495), (rowI 496), (rowI 510), (rowI 511), (rowI 512), (rowI 65535), (rowI (-1)), (rowI 65536), (rowI 20), (rowI 30)] x0)
noncomputable def T79 (x0 : Gl1Cur) : Pt (Gl1Cur × Int) := (.ok true (.ok ((k91 [(rowI 0), (rowI 1), (rowI 2), (rowI 100), (rowI 383), (rowI 384), (rowI 446), (rowI 447), (rowI 448), (rowI 494), (rowI 495), (rowI 496), (rowI 510), (rowI 511), (rowI 512), (rowI 65535), (rowI (-1)), (rowI 65536), (rowI 20), (rowI 30)] x0) && true) (.ok true (.leaf ((y79_0 x0).1, (y79_0 x0).2)))))
noncomputable def g79 (x0 : Gl1Cur) : Gl1Cur × Int := hid (T79 x0).val
noncomputable def k79 (x0 : Gl1Cur) : Bool := hid (T79 x0).okv
noncomputable def n79 (x0 : Gl1Cur) (r : Gl1Cur × Int) : SV × List Blk := ((.one (.lit (.int .i64 r.2))), [.box [.imm true 1 r.1.fcode, .lit (.int .i64 r.1.fat), .lit (.int .u64 r.1.fseed)]])
theorem e79 (x0 : Gl1Cur) : fnP Q91 [] [] true [] 2097152 F79 [(.one (.ptr 0 0 0))] [.box [.imm true 1 x0.fcode, .lit (.int .i64 x0.fat), .lit (.int .u64 x0.fseed)]] = some ((T79 x0).map (n79 x0)) := by kernel_rfl
noncomputable def q79 : List SV → List Blk → Option ((SV × List Blk) × Bool)
  | [(.one (.ptr 0 0 0))], [.box [.imm true 1 c0, .lit (.int .i64 c1), .lit (.int .u64 c2)]] => some (n79 (Gl1Cur.mk c0 c1 c2) (g79 (Gl1Cur.mk c0 c1 c2)), k79 (Gl1Cur.mk c0 c1 c2))
  | _, _ => none
theorem t79 (args : List SV) (hp : List Blk) (r : SV × List Blk) (h : q79 args hp = some (r, true)) : frzR R 79 args hp = some r := by
  unfold q79 at h
  split at h
  · rename_i c0 c1 c2
    obtain ⟨hr, hk⟩ := Prod.mk.inj (Option.some.inj h)
    exact (frz_lo (by decide)).trans (R_fn at79 2097152 (fnP_c Q91_ok (loops_of (l := []) rfl trivial) (e79 (Gl1Cur.mk c0 c1 c2)) hr hk))
  · simp at h
noncomputable def Q79 : Qt := qcons 79 q79 Q91
theorem Q79_ok : QOk (frzR R) Q79 := qcons_ok t79 Q91_ok
/-! spec.l1Size -/
noncomputable def T155 (x0 : Int) : Pt (Bool) := (.ok true (.ok true (.ok true (.ok true (.leaf (bif (eqI x0 1) then true else (eqI x0 2)))))))
noncomputable def g155 (x0 : Int) : Bool := hid (T155 x0).val
noncomputable def k155 (x0 : Int) : Bool := hid (T155 x0).okv
noncomputable def n155 (x0 : Int) (r : Bool) : SV × List Blk := ((.one (.lit (.bool r))), [])
theorem e155 (x0 : Int) : fnZ Q79 [] [] true [] 2097152 F155 [(.one (.lit (.int .i64 x0)))] = some ((T155 x0).map (n155 x0)) := by kernel_rfl
noncomputable def q155 : List SV → List Blk → Option ((SV × List Blk) × Bool)
  | [(.one (.lit (.int .i64 c0)))], [] => some (n155 c0 (g155 c0), k155 c0)
  | _, _ => none
theorem t155 (args : List SV) (hp : List Blk) (r : SV × List Blk) (h : q155 args hp = some (r, true)) : frzR R 100155 args hp = some r := by
  unfold q155 at h
  split at h
  · rename_i c0
    obtain ⟨hr, hk⟩ := Prod.mk.inj (Option.some.inj h)
    exact fnZ_c (f := 155) Q79_ok (loops_of (l := []) rfl trivial) (e155 c0) hr hk (fun r h => R_fn at155 2097152 h)
  · simp at h
noncomputable def Q155 : Qt := qcons 100155 q155 Q79
theorem Q155_ok : QOk (frzR R) Q155 := qcons_ok t155 Q79_ok
/-! spec.l1Top -/
noncomputable def T156 (x0 : Int) : Pt (Int) := (.ok true (.ok ((leI 0 (wrapK .u64 (mulI 8 x0))) && true) (.ok true (.ok true (.leaf (shlI 1 (wrapK .u64 (mulI 8 x0))))))))
noncomputable def g156 (x0 : Int) : Int := hid (T156 x0).val
noncomputable def k156 (x0 : Int) : Bool := hid (T156 x0).okv
noncomputable def n156 (x0 : Int) (r : Int) : SV × List Blk := ((.one (.lit (.int .i64 r))), [])
theorem e156 (x0 : Int) : fnZ Q155 [] [] true [] 2097152 F156 [(.one (.lit (.int .i64 x0)))] = some ((T156 x0).map (n156 x0)) := by kernel_rfl
noncomputable def q156 : List SV → List Blk → Option ((SV × List Blk) × Bool)
  | [(.one (.lit (.int .i64 c0)))], [] => some (n156 c0 (g156 c0), k156 c0)
  | _, _ => none
theorem t156 (args : List SV) (hp : List Blk) (r : SV × List Blk) (h : q156 args hp = some (r, true)) : frzR R 100156 args hp = some r := by
  unfold q156 at h
  split at h
  · rename_i c0
    obtain ⟨hr, hk⟩ := Prod.mk.inj (Option.some.inj h)
    exact fnZ_c (f := 156) Q155_ok (loops_of (l := []) rfl trivial) (e156 c0) hr hk (fun r h => R_fn at156 2097152 h)
  · simp at h
noncomputable def Q156 : Qt := qcons 100156 q156 Q155
theorem Q156_ok : QOk (frzR R) Q156 := qcons_ok t156 Q155_ok
/-! spec.l1Value -/
noncomputable def T98 (x0 : Int) (x1 : Int) : Pt (Bool) := (.ok true (.ok ((k155 x0) && ((((k156 x0) && ((k78 x1 0 (subI (g156 x0) 1)) && true)) || (!(g155 x0))) && true)) (.ok true (.ok true (.leaf (bif (g155 x0) then (g78 x1 0 (subI (g156 x0) 1)) else false))))))
noncomputable def g98 (x0 : Int) (x1 : Int) : Bool := hid (T98 x0 x1).val
noncomputable def k98 (x0 : Int) (x1 : Int) : Bool := hid (T98 x0 x1).okv
noncomputable def n98 (x0 : Int) (x1 : Int) (r : Bool) : SV × List Blk := ((.one (.lit (.bool r))), [])
theorem e98 (x0 : Int) (x1 : Int) : fnZ Q156 [] [] true [] 2097152 F98 [(.one (.lit (.int .i64 x0))), (.one (.lit (.int .i64 x1)))] = some ((T98 x0 x1).map (n98 x0 x1)) := by kernel_rfl
noncomputable def q98 : List SV → List Blk → Option ((SV × List Blk) × Bool)
  | [(.one (.lit (.int .i64 c0))), (.one (.lit (.int .i64 c1)))], [] => some (n98 c0 c1 (g98 c0 c1), k98 c0 c1)
  | _, _ => none
theorem t98 (args : List SV) (hp : List Blk) (r : SV × List Blk) (h : q98 args hp = some (r, true)) : frzR R 100098 args hp = some r := by
  unfold q98 at h
  split at h
  · rename_i c0 c1
    obtain ⟨hr, hk⟩ := Prod.mk.inj (Option.some.inj h)
    exact fnZ_c (f := 98) Q156_ok (loops_of (l := []) rfl trivial) (e98 c0 c1) hr hk (fun r h => R_fn at98 2097152 h)
  · simp at h
noncomputable def Q98 : Qt := qcons 100098 q98 Q156
theorem Q98_ok : QOk (frzR R) Q98 := qcons_ok t98 Q156_ok
/-! spec.l4Addr -/
noncomputable def T99 (x0 : Int) : Pt (Bool) := (.ok true (.ok ((k78 x0 0 65535) && true) (.ok true (.ok true (.leaf (g78 x0 0 65535))))))
noncomputable def g99 (x0 : Int) : Bool := hid (T99 x0).val
noncomputable def k99 (x0 : Int) : Bool := hid (T99 x0).okv
noncomputable def n99 (x0 : Int) (r : Bool) : SV × List Blk := ((.one (.lit (.bool r))), [])
theorem e99 (x0 : Int) : fnZ Q98 [] [] true [] 2097152 F99 [(.one (.lit (.int .i64 x0)))] = some ((T99 x0).map (n99 x0)) := by kernel_rfl
noncomputable def q99 : List SV → List Blk → Option ((SV × List Blk) × Bool)
  | [(.one (.lit (.int .i64 c0)))], [] => some (n99 c0 (g99 c0), k99 c0)
  | _, _ => none
theorem t99 (args : List SV) (hp : List Blk) (r : SV × List Blk) (h : q99 args hp = some (r, true)) : frzR R 100099 args hp = some r := by
  unfold q99 at h
  split at h
  · rename_i c0
    obtain ⟨hr, hk⟩ := Prod.mk.inj (Option.some.inj h)
    exact fnZ_c (f := 99) Q98_ok (loops_of (l := []) rfl trivial) (e99 c0) hr hk (fun r h => R_fn at99 2097152 h)
  · simp at h
noncomputable def Q99 : Qt := qcons 100099 q99 Q98
theorem Q99_ok : QOk (frzR R) Q99 := qcons_ok t99 Q98_ok
/-! spec.l4Access -/
noncomputable def y102_0 (x0 : GAccess) : Bool := (bif (!(g78 x0.Kind 1 3)) then true else (!(g98 x0.Size x0.Value)))
noncomputable def y102_1 (x0 : GAccess) : Bool := (bif (y102_0 x0) then true else (!(g99 x0.Addr)))
noncomputable def T102 (x0 : GAccess) : Pt (Bool) := (.ok true (.ok ((k78 x0.Kind 1 3) && ((((k98 x0.Size x0.Value) && true) || (!(g78 x0.Kind 1 3))) && ((((k99 x0.Addr) && true) || (y102_0 x0)) && ((((k78 x0.Code 0 3) && true) || (y102_1 x0)) && true)))) (.br (bif (y102_1 x0) then true else (!(g78 x0.Code 0 3))) (.ok true (.ok true (.ok true (.leaf false)))) (.ok true (.ok true (.ok true (.leaf (bif (neI x0.Kind 3) then true else (neI x0.Code 0)))))))))
noncomputable def g102 (x0 : GAccess) : Bool := hid (T102 x0).val
noncomputable def k102 (x0 : GAccess) : Bool := hid (T102 x0).okv
noncomputable def n102 (x0 : GAccess) (r : Bool) : SV × List Blk := ((.one (.lit (.bool r))), [])
theorem e102 (x0 : GAccess) : fnZ Q99 [(4, [.int .i64]), (9, [.int .i64]), (11, [.int .i64]), (17, [.int .i64]), (23, [.int .i64]), (28, [.int .i64]), (32, [.int .i64])] [] true [] 2097152 F102 [(.agg [.lit (.int .i64 x0.Kind), .lit (.int .i64 x0.Size), .lit (.int .i64 x0.Addr), .lit (.int .i64 x0.Value), .lit (.int .i64 x0.Code)])] = some ((T102 x0).map (n102 x0)) := by kernel_rfl
noncomputable def q102 : List SV → List Blk → Option ((SV × List Blk) × Bool)
  | [(.agg [.lit (.int .i64 c0), .lit (.int .i64 c1), .lit (.int .i64 c2), .lit (.int .i64 c3), .lit (.int .i64 c4)])], [] => some (n102 (GAccess.mk c0 c1 c2 c3 c4) (g102 (GAccess.mk c0 c1 c2 c3 c4)), k102 (GAccess.mk c0 c1 c2 c3 c4))
  | _, _ => none
theorem t102 (args : List SV) (hp : List Blk) (r : SV × List Blk) (h : q102 args hp = some (r, true)) : frzR R 100102 args hp = some r := by
  unfold q102 at h
  split at h
  · rename_i c0 c1 c2 c3 c4
    obtain ⟨hr, hk⟩ := Prod.mk.inj (Option.some.inj h)
    exact fnZ_c (f := 102) Q99_ok (loops_of (l := []) rfl trivial) (e102 (GAccess.mk c0 c1 c2 c3 c4)) hr hk (fun r h => R_fn at102 2097152 h)
  · simp at h
noncomputable def Q102 : Qt := qcons 100102 q102 Q99
theorem Q102_ok : QOk (frzR R) Q102 := qcons_ok t102 Q99_ok
/-! spec.GoodBus -/
structure V25_0 where
  mk ::
  (b0 : GBus)
  (s6 : List Row)
  (s7 : Int)
  (s8 : Int)
noncomputable def N25_0 (v : V25_0) : Pt (Option V25_0) := (.ok true (.br (ltI v.s8 v.s7) (.ok ((inRow [.int .i64, .int .i64, .int .i64, .int .i64, .int .i64] v.s6 v.s8) && true) (.ok ((k102 (GAccess.at v.s6 (Int.toNat v.s8) 0)) && true) (.br (!(g102 (GAccess.at v.s6 (Int.toNat v.s8) 0))) (.ok true (.leaf none)) (.ok true (.ok true (.leaf (some { v with s8 := (addI v.s8 1) }))))))) (.leaf none)))
noncomputable def s25_0 (v : V25_0) : St := ⟨[(1, (.one (.ptr 0 0 0))), (6, (.one (.imm false 5 v.s6))), (7, (.one (.lit (.int .i64 v.s7)))), (8, (.one (.lit (.int .i64 v.s8))))], [.box [.imm false 1 v.b0.Bytes, .imm false 5 v.b0.Log]]⟩
def u25_0 : St → Option (V25_0 × Bool)
  | ⟨[(1, (.one (.ptr 0 0 0))), (6, (.one (.imm false 5 c2))), (7, (.one (.lit (.int .i64 c3)))), (8, (.one (.lit (.int .i64 c4))))], [.box [.imm false 1 c0, .imm false 5 c1]]⟩ => some ((V25_0.mk (GBus.mk c0 c1) c2 c3 c4), true)
  | _ => none
theorem hN25_0 (v : V25_0) : ((evp Q102 [(6, [.imm 5]), (10, [.int .i64, .int .i64, .int .i64, .int .i64, .int .i64]), (11, [.int .i64, .int .i64, .int .i64, .int .i64, .int .i64]), (12, [.int .i64, .int .i64, .int .i64, .int .i64, .int .i64]), (17, [.imm 1]), (22, [.imm 1]), (27, [.imm 5])] [] true [] 0 2097152 F25b0 (s25_0 v)).bind (stpT true false 0 [1, 6, 7, 8])) = some ((N25_0 v).map (Option.map s25_0)) := by kernel_rfl
theorem hu25_0 (σ : St) (v : V25_0) (h : u25_0 σ = some (v, true)) : σ = s25_0 v := by
  unfold u25_0 at h
  split at h
  · obtain ⟨hr, hk⟩ := Prod.mk.inj (Option.some.inj h)
    rw [← hr]
    rfl
  · simp at h
theorem lt25_0 : TellsP (lqP true false 0 [1, 6, 7, 8] (evp Q102 [(6, [.imm 5]), (10, [.int .i64, .int .i64, .int .i64, .int .i64, .int .i64]), (11, [.int .i64, .int .i64, .int .i64, .int .i64, .int .i64]), (12, [.int .i64, .int .i64, .int .i64, .int .i64, .int .i64]), (17, [.imm 1]), (22, [.imm 1]), (27, [.imm 5])] [] true [] 0 2097152 F25b0) u25_0 s25_0 N25_0 2097152) (evc R 0 2097152 (.loop [1, 6, 7, 8] F25b0)) := lqP_tells (evp_tells Q102_ok (loops_of (l := []) (by kernel_rfl) trivial)) hu25_0 hN25_0
noncomputable def lq25_0 : Lp := (9, lqP true false 0 [1, 6, 7, 8] (evp Q102 [(6, [.imm 5]), (10, [.int .i64, .int .i64, .int .i64, .int .i64, .int .i64]), (11, [.int .i64, .int .i64, .int .i64, .int .i64, .int .i64]), (12, [.int .i64, .int .i64, .int .i64, .int .i64, .int .i64]), (17, [.imm 1]), (22, [.imm 1]), (27, [.imm 5])] [] true [] 0 2097152 F25b0) u25_0 s25_0 N25_0 2097152) :: []
noncomputable def w25_0 (v : V25_0) : V25_0 := (hid (loopV N25_0 2097152 v)).getD v
noncomputable def i25_0 (v : V25_0) : Bool := (hid (loopV N25_0 2097152 v)).isSome
noncomputable def y25_0 (x0 : GBus) : V25_0 := (w25_0 (V25_0.mk x0 x0.Log (lenI x0.Log) 0))
noncomputable def T25 (x0 : GBus) : Pt (Bool) := (.ok true (.ok true (.ok true (.ok true (.ok (i25_0 (V25_0.mk x0 x0.Log (lenI x0.Log) 0)) (.br (ltI (y25_0 x0).s8 (y25_0 x0).s7) (.ok true (.ok true (.leaf false))) (.ok ((((k85 (y25_0 x0).b0.Bytes) && true) || (!(eqI (lenI (y25_0 x0).b0.Bytes) 512))) && true) (.ok true (.ok true (.leaf (bif (bif (eqI (lenI (y25_0 x0).b0.Bytes) 512) then (g85 (y25_0 x0).b0.Bytes) else false) then (leI (lenI (y25_0 x0).b0.Log) 400) else false)))))))))))
noncomputable def g25 (x0 : GBus) : Bool := hid (T25 x0).val
noncomputable def k25 (x0 : GBus) : Bool := hid (T25 x0).okv
noncomputable def n25 (x0 : GBus) (r : Bool) : SV × List Blk := ((.one (.lit (.bool r))), [])
theorem e25 (x0 : GBus) : fnZ Q102 [(6, [.imm 5]), (10, [.int .i64, .int .i64, .int .i64, .int .i64, .int .i64]), (11, [.int .i64, .int .i64, .int .i64, .int .i64, .int .i64]), (12, [.int .i64, .int .i64, .int .i64, .int .i64, .int .i64]), (17, [.imm 1]), (22, [.imm 1]), (27, [.imm 5])] [] true lq25_0 2097152 F25 [(.agg [.imm false 1 x0.Bytes, .imm false 5 x0.Log])] = some ((T25 x0).map (n25 x0)) := by kernel_rfl
noncomputable def q25 : List SV → List Blk → Option ((SV × List Blk) × Bool)
  | [(.agg [.imm false 1 c0, .imm false 5 c1])], [] => some (n25 (GBus.mk c0 c1) (g25 (GBus.mk c0 c1)), k25 (GBus.mk c0 c1))
  | _, _ => none
theorem hL25 : Loops (fun live x => TellsP (lpAt lq25_0 (tagC x)) (evc R 0 2097152 (.loop live x))) F25.body := (loops_of (l := [([1, 6, 7, 8], F25b0)]) (by kernel_rfl) ⟨fun σ σr t h ho hl => lt25_0 σ σr t h ho hl, trivial⟩)
theorem t25 (args : List SV) (hp : List Blk) (r : SV × List Blk) (h : q25 args hp = some (r, true)) : frzR R 100025 args hp = some r := by
  unfold q25 at h
  split at h
  · rename_i c0 c1
    obtain ⟨hr, hk⟩ := Prod.mk.inj (Option.some.inj h)
    exact fnZ_c (f := 25) Q102_ok hL25 (e25 (GBus.mk c0 c1)) hr hk (fun r h => R_fn at25 2097152 h)
  · simp at h
noncomputable def Q25 : Qt := qcons 100025 q25 Q102
theorem Q25_ok : QOk (frzR R) Q25 := qcons_ok t25 Q102_ok
/-! spec.l4Own -/
noncomputable def y100_0 (x0 : GBus) : Bool := ((eqN (List.length x0.Bytes) (List.length x0.Bytes)) && ((eqN (List.length x0.Log) (List.length x0.Log)) && true))
noncomputable def y100_1 (x0 : GBus) : Bool := ((((leN (mulN (0 + (List.length x0.Bytes)) 8) 140737488355328) && (leN (0 + (List.length x0.Bytes)) 140737488355328)) && (((leN (mulN (0 + (List.length x0.Log)) 40) 140737488355328) && (leN (0 + (List.length x0.Log)) 140737488355328)) && true)) && (((y100_0 x0) && (y100_0 x0)) && true))
noncomputable def y100_2 (x0 : GBus) : Bool := (((same (α := Nat) (List.length x0.Bytes) (List.length x0.Bytes)) && ((same (α := Nat) (List.length x0.Log) (List.length x0.Log)) && true)) && ((sameR x0.Bytes x0.Bytes) && ((sameR x0.Log x0.Log) && true)))
noncomputable def y100_3 (x0 : GBus) : Bool := (((y100_1 x0) && (((y100_1 x0) && (((y100_1 x0) && (((y100_1 x0) && (((y100_1 x0) && (((y100_1 x0) && (((y100_1 x0) && (((y100_1 x0) && (((y100_1 x0) && (((y100_1 x0) && (((y100_1 x0) && ((y100_1 x0) && (y100_2 x0))) && (y100_2 x0))) && (y100_2 x0))) && (y100_2 x0))) && (y100_2 x0))) && (y100_2 x0))) && (y100_2 x0))) && (y100_2 x0))) && (y100_2 x0))) && (y100_2 x0))) && (y100_2 x0))) && (y100_2 x0))
noncomputable def y100_4 (x0 : GBus) : Bool := ((y100_1 x0) && (((y100_1 x0) && (((y100_1 x0) && (((y100_1 x0) && (((y100_1 x0) && (((y100_1 x0) && (((y100_1 x0) && (((y100_1 x0) && (((y100_1 x0) && (((y100_1 x0) && (((y100_1 x0) && (((y100_1 x0) && (y100_3 x0)) && (y100_2 x0))) && (y100_2 x0))) && (y100_2 x0))) && (y100_2 x0))) && (y100_2 x0))) && (y100_2 x0))) && (y100_2 x0))) && (y100_2 x0))) && (y100_2 x0))) && (y100_2 x0))) && (y100_2 x0)))
noncomputable def y100_5 (x0 : GBus) : Bool := (((y100_1 x0) && (((y100_1 x0) && (((y100_1 x0) && (((y100_1 x0) && (((y100_1 x0) && (((y100_1 x0) && (((y100_1 x0) && (((y100_1 x0) && (((y100_1 x0) && (((y100_1 x0) && (((y100_1 x0) && ((y100_4 x0) && (y100_2 x0))) && (y100_2 x0))) && (y100_2 x0))) && (y100_2 x0))) && (y100_2 x0))) && (y100_2 x0))) && (y100_2 x0))) && (y100_2 x0))) && (y100_2 x0))) && (y100_2 x0))) && (y100_2 x0))) && (y100_2 x0))
noncomputable def T100 (x0 : GBus) : Pt (GBus) := (.ok true (.ok ((y100_1 x0) && (((y100_1 x0) && (((y100_1 x0) && (y100_5 x0)) && (y100_2 x0))) && (y100_2 x0))) (.ok ((y100_0 x0) && ((y100_0 x0) && true)) (.leaf x0))))
noncomputable def g100 (x0 : GBus) : GBus := hid (T100 x0).val
noncomputable def k100 (x0 : GBus) : Bool := hid (T100 x0).okv
noncomputable def n100 (x0 : GBus) (r : GBus) : SV × List Blk := ((.agg [.sl 0 0 (List.length r.Bytes), .sl 1 0 (List.length r.Log)]), [.lst 1 r.Bytes, .lst 5 r.Log])
theorem e100 (x0 : GBus) (p0 : Bool) (p1 : Bool) : fnP Q25 [(5, [.imm 1]), (9, [.imm 5])] [] true [] 2097152 F100 [(.agg [.imm p0 1 x0.Bytes, .imm p1 5 x0.Log])] [] = some ((T100 x0).map (n100 x0)) := by kernel_rfl
noncomputable def q100 : List SV → List Blk → Option ((SV × List Blk) × Bool)
  | [(.agg [.imm p0 1 c0, .imm p1 5 c1])], [] => some (n100 (GBus.mk c0 c1) (g100 (GBus.mk c0 c1)), k100 (GBus.mk c0 c1))
  | _, _ => none
theorem t100 (args : List SV) (hp : List Blk) (r : SV × List Blk) (h : q100 args hp = some (r, true)) : frzR R 100 args hp = some r := by
  unfold q100 at h
  split at h
  · rename_i p0 c0 p1 c1
    obtain ⟨hr, hk⟩ := Prod.mk.inj (Option.some.inj h)
    exact (frz_lo (by decide)).trans (R_fn at100 2097152 (fnP_c Q25_ok (loops_of (l := []) rfl trivial) (e100 (GBus.mk c0 c1) p0 p1) hr hk))
  · simp at h
noncomputable def Q100 : Qt := qcons 100 q100 Q25
theorem Q100_ok : QOk (frzR R) Q100 := qcons_ok t100 Q25_ok
/-! spec.l4Kind -/
noncomputable def T107 (x0 : Int) : Pt (Int) := (.ok true (.ok true (.ok (((k78 x0 448 495) && true) || (geI x0 512)) (.br (bif (geI x0 512) then (geI x0 512) else (g78 x0 448 495)) (.ok true (.ok true (.ok true (.leaf 1)))) (.ok ((k78 x0 384 447) && true) (.br (g78 x0 384 447) (.ok true (.ok true (.ok true (.leaf 3)))) (.ok true (.ok true (.ok true (.leaf 0))))))))))
noncomputable def g107 (x0 : Int) : Int := hid (T107 x0).val
noncomputable def k107 (x0 : Int) : Bool := hid (T107 x0).okv
noncomputable def n107 (x0 : Int) (r : Int) : SV × List Blk := ((.one (.lit (.int .i64 r))), [])
theorem e107 (x0 : Int) : fnZ Q100 [] [] true [] 2097152 F107 [(.one (.lit (.int .i64 x0)))] = some ((T107 x0).map (n107 x0)) := by kernel_rfl
noncomputable def q107 : List SV → List Blk → Option ((SV × List Blk) × Bool)
  | [(.one (.lit (.int .i64 c0)))], [] => some (n107 c0 (g107 c0), k107 c0)
  | _, _ => none
theorem t107 (args : List SV) (hp : List Blk) (r : SV × List Blk) (h : q107 args hp = some (r, true)) : frzR R 100107 args hp = some r := by
  unfold q107 at h
  split at h
  · rename_i c0
    obtain ⟨hr, hk⟩ := Prod.mk.inj (Option.some.inj h)
    exact fnZ_c (f := 107) Q100_ok (loops_of (l := []) rfl trivial) (e107 c0) hr hk (fun r h => R_fn at107 2097152 h)
  · simp at h
noncomputable def Q107 : Qt := qcons 100107 q107 Q100
theorem Q107_ok : QOk (frzR R) Q107 := qcons_ok t107 Q100_ok
/-! spec.l4Code -/
noncomputable def y105_0 (x1 : Int) (x2 : Int) : Int := (g107 (subI (addI x2 x1) 1))
noncomputable def T105 (x0 : Int) (x1 : Int) (x2 : Int) : Pt (Int) := (.ok true (.ok true (.ok true (.br (bif (eqI x1 2) then (eqI (andI x2 1) 1) else false) (.ok true (.ok true (.ok true (.leaf 2)))) (.ok ((k107 x2) && ((((k107 (subI (addI x2 x1) 1)) && true) || (eqI (g107 x2) 1)) && true)) (.br (bif (eqI (g107 x2) 1) then true else (eqI (y105_0 x1 x2) 1)) (.ok true (.ok true (.ok true (.leaf 1)))) (.ok ((((k107 x2) && ((((k107 (subI (addI x2 x1) 1)) && true) || (eqI (g107 x2) 3)) && true)) || (!(eqI x0 2))) && true) (.br (bif (eqI x0 2) then (bif (eqI (g107 x2) 3) then true else (eqI (y105_0 x1 x2) 3)) else false) (.ok true (.ok true (.ok true (.leaf 3)))) (.ok true (.ok true (.ok true (.leaf 0))))))))))))
noncomputable def g105 (x0 : Int) (x1 : Int) (x2 : Int) : Int := hid (T105 x0 x1 x2).val
noncomputable def k105 (x0 : Int) (x1 : Int) (x2 : Int) : Bool := hid (T105 x0 x1 x2).okv
noncomputable def n105 (x0 : Int) (x1 : Int) (x2 : Int) (r : Int) : SV × List Blk := ((.one (.lit (.int .i64 r))), [])
theorem e105 (x0 : Int) (x1 : Int) (x2 : Int) : fnZ Q107 [] [] true [] 2097152 F105 [(.one (.lit (.int .i64 x0))), (.one (.lit (.int .i64 x1))), (.one (.lit (.int .i64 x2)))] = some ((T105 x0 x1 x2).map (n105 x0 x1 x2)) := by kernel_rfl
noncomputable def q105 : List SV → List Blk → Option ((SV × List Blk) × Bool)
  | [(.one (.lit (.int .i64 c0))), (.one (.lit (.int .i64 c1))), (.one (.lit (.int .i64 c2)))], [] => some (n105 c0 c1 c2 (g105 c0 c1 c2), k105 c0 c1 c2)
  | _, _ => none
theorem t105 (args : List SV) (hp : List Blk) (r : SV × List Blk) (h : q105 args hp = some (r, true)) : frzR R 100105 args hp = some r := by
  unfold q105 at h
  split at h
  · rename_i c0 c1 c2
    obtain ⟨hr, hk⟩ := Prod.mk.inj (Option.some.inj h)
    exact fnZ_c (f := 105) Q107_ok (loops_of (l := []) rfl trivial) (e105 c0 c1 c2) hr hk (fun r h => R_fn at105 2097152 h)
  · simp at h
noncomputable def Q105 : Qt := qcons 100105 q105 Q107
theorem Q105_ok : QOk (frzR R) Q105 := qcons_ok t105 Q107_ok
/-! spec.l4Touch -/
structure V101_0 where
  mk ::
  (b0 : GBus)
  (s1 : Int)
  (s2 : Int)
  (s3 : Int)
  (s4 : Int)
  (s12 : Int)
  (s13 : Int)
  (s14 : Int)
noncomputable def y101_0_l_0 (v : V101_0) : Int := (wrapK .u64 (mulI 8 (subI (subI v.s2 1) v.s14)))
noncomputable def y101_0_l_1 (v : V101_0) : Bool := ((leI 0 (addI v.s3 v.s14)) && (ltI (addI v.s3 v.s14) (lenI v.b0.Bytes)))
noncomputable def y101_0_l_2 (v : V101_0) : Bool := ((eqN (List.length v.b0.Log) (List.length v.b0.Log)) && true)
noncomputable def y101_0_l_3 (v : V101_0) : Bool := ((eqN (List.length v.b0.Bytes) (List.length v.b0.Bytes)) && (y101_0_l_2 v))
noncomputable def y101_0_l_4 (v : V101_0) : List Row := (List.set v.b0.Bytes (0 + (Int.toNat (addI v.s3 v.s14))) (rowI (andI (shrI v.s4 (y101_0_l_0 v)) 255)))
noncomputable def y101_0_l_5 (v : V101_0) : Bool := ((eqN (List.length v.b0.Bytes) (List.length (y101_0_l_4 v))) && (y101_0_l_2 v))
noncomputable def N101_0 (v : V101_0) : Pt (Option V101_0) := (.ok true (.br (ltI v.s14 v.s2) (.ok true (.br (eqI v.s1 2) (.ok ((leI 0 (y101_0_l_0 v)) && ((y101_0_l_1 v) && (((blt (0 + (Int.toNat (addI v.s3 v.s14))) (List.length v.b0.Bytes)) && (beqN (rlen v.b0.Bytes (0 + (Int.toNat (addI v.s3 v.s14)))) 1)) && true))) (.ok true (.ok ((((y101_0_l_3 v) && (y101_0_l_5 v)) && true) && ((y101_0_l_5 v) && true)) (.leaf (some { v with b0 := { v.b0 with Bytes := (y101_0_l_4 v) }, s14 := (addI v.s14 1) }))))) (.ok ((y101_0_l_1 v) && ((hasRow [.int .i64] v.b0.Bytes (0 + (Int.toNat (addI v.s3 v.s14))) 0) && true)) (.ok true (.ok ((((y101_0_l_3 v) && (y101_0_l_3 v)) && true) && ((y101_0_l_3 v) && true)) (.leaf (some { v with s13 := (orI (shlI v.s13 8) (intAt v.b0.Bytes (0 + (Int.toNat (addI v.s3 v.s14))) 0)), s14 := (addI v.s14 1) }))))))) (.leaf none)))
noncomputable def s101_0 (v : V101_0) : St := ⟨[(0, (.one (.ptr 0 0 0))), (1, (.one (.lit (.int .i64 v.s1)))), (2, (.one (.lit (.int .i64 v.s2)))), (3, (.one (.lit (.int .i64 v.s3)))), (4, (.one (.lit (.int .i64 v.s4)))), (12, (.one (.lit (.int .i64 v.s12)))), (13, (.one (.lit (.int .i64 v.s13)))), (14, (.one (.lit (.int .i64 v.s14))))], [.box [.sl 1 0 (List.length v.b0.Bytes), .sl 2 0 (List.length v.b0.Log)], .lst 1 v.b0.Bytes, .lst 5 v.b0.Log]⟩
def u101_0 : St → Option (V101_0 × Bool)
  | ⟨[(0, (.one (.ptr 0 0 0))), (1, (.one (.lit (.int .i64 c0)))), (2, (.one (.lit (.int .i64 c1)))), (3, (.one (.lit (.int .i64 c2)))), (4, (.one (.lit (.int .i64 c3)))), (12, (.one (.lit (.int .i64 c4)))), (13, (.one (.lit (.int .i64 c5)))), (14, (.one (.lit (.int .i64 c6))))], [.box [.sl 1 0 l1, .sl 2 0 l2], .lst 1 c_1, .lst 5 c_2]⟩ => some ((V101_0.mk (GBus.mk c_1 c_2) c0 c1 c2 c3 c4 c5 c6), eqN l1 (List.length c_1) && (eqN l2 (List.length c_2) && (true)))
  | _ => none
theorem hN101_0 (v : V101_0) : ((evp Q105 [(34, [.imm 1]), (47, [.int .i64]), (53, [.imm 1]), (57, [.int .i64]), (58, [.int .i64]), (63, [.imm 5]), (78, [.imm 5]), (1000003, [])] [] true [] 1 2097152 F101b0 (s101_0 v)).bind (stpT true true 1 [0, 1, 2, 3, 4, 12, 13, 14])) = some ((N101_0 v).map (Option.map s101_0)) := by kernel_rfl
theorem hu101_0 (σ : St) (v : V101_0) (h : u101_0 σ = some (v, true)) : σ = s101_0 v := by
  unfold u101_0 at h
  split at h
  · obtain ⟨hr, hk⟩ := Prod.mk.inj (Option.some.inj h)
    obtain ⟨d0, hk0⟩ := and_t hk
    obtain ⟨d1, hk1⟩ := and_t hk0
    obtain rfl := of_decide_eq_true d0
    obtain rfl := of_decide_eq_true d1
    rw [← hr]
    rfl
  · simp at h
theorem lt101_0 : TellsP (lqP true true 1 [0, 1, 2, 3, 4, 12, 13, 14] (evp Q105 [(34, [.imm 1]), (47, [.int .i64]), (53, [.imm 1]), (57, [.int .i64]), (58, [.int .i64]), (63, [.imm 5]), (78, [.imm 5]), (1000003, [])] [] true [] 1 2097152 F101b0) u101_0 s101_0 N101_0 2097152) (evc R 1 2097152 (.loop [0, 1, 2, 3, 4, 12, 13, 14] F101b0)) := lqP_tells (evp_tells Q105_ok (loops_of (l := []) (by kernel_rfl) trivial)) hu101_0 hN101_0
noncomputable def lq101_0 : Lp := (24, lqP true true 1 [0, 1, 2, 3, 4, 12, 13, 14] (evp Q105 [(34, [.imm 1]), (47, [.int .i64]), (53, [.imm 1]), (57, [.int .i64]), (58, [.int .i64]), (63, [.imm 5]), (78, [.imm 5]), (1000003, [])] [] true [] 1 2097152 F101b0) u101_0 s101_0 N101_0 2097152) :: []
noncomputable def w101_0 (v : V101_0) : V101_0 := (hid (loopV N101_0 2097152 v)).getD v
noncomputable def i101_0 (v : V101_0) : Bool := (hid (loopV N101_0 2097152 v)).isSome
noncomputable def y101_0 (x0 : GBus) : Bool := (eqN (List.length x0.Bytes) (List.length x0.Bytes))
noncomputable def y101_1 (x0 : GBus) : Bool := (eqN (List.length x0.Log) (List.length x0.Log))
noncomputable def y101_2 (x0 : GBus) : Bool := ((((y101_0 x0) && ((y101_1 x0) && true)) && ((y101_0 x0) && ((y101_1 x0) && true))) && true)
noncomputable def y101_3 (x1 : Int) (x2 : Int) (x3 : Int) (x4 : Int) (x0 : GBus) : V101_0 := (w101_0 (V101_0.mk x0 x1 x2 x3 x4 (g105 x1 x2 x3) (bif (neI x1 2) then 0 else x4) 0))
noncomputable def y101_4 (x1 : Int) (x2 : Int) (x3 : Int) (x4 : Int) (x0 : GBus) : Nat := (List.length (y101_3 x1 x2 x3 x4 x0).b0.Log)
noncomputable def y101_5 (x1 : Int) (x2 : Int) (x3 : Int) (x4 : Int) (x0 : GBus) : Bool := (eqN (y101_4 x1 x2 x3 x4 x0) (y101_4 x1 x2 x3 x4 x0))
noncomputable def y101_6 (x1 : Int) (x2 : Int) (x3 : Int) (x4 : Int) (x0 : GBus) : Nat := (List.length (y101_3 x1 x2 x3 x4 x0).b0.Bytes)
noncomputable def y101_7 (x1 : Int) (x2 : Int) (x3 : Int) (x4 : Int) (x0 : GBus) : Bool := (eqN (y101_6 x1 x2 x3 x4 x0) (y101_6 x1 x2 x3 x4 x0))
noncomputable def y101_8 (x1 : Int) (x2 : Int) (x3 : Int) (x4 : Int) (x0 : GBus) : List Row := ((y101_3 x1 x2 x3 x4 x0).b0.Log ++ [(GAccess.row (GAccess.mk (y101_3 x1 x2 x3 x4 x0).s1 (y101_3 x1 x2 x3 x4 x0).s2 (y101_3 x1 x2 x3 x4 x0).s3 (y101_3 x1 x2 x3 x4 x0).s13 (y101_3 x1 x2 x3 x4 x0).s12))])
noncomputable def y101_9 (x1 : Int) (x2 : Int) (x3 : Int) (x4 : Int) (x0 : GBus) : Bool := ((y101_7 x1 x2 x3 x4 x0) && ((eqN (List.length (y101_8 x1 x2 x3 x4 x0)) (List.length (y101_8 x1 x2 x3 x4 x0))) && true))
noncomputable def y101_10 (x1 : Int) (x2 : Int) (x3 : Int) (x4 : Int) (x0 : GBus) : Bool := ((y101_7 x1 x2 x3 x4 x0) && ((y101_5 x1 x2 x3 x4 x0) && true))
noncomputable def y101_11 (x1 : Int) (x2 : Int) (x3 : Int) (x4 : Int) (x0 : GBus) : List Row := (x0.Log ++ [(GAccess.row (GAccess.mk x1 x2 x3 (bif (neI x1 2) then 0 else x4) (g105 x1 x2 x3)))])
noncomputable def y101_12 (x1 : Int) (x2 : Int) (x3 : Int) (x4 : Int) (x0 : GBus) : Bool := ((y101_0 x0) && ((eqN (List.length (y101_11 x1 x2 x3 x4 x0)) (List.length (y101_11 x1 x2 x3 x4 x0))) && true))
noncomputable def T101 (x1 : Int) (x2 : Int) (x3 : Int) (x4 : Int) (x0 : GBus) : Pt (GBus × Int × Int) := (.ok true (.ok ((k105 x1 x2 x3) && true) (.ok true (.ok true (.ok true (.ok true (.br (eqI (g105 x1 x2 x3) 0) (.ok true (.ok ((y101_2 x0) && (((y101_0 x0) && ((y101_1 x0) && true)) && true)) (.ok ((y101_0 x0) && ((y101_1 x0) && true)) (.ok (i101_0 (V101_0.mk x0 x1 x2 x3 x4 (g105 x1 x2 x3) (bif (neI x1 2) then 0 else x4) 0)) (.ok ((leN (0 + (y101_4 x1 x2 x3 x4 x0)) (y101_4 x1 x2 x3 x4 x0)) && true) (.br (bif (ltI (lenI (y101_3 x1 x2 x3 x4 x0).b0.Log) 400) then (bif (neI (y101_3 x1 x2 x3 x4 x0).s1 3) then true else (neI (y101_3 x1 x2 x3 x4 x0).s12 0)) else false) (.ok (((y101_5 x1 x2 x3 x4 x0) && ((eqN (0 + (y101_4 x1 x2 x3 x4 x0)) (y101_4 x1 x2 x3 x4 x0)) && ((leN (mulN ((y101_4 x1 x2 x3 x4 x0) + 1) 40) 140737488355328) && (leN ((y101_4 x1 x2 x3 x4 x0) + 1) 140737488355328)))) && true) (.ok true (.ok (((y101_9 x1 x2 x3 x4 x0) && (y101_9 x1 x2 x3 x4 x0)) && true) (.leaf ({ (y101_3 x1 x2 x3 x4 x0).b0 with Log := (y101_8 x1 x2 x3 x4 x0) }, (y101_3 x1 x2 x3 x4 x0).s13, (y101_3 x1 x2 x3 x4 x0).s12))))) (.ok true (.ok (((y101_10 x1 x2 x3 x4 x0) && (y101_10 x1 x2 x3 x4 x0)) && true) (.leaf ((y101_3 x1 x2 x3 x4 x0).b0, (y101_3 x1 x2 x3 x4 x0).s13, (y101_3 x1 x2 x3 x4 x0).s12)))))))))) (.ok ((leN (0 + (List.length x0.Log)) (List.length x0.Log)) && true) (.br (bif (ltI (lenI x0.Log) 400) then (bif (neI x1 3) then true else (neI (g105 x1 x2 x3) 0)) else false) (.ok (((y101_1 x0) && ((eqN (0 + (List.length x0.Log)) (List.length x0.Log)) && ((leN (mulN ((List.length x0.Log) + 1) 40) 140737488355328) && (leN ((List.length x0.Log) + 1) 140737488355328)))) && true) (.ok true (.ok (((y101_12 x1 x2 x3 x4 x0) && (y101_12 x1 x2 x3 x4 x0)) && true) (.leaf ({ x0 with Log := (y101_11 x1 x2 x3 x4 x0) }, (bif (neI x1 2) then 0 else x4), (g105 x1 x2 x3)))))) (.ok true (.ok (y101_2 x0) (.leaf (x0, (bif (neI x1 2) then 0 else x4), (g105 x1 x2 x3))))))))))))))
noncomputable def g101 (x1 : Int) (x2 : Int) (x3 : Int) (x4 : Int) (x0 : GBus) : GBus × Int × Int := hid (T101 x1 x2 x3 x4 x0).val
noncomputable def k101 (x1 : Int) (x2 : Int) (x3 : Int) (x4 : Int) (x0 : GBus) : Bool := hid (T101 x1 x2 x3 x4 x0).okv
noncomputable def n101 (x1 : Int) (x2 : Int) (x3 : Int) (x4 : Int) (x0 : GBus) (r : GBus × Int × Int) : SV × List Blk := ((.tup [(.one (.lit (.int .i64 r.2.1))), (.one (.lit (.int .i64 r.2.2)))]), [.box [.sl 1 0 (List.length r.1.Bytes), .sl 2 0 (List.length r.1.Log)], .lst 1 r.1.Bytes, .lst 5 r.1.Log])
theorem e101 (x1 : Int) (x2 : Int) (x3 : Int) (x4 : Int) (x0 : GBus) : fnP Q105 [(34, [.imm 1]), (47, [.int .i64]), (53, [.imm 1]), (57, [.int .i64]), (58, [.int .i64]), (63, [.imm 5]), (78, [.imm 5]), (1000003, [])] [] true lq101_0 2097152 F101 [(.one (.ptr 0 0 0)), (.one (.lit (.int .i64 x1))), (.one (.lit (.int .i64 x2))), (.one (.lit (.int .i64 x3))), (.one (.lit (.int .i64 x4)))] [.box [.sl 1 0 (List.length x0.Bytes), .sl 2 0 (List.length x0.Log)], .lst 1 x0.Bytes, .lst 5 x0.Log] = some ((T101 x1 x2 x3 x4 x0).map (n101 x1 x2 x3 x4 x0)) := by kernel_rfl
noncomputable def q101 : List SV → List Blk → Option ((SV × List Blk) × Bool)
  | [(.one (.ptr 0 0 0)), (.one (.lit (.int .i64 c0))), (.one (.lit (.int .i64 c1))), (.one (.lit (.int .i64 c2))), (.one (.lit (.int .i64 c3)))], [.box [.sl 1 0 l1, .sl 2 0 l2], .lst 1 c_1, .lst 5 c_2] => some (n101 c0 c1 c2 c3 (GBus.mk c_1 c_2) (g101 c0 c1 c2 c3 (GBus.mk c_1 c_2)), eqN l1 (List.length c_1) && (eqN l2 (List.length c_2) && (k101 c0 c1 c2 c3 (GBus.mk c_1 c_2))))
  | _, _ => none
theorem hL101 : Loops (fun live x => TellsP (lpAt lq101_0 (tagC x)) (evc R 1 2097152 (.loop live x))) F101.body := (loops_of (l := [([0, 1, 2, 3, 4, 12, 13, 14], F101b0)]) (by kernel_rfl) ⟨fun σ σr t h ho hl => lt101_0 σ σr t h ho hl, trivial⟩)
theorem t101 (args : List SV) (hp : List Blk) (r : SV × List Blk) (h : q101 args hp = some (r, true)) : frzR R 101 args hp = some r := by
  unfold q101 at h
  split at h
  · rename_i c0 c1 c2 c3 l1 l2 c_1 c_2
    obtain ⟨hr, hk⟩ := Prod.mk.inj (Option.some.inj h)
    obtain ⟨d0, hk0⟩ := and_t hk
    obtain ⟨d1, hk1⟩ := and_t hk0
    obtain rfl := of_decide_eq_true d0
    obtain rfl := of_decide_eq_true d1
    exact (frz_lo (by decide)).trans (R_fn at101 2097152 (fnP_c Q105_ok hL101 (e101 c0 c1 c2 c3 (GBus.mk c_1 c_2)) hr hk1))
  · simp at h
noncomputable def Q101 : Qt := qcons 101 q101 Q105
theorem Q101_ok : QOk (frzR R) Q101 := qcons_ok t101 Q105_ok
/-! spec.Touch -/
noncomputable def y24_0 (x0 : GBus) (x1 : Int) : Bool := (bif (!(g25 x0)) then true else (!(g78 x1 1 3)))
noncomputable def y24_1 (x0 : GBus) (x1 : Int) (x2 : Int) (x4 : Int) : Bool := (bif (y24_0 x0 x1) then true else (!(g98 x2 x4)))
noncomputable def y24_2 (x0 : GBus) : Bool := (eqN (List.length (g100 x0).Bytes) (List.length (g100 x0).Bytes))
noncomputable def y24_3 (x0 : GBus) : Bool := (eqN (List.length (g100 x0).Log) (List.length (g100 x0).Log))
noncomputable def y24_4 (x0 : GBus) (x1 : Int) (x2 : Int) (x3 : Int) (x4 : Int) : GBus × Int × Int := (g101 x1 x2 x3 x4 (g100 x0))
noncomputable def y24_5 (x0 : GBus) (x1 : Int) (x2 : Int) (x3 : Int) (x4 : Int) : Nat := (List.length (y24_4 x0 x1 x2 x3 x4).1.Bytes)
noncomputable def y24_6 (x0 : GBus) (x1 : Int) (x2 : Int) (x3 : Int) (x4 : Int) : Nat := (List.length (y24_4 x0 x1 x2 x3 x4).1.Log)
noncomputable def y24_7 (x0 : GBus) (x1 : Int) (x2 : Int) (x3 : Int) (x4 : Int) : GBus := (g100 (y24_4 x0 x1 x2 x3 x4).1)
noncomputable def y24_8 (x0 : GBus) (x1 : Int) (x2 : Int) (x3 : Int) (x4 : Int) : Nat := (List.length (y24_7 x0 x1 x2 x3 x4).Bytes)
noncomputable def y24_9 (x0 : GBus) (x1 : Int) (x2 : Int) (x3 : Int) (x4 : Int) : Bool := ((eqN (y24_8 x0 x1 x2 x3 x4) (y24_8 x0 x1 x2 x3 x4)) && ((eqN (List.length (y24_7 x0 x1 x2 x3 x4).Log) (List.length (y24_7 x0 x1 x2 x3 x4).Log)) && true))
noncomputable def T24 (x0 : GBus) (x1 : Int) (x2 : Int) (x3 : Int) (x4 : Int) : Pt (GBus × Int × Int × Bool) := (.ok true (.ok ((k25 x0) && ((((k78 x1 1 3) && true) || (!(g25 x0))) && ((((k98 x2 x4) && true) || (y24_0 x0 x1)) && ((((k99 x3) && true) || (y24_1 x0 x1 x2 x4)) && true)))) (.br (bif (bif (y24_1 x0 x1 x2 x4) then true else (!(g99 x3))) then true else (bif (neI x1 2) then (neI x4 0) else false)) (.ok true (.ok true (.leaf ((GBus.mk [] []), 0, 0, false)))) (.ok ((k100 x0) && true) (.ok ((((((y24_2 x0) && ((y24_3 x0) && true)) && ((y24_2 x0) && ((y24_3 x0) && true))) && true) && ((y24_2 x0) && ((y24_3 x0) && (k101 x1 x2 x3 x4 (g100 x0))))) && true) (.ok true (.ok true (.ok (((((eqN (y24_5 x0 x1 x2 x3 x4) (y24_5 x0 x1 x2 x3 x4)) && ((eqN (y24_6 x0 x1 x2 x3 x4) (y24_6 x0 x1 x2 x3 x4)) && true)) && true) && (k100 (y24_4 x0 x1 x2 x3 x4).1)) && true) (.ok ((y24_9 x0 x1 x2 x3 x4) && ((y24_9 x0 x1 x2 x3 x4) && true)) (.leaf ((y24_7 x0 x1 x2 x3 x4), (bif (eqI x1 2) then 0 else (y24_4 x0 x1 x2 x3 x4).2.1), (y24_4 x0 x1 x2 x3 x4).2.2, true)))))))))))
noncomputable def g24 (x0 : GBus) (x1 : Int) (x2 : Int) (x3 : Int) (x4 : Int) : GBus × Int × Int × Bool := hid (T24 x0 x1 x2 x3 x4).val
noncomputable def k24 (x0 : GBus) (x1 : Int) (x2 : Int) (x3 : Int) (x4 : Int) : Bool := hid (T24 x0 x1 x2 x3 x4).okv
noncomputable def n24 (x0 : GBus) (x1 : Int) (x2 : Int) (x3 : Int) (x4 : Int) (r : GBus × Int × Int × Bool) : SV × List Blk := ((.tup [(.agg [.sl 0 0 (List.length r.1.Bytes), .sl 1 0 (List.length r.1.Log)]), (.one (.lit (.int .i64 r.2.1))), (.one (.lit (.int .i64 r.2.2.1))), (.one (.lit (.bool r.2.2.2)))]), [.lst 1 r.1.Bytes, .lst 5 r.1.Log])
theorem e24 (x0 : GBus) (x1 : Int) (x2 : Int) (x3 : Int) (x4 : Int) : fnP Q101 [(17, [.imm 1, .imm 5]), (45, [.imm 1, .imm 5]), (57, [.imm 1, .imm 5])] [] true [] 2097152 F24 [(.agg [.imm false 1 x0.Bytes, .imm false 5 x0.Log]), (.one (.lit (.int .i64 x1))), (.one (.lit (.int .i64 x2))), (.one (.lit (.int .i64 x3))), (.one (.lit (.int .i64 x4)))] [] = some ((T24 x0 x1 x2 x3 x4).map (n24 x0 x1 x2 x3 x4)) := by kernel_rfl
noncomputable def q24 : List SV → List Blk → Option ((SV × List Blk) × Bool)
  | [(.agg [.imm false 1 c0, .imm false 5 c1]), (.one (.lit (.int .i64 c2))), (.one (.lit (.int .i64 c3))), (.one (.lit (.int .i64 c4))), (.one (.lit (.int .i64 c5)))], [] => some (n24 (GBus.mk c0 c1) c2 c3 c4 c5 (g24 (GBus.mk c0 c1) c2 c3 c4 c5), k24 (GBus.mk c0 c1) c2 c3 c4 c5)
  | _, _ => none
theorem t24 (args : List SV) (hp : List Blk) (r : SV × List Blk) (h : q24 args hp = some (r, true)) : frzR R 24 args hp = some r := by
  unfold q24 at h
  split at h
  · rename_i c0 c1 c2 c3 c4 c5
    obtain ⟨hr, hk⟩ := Prod.mk.inj (Option.some.inj h)
    exact (frz_lo (by decide)).trans (R_fn at24 2097152 (fnP_c Q101_ok (loops_of (l := []) rfl trivial) (e24 (GBus.mk c0 c1) c2 c3 c4 c5) hr hk))
  · simp at h
noncomputable def Q24 : Qt := qcons 24 q24 Q101
theorem Q24_ok : QOk (frzR R) Q24 := qcons_ok t24 Q101_ok
/-! (*spec.l1Cur).bus -/
structure V72_0 where
  mk ::
  (b0 : Gl1Cur)
  (b1 : GBus)
  (b2 : GBus)
  (s5 : Int)
noncomputable def y72_0_l_0 (v : V72_0) : Bool := (eqN (List.length v.b2.Bytes) (List.length v.b2.Bytes))
noncomputable def y72_0_l_1 (v : V72_0) : Bool := (eqN (List.length v.b2.Log) (List.length v.b2.Log))
noncomputable def y72_0_l_2 (v : V72_0) : Bool := ((y72_0_l_0 v) && ((y72_0_l_1 v) && true))
noncomputable def y72_0_l_3 (v : V72_0) : Gl1Cur × Int := (g79 (g73 2 (g73 2 v.b0).1).1)
noncomputable def y72_0_l_4 (v : V72_0) : Bool := (eqN (List.length v.b1.Bytes) (List.length v.b1.Bytes))
noncomputable def y72_0_l_5 (v : V72_0) : Bool := (eqN (List.length v.b1.Log) (List.length v.b1.Log))
noncomputable def y72_0_l_6 (v : V72_0) : Bool := ((y72_0_l_4 v) && ((y72_0_l_5 v) && true))
noncomputable def y72_0_l_7 (v : V72_0) : GBus × Int × Int × Bool := (g24 v.b2 (addI 1 (g73 2 v.b0).2) (addI 1 (g73 2 (g73 2 v.b0).1).2) (y72_0_l_3 v).2 0)
noncomputable def y72_0_l_8 (v : V72_0) : Bool := ((eqN (List.length (y72_0_l_7 v).1.Bytes) (List.length (y72_0_l_7 v).1.Bytes)) && ((eqN (List.length (y72_0_l_7 v).1.Log) (List.length (y72_0_l_7 v).1.Log)) && true))
noncomputable def y72_0_l_9 (v : V72_0) : Bool := (((k73 2 v.b0) && ((k73 2 (g73 2 v.b0).1) && ((k79 (g73 2 (g73 2 v.b0).1).1) && ((((y72_0_l_2 v) && true) && (k24 v.b2 (addI 1 (g73 2 v.b0).2) (addI 1 (g73 2 (g73 2 v.b0).1).2) (y72_0_l_3 v).2 0)) && true)))) && (((y72_0_l_6 v) && ((y72_0_l_2 v) && ((y72_0_l_8 v) && ((y72_0_l_4 v) && ((y72_0_l_5 v) && ((y72_0_l_0 v) && ((y72_0_l_1 v) && (y72_0_l_8 v)))))))) && true))
noncomputable def y72_0_l_10 (v : V72_0) : Bool := (((same (α := Nat) (List.length (y72_0_l_7 v).1.Bytes) (List.length (y72_0_l_7 v).1.Bytes)) && ((same (α := Nat) (List.length (y72_0_l_7 v).1.Log) (List.length (y72_0_l_7 v).1.Log)) && true)) && ((sameR v.b1.Bytes v.b1.Bytes) && ((sameR v.b1.Log v.b1.Log) && ((sameR v.b2.Bytes v.b2.Bytes) && ((sameR v.b2.Log v.b2.Log) && ((sameR (y72_0_l_7 v).1.Bytes (y72_0_l_7 v).1.Bytes) && ((sameR (y72_0_l_7 v).1.Log (y72_0_l_7 v).1.Log) && true)))))))
noncomputable def y72_0_l_11 (v : V72_0) : Bool := ((((same (α := Bool) true true) && (sameR (y72_0_l_3 v).1.fcode (y72_0_l_3 v).1.fcode)) && ((same (α := Int) (y72_0_l_3 v).1.fat (y72_0_l_3 v).1.fat) && ((same (α := Int) (y72_0_l_3 v).1.fseed (y72_0_l_3 v).1.fseed) && true))) && (((same (α := Nat) (List.length v.b1.Bytes) (List.length v.b1.Bytes)) && ((same (α := Nat) (List.length v.b1.Log) (List.length v.b1.Log)) && true)) && (((same (α := Nat) (List.length v.b2.Bytes) (List.length v.b2.Bytes)) && ((same (α := Nat) (List.length v.b2.Log) (List.length v.b2.Log)) && true)) && (y72_0_l_10 v))))
noncomputable def y72_0_l_12 (v : V72_0) : Bool := (((same (α := Int) v.s5 v.s5) && ((same (α := Bool) (y72_0_l_7 v).2.2.2 (y72_0_l_7 v).2.2.2) && true)) && (y72_0_l_11 v))
noncomputable def y72_0_l_13 (v : V72_0) : Bool := ((y72_0_l_9 v) && (((y72_0_l_9 v) && (((y72_0_l_9 v) && (((y72_0_l_9 v) && (((y72_0_l_9 v) && (((y72_0_l_9 v) && (((y72_0_l_9 v) && (((y72_0_l_9 v) && (((y72_0_l_9 v) && (((y72_0_l_9 v) && ((y72_0_l_9 v) && (y72_0_l_12 v))) && (y72_0_l_12 v))) && (y72_0_l_12 v))) && (y72_0_l_12 v))) && (y72_0_l_12 v))) && (y72_0_l_12 v))) && (y72_0_l_12 v))) && (y72_0_l_12 v))) && (y72_0_l_12 v))) && (y72_0_l_12 v)))
noncomputable def y72_0_l_14 (v : V72_0) : Bool := ((y72_0_l_9 v) && (((y72_0_l_9 v) && (((y72_0_l_9 v) && (((y72_0_l_9 v) && (((y72_0_l_9 v) && (((y72_0_l_9 v) && (((y72_0_l_9 v) && (((y72_0_l_9 v) && (((y72_0_l_9 v) && (((y72_0_l_9 v) && ((y72_0_l_13 v) && (y72_0_l_12 v))) && (y72_0_l_12 v))) && (y72_0_l_12 v))) && (y72_0_l_12 v))) && (y72_0_l_12 v))) && (y72_0_l_12 v))) && (y72_0_l_12 v))) && (y72_0_l_12 v))) && (y72_0_l_12 v))) && (y72_0_l_12 v)))
noncomputable def N72_0 (v : V72_0) : Pt (Option V72_0) := (.ok true (.br (gtI v.s5 0) (.ok ((y72_0_l_9 v) && (((y72_0_l_9 v) && (((y72_0_l_9 v) && ((y72_0_l_14 v) && (y72_0_l_12 v))) && (y72_0_l_12 v))) && (y72_0_l_12 v))) (.ok true (.br (y72_0_l_7 v).2.2.2 (.ok true (.ok true (.ok (((y72_0_l_6 v) && ((y72_0_l_8 v) && ((y72_0_l_4 v) && ((y72_0_l_5 v) && (y72_0_l_8 v))))) && true) (.leaf (some (V72_0.mk (y72_0_l_3 v).1 v.b1 (y72_0_l_7 v).1 (subI v.s5 1))))))) (.ok true (.ok (((y72_0_l_6 v) && ((y72_0_l_2 v) && ((y72_0_l_4 v) && ((y72_0_l_5 v) && (y72_0_l_2 v))))) && true) (.leaf (some { v with b0 := (y72_0_l_3 v).1, s5 := (subI v.s5 1) }))))))) (.leaf none)))
noncomputable def s72_0 (v : V72_0) : St := ⟨[(0, (.one (.ptr 0 0 0))), (2, (.one (.ptr 1 0 0))), (3, (.one (.ptr 2 0 0))), (5, (.one (.lit (.int .i64 v.s5))))], [.box [.imm true 1 v.b0.fcode, .lit (.int .i64 v.b0.fat), .lit (.int .u64 v.b0.fseed)], .box [.sl 3 0 (List.length v.b1.Bytes), .sl 4 0 (List.length v.b1.Log)], .box [.sl 5 0 (List.length v.b2.Bytes), .sl 6 0 (List.length v.b2.Log)], .lst 1 v.b1.Bytes, .lst 5 v.b1.Log, .lst 1 v.b2.Bytes, .lst 5 v.b2.Log]⟩
def u72_0 : St → Option (V72_0 × Bool)
  | ⟨[(0, (.one (.ptr 0 0 0))), (2, (.one (.ptr 1 0 0))), (3, (.one (.ptr 2 0 0))), (5, (.one (.lit (.int .i64 c3))))], [.box [.imm true 1 c0, .lit (.int .i64 c1), .lit (.int .u64 c2)], .box [.sl 3 0 l3, .sl 4 0 l4], .box [.sl 5 0 l5, .sl 6 0 l6], .lst 1 c_3, .lst 5 c_4, .lst 1 c_5, .lst 5 c_6]⟩ => some ((V72_0.mk (Gl1Cur.mk c0 c1 c2) (GBus.mk c_3 c_4) (GBus.mk c_5 c_6) c3), eqN l3 (List.length c_3) && (eqN l4 (List.length c_4) && (eqN l5 (List.length c_5) && (eqN l6 (List.length c_6) && (true)))))
  | _ => none
theorem hN72_0 (v : V72_0) : ((evp Q24 [(29, [.imm 1, .imm 5]), (44, [.imm 1, .imm 5]), (50, [.imm 1]), (51, [.int .i64]), (55, [.imm 1]), (58, [.imm 1, .imm 5]), (1000000, [])] [] true [] 1 2097152 F72b0 (s72_0 v)).bind (stpT true false 1 [0, 2, 3, 5])) = some ((N72_0 v).map (Option.map s72_0)) := by kernel_rfl
theorem hu72_0 (σ : St) (v : V72_0) (h : u72_0 σ = some (v, true)) : σ = s72_0 v := by
  unfold u72_0 at h
  split at h
  · obtain ⟨hr, hk⟩ := Prod.mk.inj (Option.some.inj h)
    obtain ⟨d0, hk0⟩ := and_t hk
    obtain ⟨d1, hk1⟩ := and_t hk0
    obtain ⟨d2, hk2⟩ := and_t hk1
    obtain ⟨d3, hk3⟩ := and_t hk2
    obtain rfl := of_decide_eq_true d0
    obtain rfl := of_decide_eq_true d1
    obtain rfl := of_decide_eq_true d2
    obtain rfl := of_decide_eq_true d3
    rw [← hr]
    rfl
  · simp at h
theorem lt72_0 : TellsP (lqP true false 1 [0, 2, 3, 5] (evp Q24 [(29, [.imm 1, .imm 5]), (44, [.imm 1, .imm 5]), (50, [.imm 1]), (51, [.int .i64]), (55, [.imm 1]), (58, [.imm 1, .imm 5]), (1000000, [])] [] true [] 1 2097152 F72b0) u72_0 s72_0 N72_0 2097152) (evc R 1 2097152 (.loop [0, 2, 3, 5] F72b0)) := lqP_tells (evp_tells Q24_ok (loops_of (l := []) (by kernel_rfl) trivial)) hu72_0 hN72_0
noncomputable def lq72_0 : Lp := (24, lqP true false 1 [0, 2, 3, 5] (evp Q24 [(29, [.imm 1, .imm 5]), (44, [.imm 1, .imm 5]), (50, [.imm 1]), (51, [.int .i64]), (55, [.imm 1]), (58, [.imm 1, .imm 5]), (1000000, [])] [] true [] 1 2097152 F72b0) u72_0 s72_0 N72_0 2097152) :: []
noncomputable def w72_0 (v : V72_0) : V72_0 := (hid (loopV N72_0 2097152 v)).getD v
noncomputable def i72_0 (v : V72_0) : Bool := (hid (loopV N72_0 2097152 v)).isSome
noncomputable def y72_0 (x0 : Gl1Cur) : Gl1Cur × List Row := (g82 (g73 40 x0).2 (g73 40 x0).1)
noncomputable def y72_1 (x0 : Gl1Cur) : Gl1Cur × List Row := (g82 (g73 20 (y72_0 x0).1).2 (g73 20 (y72_0 x0).1).1)
noncomputable def y72_2 (x0 : Gl1Cur) : Nat := (List.length (g18 (y72_0 x0).2 (y72_1 x0).2).1.Bytes)
noncomputable def y72_3 (x0 : Gl1Cur) : Nat := (List.length (g18 (y72_0 x0).2 (y72_1 x0).2).1.Log)
noncomputable def y72_4 (x0 : Gl1Cur) : Bool := ((eqN (y72_2 x0) (y72_2 x0)) && ((eqN (y72_3 x0) (y72_3 x0)) && true))
noncomputable def y72_5 (x0 : Gl1Cur) : V72_0 := (w72_0 (V72_0.mk (g73 6 (y72_1 x0).1).1 (GBus.mk [] []) (g18 (y72_0 x0).2 (y72_1 x0).2).1 (g73 6 (y72_1 x0).1).2))
noncomputable def y72_6 (x0 : Gl1Cur) : List Row := (List.set (y72_5 x0).b2.Bytes 3 (rowI 256))
noncomputable def y72_7 (x0 : Gl1Cur) : Bool := ((leN (0 + (List.length (y72_5 x0).b2.Log)) (List.length (y72_5 x0).b2.Log)) && true)
noncomputable def y72_8 (x0 : Gl1Cur) : Bool := ((eqN (List.length (y72_5 x0).b2.Log) (List.length (y72_5 x0).b2.Log)) && true)
noncomputable def y72_9 (x0 : Gl1Cur) : Bool := (((eqN (List.length (y72_5 x0).b2.Bytes) (List.length (y72_5 x0).b2.Bytes)) && (y72_8 x0)) && true)
noncomputable def y72_10 (x0 : Gl1Cur) : List Row := (List.take (List.length (y72_5 x0).b2.Bytes) (y72_6 x0))
noncomputable def y72_11 (x0 : Gl1Cur) : List Row := (List.take (List.length (y72_5 x0).b2.Log) (y72_5 x0).b2.Log)
noncomputable def y72_12 (x0 : Gl1Cur) : Bool := ((eqN (List.length (y72_5 x0).b2.Log) (List.length (y72_11 x0))) && true)
noncomputable def y72_13 (x0 : Gl1Cur) : Bool := (leN (0 + (List.length (y72_5 x0).b2.Bytes)) (List.length (y72_5 x0).b2.Bytes))
noncomputable def y72_14 (x0 : Gl1Cur) : List Row := (List.take (List.length (y72_5 x0).b2.Bytes) (y72_5 x0).b2.Bytes)
noncomputable def T72 (x0 : Gl1Cur) : Pt (Gl1Cur × GBus) := (.ok true (.ok ((k73 40 x0) && ((k82 (g73 40 x0).2 (g73 40 x0).1) && ((k73 20 (y72_0 x0).1) && ((k82 (g73 20 (y72_0 x0).1).2 (g73 20 (y72_0 x0).1).1) && ((((eqN (List.length (y72_0 x0).2) (List.length (y72_0 x0).2)) && ((eqN (List.length (y72_1 x0).2) (List.length (y72_1 x0).2)) && true)) && (k18 (y72_0 x0).2 (y72_1 x0).2)) && true))))) (.ok ((k73 6 (y72_1 x0).1) && true) (.ok (((y72_4 x0) && (y72_4 x0)) && true) (.ok (y72_4 x0) (.ok (i72_0 (V72_0.mk (g73 6 (y72_1 x0).1).1 (GBus.mk [] []) (g18 (y72_0 x0).2 (y72_1 x0).2).1 (g73 6 (y72_1 x0).1).2)) (.ok ((k73 40 (y72_5 x0).b0) && true) (.ok true (.br (eqI (g73 40 (y72_5 x0).b0).2 0) (.ok ((ltI 3 (lenI (y72_5 x0).b2.Bytes)) && (((blt 3 (List.length (y72_5 x0).b2.Bytes)) && (beqN (rlen (y72_5 x0).b2.Bytes 3) 1)) && true)) (.ok true (.ok ((((leN (0 + (List.length (y72_5 x0).b2.Bytes)) (List.length (y72_6 x0))) && (y72_7 x0)) && (y72_9 x0)) && (((eqN (List.length (y72_5 x0).b2.Bytes) (List.length (y72_10 x0))) && (y72_12 x0)) && true)) (.leaf ((g73 40 (y72_5 x0).b0).1, (GBus.mk (y72_10 x0) (y72_11 x0))))))) (.ok true (.br (eqI (g73 40 (y72_5 x0).b0).2 1) (.ok (((y72_13 x0) && (leI 500 (lenI (y72_5 x0).b2.Bytes))) && true) (.ok true (.ok ((((leN 500 (List.length (y72_5 x0).b2.Bytes)) && (y72_7 x0)) && ((y72_8 x0) && true)) && (((eqN 500 (List.length (List.take 500 (y72_5 x0).b2.Bytes))) && (y72_12 x0)) && true)) (.leaf ((g73 40 (y72_5 x0).b0).1, (GBus.mk (List.take 500 (y72_5 x0).b2.Bytes) (y72_11 x0))))))) (.ok true (.ok ((((y72_13 x0) && (y72_7 x0)) && (y72_9 x0)) && (((eqN (List.length (y72_5 x0).b2.Bytes) (List.length (y72_14 x0))) && (y72_12 x0)) && true)) (.leaf ((g73 40 (y72_5 x0).b0).1, (GBus.mk (y72_14 x0) (y72_11 x0)))))))))))))))))
noncomputable def g72 (x0 : Gl1Cur) : Gl1Cur × GBus := hid (T72 x0).val
noncomputable def k72 (x0 : Gl1Cur) : Bool := hid (T72 x0).okv
noncomputable def n72 (x0 : Gl1Cur) (r : Gl1Cur × GBus) : SV × List Blk := ((.agg [.sl 1 0 (List.length r.2.Bytes), .sl 2 0 (List.length r.2.Log)]), [.box [.imm true 1 r.1.fcode, .lit (.int .i64 r.1.fat), .lit (.int .u64 r.1.fseed)], .lst 1 r.2.Bytes, .lst 5 r.2.Log])
theorem e72 (x0 : Gl1Cur) : fnP Q24 [(29, [.imm 1, .imm 5]), (44, [.imm 1, .imm 5]), (50, [.imm 1]), (51, [.int .i64]), (55, [.imm 1]), (58, [.imm 1, .imm 5]), (1000000, [])] [] true lq72_0 2097152 F72 [(.one (.ptr 0 0 0))] [.box [.imm true 1 x0.fcode, .lit (.int .i64 x0.fat), .lit (.int .u64 x0.fseed)]] = some ((T72 x0).map (n72 x0)) := by kernel_rfl
noncomputable def q72 : List SV → List Blk → Option ((SV × List Blk) × Bool)
  | [(.one (.ptr 0 0 0))], [.box [.imm true 1 c0, .lit (.int .i64 c1), .lit (.int .u64 c2)]] => some (n72 (Gl1Cur.mk c0 c1 c2) (g72 (Gl1Cur.mk c0 c1 c2)), k72 (Gl1Cur.mk c0 c1 c2))
  | _, _ => none
theorem hL72 : Loops (fun live x => TellsP (lpAt lq72_0 (tagC x)) (evc R 1 2097152 (.loop live x))) F72.body := (loops_of (l := [([0, 2, 3, 5], F72b0)]) (by kernel_rfl) ⟨fun σ σr t h ho hl => lt72_0 σ σr t h ho hl, trivial⟩)
theorem t72 (args : List SV) (hp : List Blk) (r : SV × List Blk) (h : q72 args hp = some (r, true)) : frzR R 72 args hp = some r := by
  unfold q72 at h
  split at h
  · rename_i c0 c1 c2
    obtain ⟨hr, hk⟩ := Prod.mk.inj (Option.some.inj h)
    exact (frz_lo (by decide)).trans (R_fn at72 2097152 (fnP_c Q24_ok hL72 (e72 (Gl1Cur.mk c0 c1 c2)) hr hk))
  · simp at h
noncomputable def Q72 : Qt := qcons 72 q72 Q24
theorem Q72_ok : QOk (frzR R) Q72 := qcons_ok t72 Q24_ok
/-! spec.DrawLogOf -/
noncomputable def y9_0 (x0 : List Row) : Nat := (List.length (g72 (Gl1Cur.mk x0 0 0)).2.Bytes)
noncomputable def y9_1 (x0 : List Row) : Nat := (List.length (g72 (Gl1Cur.mk x0 0 0)).2.Log)
noncomputable def y9_2 (x0 : List Row) : Bool := ((eqN (y9_0 x0) (y9_0 x0)) && ((eqN (y9_1 x0) (y9_1 x0)) && true))
noncomputable def T9 (x0 : List Row) : Pt (GBus × Int) := (.ok true (.ok true (.ok ((k72 (Gl1Cur.mk x0 0 0)) && ((k73 5 (g72 (Gl1Cur.mk x0 0 0)).1) && true)) (.ok ((y9_2 x0) && ((y9_2 x0) && true)) (.ok ((y9_2 x0) && true) (.leaf ((g72 (Gl1Cur.mk x0 0 0)).2, (g73 5 (g72 (Gl1Cur.mk x0 0 0)).1).2)))))))
noncomputable def g9 (x0 : List Row) : GBus × Int := hid (T9 x0).val
noncomputable def k9 (x0 : List Row) : Bool := hid (T9 x0).okv
noncomputable def n9 (x0 : List Row) (r : GBus × Int) : SV × List Blk := ((.tup [(.agg [.imm true 1 r.1.Bytes, .imm true 5 r.1.Log]), (.one (.lit (.int .i64 r.2)))]), [])
theorem e9 (x0 : List Row) : fnZ Q72 [] [] true [] 2097152 F9 [(.one (.imm true 1 x0))] = some ((T9 x0).map (n9 x0)) := by kernel_rfl
noncomputable def q9 : List SV → List Blk → Option ((SV × List Blk) × Bool)
  | [(.one (.imm true 1 c0))], [] => some (n9 c0 (g9 c0), k9 c0)
  | _, _ => none
theorem t9 (args : List SV) (hp : List Blk) (r : SV × List Blk) (h : q9 args hp = some (r, true)) : frzR R 100009 args hp = some r := by
  unfold q9 at h
  split at h
  · rename_i c0
    obtain ⟨hr, hk⟩ := Prod.mk.inj (Option.some.inj h)
    exact fnZ_c (f := 9) Q72_ok (loops_of (l := []) rfl trivial) (e9 c0) hr hk (fun r h => R_fn at9 2097152 h)
  · simp at h
noncomputable def Q9 : Qt := qcons 100009 q9 Q72
theorem Q9_ok : QOk (frzR R) Q9 := qcons_ok t9 Q72_ok
/-! impl.within -/
noncomputable def T74 (x0 : Int) (x1 : Int) (x2 : Int) : Pt (Bool) := (.ok true (.ok true (.ok true (.ok true (.leaf (bif (geI x0 x1) then (leI x0 x2) else false))))))
noncomputable def g74 (x0 : Int) (x1 : Int) (x2 : Int) : Bool := hid (T74 x0 x1 x2).val
noncomputable def k74 (x0 : Int) (x1 : Int) (x2 : Int) : Bool := hid (T74 x0 x1 x2).okv
noncomputable def n74 (x0 : Int) (x1 : Int) (x2 : Int) (r : Bool) : SV × List Blk := ((.one (.lit (.bool r))), [])
theorem e74 (x0 : Int) (x1 : Int) (x2 : Int) : fnZ Q9 [] [] true [] 2097152 F74 [(.one (.lit (.int .i64 x0))), (.one (.lit (.int .i64 x1))), (.one (.lit (.int .i64 x2)))] = some ((T74 x0 x1 x2).map (n74 x0 x1 x2)) := by kernel_rfl
noncomputable def q74 : List SV → List Blk → Option ((SV × List Blk) × Bool)
  | [(.one (.lit (.int .i64 c0))), (.one (.lit (.int .i64 c1))), (.one (.lit (.int .i64 c2)))], [] => some (n74 c0 c1 c2 (g74 c0 c1 c2), k74 c0 c1 c2)
  | _, _ => none
theorem t74 (args : List SV) (hp : List Blk) (r : SV × List Blk) (h : q74 args hp = some (r, true)) : frzR R 100074 args hp = some r := by
  unfold q74 at h
  split at h
  · rename_i c0 c1 c2
    obtain ⟨hr, hk⟩ := Prod.mk.inj (Option.some.inj h)
    exact fnZ_c (f := 74) Q9_ok (loops_of (l := []) rfl trivial) (e74 c0 c1 c2) hr hk (fun r h => R_fn at74 2097152 h)
  · simp at h
noncomputable def Q74 : Qt := qcons 100074 q74 Q9
theorem Q74_ok : QOk (frzR R) Q74 := qcons_ok t74 Q9_ok
/-! impl.GoodBus$1 -/
noncomputable def T87 (x0 : Int) : Pt (Bool) := (.ok true (.ok ((k74 x0 0 255) && true) (.ok true (.leaf (!(g74 x0 0 255))))))
noncomputable def g87 (x0 : Int) : Bool := hid (T87 x0).val
noncomputable def k87 (x0 : Int) : Bool := hid (T87 x0).okv
noncomputable def n87 (x0 : Int) (r : Bool) : SV × List Blk := ((.one (.lit (.bool r))), [])
theorem e87 (x0 : Int) : fnP Q74 [] [] true [] 2097152 F87 [(.one (.lit (.int .i64 x0)))] [] = some ((T87 x0).map (n87 x0)) := by kernel_rfl
noncomputable def q87 : List SV → List Blk → Option ((SV × List Blk) × Bool)
  | [(.one (.lit (.int .i64 c0)))], [] => some (n87 c0 (g87 c0), k87 c0)
  | _, _ => none
theorem t87 (args : List SV) (hp : List Blk) (r : SV × List Blk) (h : q87 args hp = some (r, true)) : frzR R 87 args hp = some r := by
  unfold q87 at h
  split at h
  · rename_i c0
    obtain ⟨hr, hk⟩ := Prod.mk.inj (Option.some.inj h)
    exact (frz_lo (by decide)).trans (R_fn at87 2097152 (fnP_c Q74_ok (loops_of (l := []) rfl trivial) (e87 c0) hr hk))
  · simp at h
noncomputable def Q87 : Qt := qcons 87 q87 Q74
theorem Q87_ok : QOk (frzR R) Q87 := qcons_ok t87 Q74_ok
/-! slices.IndexFunc[[]int,int] -/
structure V149_0 where
  mk ::
  (s0 : List Row)
  (s7 : Int)
  (s8 : Int)
noncomputable def N149_0 (v : V149_0) : Pt (Option V149_0) := (.ok true (.br (ltI v.s8 v.s7) (.ok true (.ok ((inRow [.int .i64] v.s0 v.s8) && ((k87 (intAt v.s0 (Int.toNat v.s8) 0)) && true)) (.br (g87 (intAt v.s0 (Int.toNat v.s8) 0)) (.ok true (.leaf none)) (.ok true (.ok true (.leaf (some { v with s8 := (addI v.s8 1) }))))))) (.leaf none)))
noncomputable def s149_0 (v : V149_0) : St := ⟨[(0, (.one (.imm true 1 v.s0))), (1, (.one (.clo 87 []))), (7, (.one (.lit (.int .i64 v.s7)))), (8, (.one (.lit (.int .i64 v.s8))))], []⟩
def u149_0 : St → Option (V149_0 × Bool)
  | ⟨[(0, (.one (.imm true 1 c0))), (1, (.one (.clo 87 []))), (7, (.one (.lit (.int .i64 c1)))), (8, (.one (.lit (.int .i64 c2))))], []⟩ => some ((V149_0.mk c0 c1 c2), true)
  | _ => none
theorem hN149_0 (v : V149_0) : ((evp Q87 [(14, [.int .i64]), (15, [.int .i64])] [] true [] 0 2097152 F149b0 (s149_0 v)).bind (stpT true false 0 [0, 1, 7, 8])) = some ((N149_0 v).map (Option.map s149_0)) := by kernel_rfl
theorem hu149_0 (σ : St) (v : V149_0) (h : u149_0 σ = some (v, true)) : σ = s149_0 v := by
  unfold u149_0 at h
  split at h
  · obtain ⟨hr, hk⟩ := Prod.mk.inj (Option.some.inj h)
    rw [← hr]
    rfl
  · simp at h
theorem lt149_0 : TellsP (lqP true false 0 [0, 1, 7, 8] (evp Q87 [(14, [.int .i64]), (15, [.int .i64])] [] true [] 0 2097152 F149b0) u149_0 s149_0 N149_0 2097152) (evc R 0 2097152 (.loop [0, 1, 7, 8] F149b0)) := lqP_tells (evp_tells Q87_ok (loops_of (l := []) (by kernel_rfl) trivial)) hu149_0 hN149_0
noncomputable def lq149_0 : Lp := (9, lqP true false 0 [0, 1, 7, 8] (evp Q87 [(14, [.int .i64]), (15, [.int .i64])] [] true [] 0 2097152 F149b0) u149_0 s149_0 N149_0 2097152) :: []
noncomputable def w149_0 (v : V149_0) : V149_0 := (hid (loopV N149_0 2097152 v)).getD v
noncomputable def i149_0 (v : V149_0) : Bool := (hid (loopV N149_0 2097152 v)).isSome
noncomputable def y149_0 (x0 : List Row) : V149_0 := (w149_0 (V149_0.mk x0 (lenI x0) 0))
noncomputable def T149 (x0 : List Row) : Pt (Int) := (.ok true (.ok true (.ok true (.ok true (.ok (i149_0 (V149_0.mk x0 (lenI x0) 0)) (.br (ltI (y149_0 x0).s8 (y149_0 x0).s7) (.ok true (.leaf (y149_0 x0).s8)) (.ok true (.ok true (.leaf (-1))))))))))
noncomputable def g149 (x0 : List Row) : Int := hid (T149 x0).val
noncomputable def k149 (x0 : List Row) : Bool := hid (T149 x0).okv
noncomputable def n149 (x0 : List Row) (r : Int) : SV × List Blk := ((.one (.lit (.int .i64 r))), [])
theorem e149 (x0 : List Row) : fnP Q87 [(14, [.int .i64]), (15, [.int .i64])] [] true lq149_0 2097152 F149 [(.one (.imm true 1 x0)), (.one (.clo 87 []))] [] = some ((T149 x0).map (n149 x0)) := by kernel_rfl
noncomputable def q149 : List SV → List Blk → Option ((SV × List Blk) × Bool)
  | [(.one (.imm true 1 c0)), (.one (.clo 87 []))], [] => some (n149 c0 (g149 c0), k149 c0)
  | _, _ => none
theorem hL149 : Loops (fun live x => TellsP (lpAt lq149_0 (tagC x)) (evc R 0 2097152 (.loop live x))) F149.body := (loops_of (l := [([0, 1, 7, 8], F149b0)]) (by kernel_rfl) ⟨fun σ σr t h ho hl => lt149_0 σ σr t h ho hl, trivial⟩)
theorem t149 (args : List SV) (hp : List Blk) (r : SV × List Blk) (h : q149 args hp = some (r, true)) : frzR R 149 args hp = some r := by
  unfold q149 at h
  split at h
  · rename_i c0
    obtain ⟨hr, hk⟩ := Prod.mk.inj (Option.some.inj h)
    exact (frz_lo (by decide)).trans (R_fn at149 2097152 (fnP_c Q87_ok hL149 (e149 c0) hr hk))
  · simp at h
noncomputable def Q149 : Qt := qcons 149 q149 Q87
theorem Q149_ok : QOk (frzR R) Q149 := qcons_ok t149 Q87_ok
/-! slices.ContainsFunc[[]int,int] -/
noncomputable def T86 (x0 : List Row) : Pt (Bool) := (.ok true (.ok ((k149 x0) && true) (.ok true (.leaf (geI (g149 x0) 0)))))
noncomputable def g86 (x0 : List Row) : Bool := hid (T86 x0).val
noncomputable def k86 (x0 : List Row) : Bool := hid (T86 x0).okv
noncomputable def n86 (x0 : List Row) (r : Bool) : SV × List Blk := ((.one (.lit (.bool r))), [])
theorem e86 (x0 : List Row) : fnP Q149 [] [] true [] 2097152 F86 [(.one (.imm true 1 x0)), (.one (.clo 87 []))] [] = some ((T86 x0).map (n86 x0)) := by kernel_rfl
noncomputable def q86 : List SV → List Blk → Option ((SV × List Blk) × Bool)
  | [(.one (.imm true 1 c0)), (.one (.clo 87 []))], [] => some (n86 c0 (g86 c0), k86 c0)
  | _, _ => none
theorem t86 (args : List SV) (hp : List Blk) (r : SV × List Blk) (h : q86 args hp = some (r, true)) : frzR R 86 args hp = some r := by
  unfold q86 at h
  split at h
  · rename_i c0
    obtain ⟨hr, hk⟩ := Prod.mk.inj (Option.some.inj h)
    exact (frz_lo (by decide)).trans (R_fn at86 2097152 (fnP_c Q149_ok (loops_of (l := []) rfl trivial) (e86 c0) hr hk))
  · simp at h
noncomputable def Q86 : Qt := qcons 86 q86 Q149
theorem Q86_ok : QOk (frzR R) Q86 := qcons_ok t86 Q149_ok
/-! impl.isWord -/
noncomputable def T94 (x0 : Int) : Pt (Bool) := (.ok true (.ok ((k74 x0 0 65535) && true) (.ok true (.ok true (.leaf (g74 x0 0 65535))))))
noncomputable def g94 (x0 : Int) : Bool := hid (T94 x0).val
noncomputable def k94 (x0 : Int) : Bool := hid (T94 x0).okv
noncomputable def n94 (x0 : Int) (r : Bool) : SV × List Blk := ((.one (.lit (.bool r))), [])
theorem e94 (x0 : Int) : fnZ Q86 [] [] true [] 2097152 F94 [(.one (.lit (.int .i64 x0)))] = some ((T94 x0).map (n94 x0)) := by kernel_rfl
noncomputable def q94 : List SV → List Blk → Option ((SV × List Blk) × Bool)
  | [(.one (.lit (.int .i64 c0)))], [] => some (n94 c0 (g94 c0), k94 c0)
  | _, _ => none
theorem t94 (args : List SV) (hp : List Blk) (r : SV × List Blk) (h : q94 args hp = some (r, true)) : frzR R 100094 args hp = some r := by
  unfold q94 at h
  split at h
  · rename_i c0
    obtain ⟨hr, hk⟩ := Prod.mk.inj (Option.some.inj h)
    exact fnZ_c (f := 94) Q86_ok (loops_of (l := []) rfl trivial) (e94 c0) hr hk (fun r h => R_fn at94 2097152 h)
  · simp at h
noncomputable def Q94 : Qt := qcons 100094 q94 Q86
theorem Q94_ok : QOk (frzR R) Q94 := qcons_ok t94 Q86_ok
/-! impl.isSize -/
noncomputable def T151 (x0 : Int) : Pt (Bool) := (.ok true (.ok true (.ok true (.ok true (.leaf (bif (eqI x0 1) then true else (eqI x0 2)))))))
noncomputable def g151 (x0 : Int) : Bool := hid (T151 x0).val
noncomputable def k151 (x0 : Int) : Bool := hid (T151 x0).okv
noncomputable def n151 (x0 : Int) (r : Bool) : SV × List Blk := ((.one (.lit (.bool r))), [])
theorem e151 (x0 : Int) : fnZ Q94 [] [] true [] 2097152 F151 [(.one (.lit (.int .i64 x0)))] = some ((T151 x0).map (n151 x0)) := by kernel_rfl
noncomputable def q151 : List SV → List Blk → Option ((SV × List Blk) × Bool)
  | [(.one (.lit (.int .i64 c0)))], [] => some (n151 c0 (g151 c0), k151 c0)
  | _, _ => none
theorem t151 (args : List SV) (hp : List Blk) (r : SV × List Blk) (h : q151 args hp = some (r, true)) : frzR R 100151 args hp = some r := by
  unfold q151 at h
  split at h
  · rename_i c0
    obtain ⟨hr, hk⟩ := Prod.mk.inj (Option.some.inj h)
    exact fnZ_c (f := 151) Q94_ok (loops_of (l := []) rfl trivial) (e151 c0) hr hk (fun r h => R_fn at151 2097152 h)
  · simp at h
noncomputable def Q151 : Qt := qcons 100151 q151 Q94
theorem Q151_ok : QOk (frzR R) Q151 := qcons_ok t151 Q94_ok
/-! impl.limitOf -/
noncomputable def T152 (x0 : Int) : Pt (Int) := (.ok true (.ok ((leI 0 (mulI 8 x0)) && true) (.ok true (.ok true (.leaf (shlI 1 (mulI 8 x0)))))))
noncomputable def g152 (x0 : Int) : Int := hid (T152 x0).val
noncomputable def k152 (x0 : Int) : Bool := hid (T152 x0).okv
noncomputable def n152 (x0 : Int) (r : Int) : SV × List Blk := ((.one (.lit (.int .i64 r))), [])
theorem e152 (x0 : Int) : fnZ Q151 [] [] true [] 2097152 F152 [(.one (.lit (.int .i64 x0)))] = some ((T152 x0).map (n152 x0)) := by kernel_rfl
noncomputable def q152 : List SV → List Blk → Option ((SV × List Blk) × Bool)
  | [(.one (.lit (.int .i64 c0)))], [] => some (n152 c0 (g152 c0), k152 c0)
  | _, _ => none
theorem t152 (args : List SV) (hp : List Blk) (r : SV × List Blk) (h : q152 args hp = some (r, true)) : frzR R 100152 args hp = some r := by
  unfold q152 at h
  split at h
  · rename_i c0
    obtain ⟨hr, hk⟩ := Prod.mk.inj (Option.some.inj h)
    exact fnZ_c (f := 152) Q151_ok (loops_of (l := []) rfl trivial) (e152 c0) hr hk (fun r h => R_fn at152 2097152 h)
  · simp at h
noncomputable def Q152 : Qt := qcons 100152 q152 Q151
theorem Q152_ok : QOk (frzR R) Q152 := qcons_ok t152 Q151_ok
/-! impl.isValue -/
noncomputable def T95 (x0 : Int) (x1 : Int) : Pt (Bool) := (.ok true (.ok ((k151 x0) && ((((k152 x0) && ((k74 x1 0 (subI (g152 x0) 1)) && true)) || (!(g151 x0))) && true)) (.ok true (.ok true (.leaf (bif (g151 x0) then (g74 x1 0 (subI (g152 x0) 1)) else false))))))
noncomputable def g95 (x0 : Int) (x1 : Int) : Bool := hid (T95 x0 x1).val
noncomputable def k95 (x0 : Int) (x1 : Int) : Bool := hid (T95 x0 x1).okv
noncomputable def n95 (x0 : Int) (x1 : Int) (r : Bool) : SV × List Blk := ((.one (.lit (.bool r))), [])
theorem e95 (x0 : Int) (x1 : Int) : fnZ Q152 [] [] true [] 2097152 F95 [(.one (.lit (.int .i64 x0))), (.one (.lit (.int .i64 x1)))] = some ((T95 x0 x1).map (n95 x0 x1)) := by kernel_rfl
noncomputable def q95 : List SV → List Blk → Option ((SV × List Blk) × Bool)
  | [(.one (.lit (.int .i64 c0))), (.one (.lit (.int .i64 c1)))], [] => some (n95 c0 c1 (g95 c0 c1), k95 c0 c1)
  | _, _ => none
theorem t95 (args : List SV) (hp : List Blk) (r : SV × List Blk) (h : q95 args hp = some (r, true)) : frzR R 100095 args hp = some r := by
  unfold q95 at h
  split at h
  · rename_i c0 c1
    obtain ⟨hr, hk⟩ := Prod.mk.inj (Option.some.inj h)
    exact fnZ_c (f := 95) Q152_ok (loops_of (l := []) rfl trivial) (e95 c0 c1) hr hk (fun r h => R_fn at95 2097152 h)
  · simp at h
noncomputable def Q95 : Qt := qcons 100095 q95 Q152
theorem Q95_ok : QOk (frzR R) Q95 := qcons_ok t95 Q152_ok
/-! impl.isAccess -/
noncomputable def y90_0 (x0 : GAccess) : Bool := (bif (g74 x0.Kind 1 3) then (g94 x0.Addr) else false)
noncomputable def y90_1 (x0 : GAccess) : Bool := (bif (y90_0 x0) then (g95 x0.Size x0.Value) else false)
noncomputable def T90 (x0 : GAccess) : Pt (Bool) := (.ok true (.ok ((k74 x0.Kind 1 3) && ((((k94 x0.Addr) && true) || (!(g74 x0.Kind 1 3))) && ((((k95 x0.Size x0.Value) && true) || (!(y90_0 x0))) && ((((k74 x0.Code 0 3) && true) || (!(y90_1 x0))) && true)))) (.ok true (.ok true (.leaf (bif (bif (y90_1 x0) then (g74 x0.Code 0 3) else false) then (!(bif (eqI x0.Kind 3) then (eqI x0.Code 0) else false)) else false))))))
noncomputable def g90 (x0 : GAccess) : Bool := hid (T90 x0).val
noncomputable def k90 (x0 : GAccess) : Bool := hid (T90 x0).okv
noncomputable def n90 (x0 : GAccess) (r : Bool) : SV × List Blk := ((.one (.lit (.bool r))), [])
theorem e90 (x0 : GAccess) : fnZ Q95 [(4, [.int .i64]), (8, [.int .i64]), (13, [.int .i64]), (15, [.int .i64]), (20, [.int .i64]), (25, [.int .i64]), (29, [.int .i64])] [] true [] 2097152 F90 [(.agg [.lit (.int .i64 x0.Kind), .lit (.int .i64 x0.Size), .lit (.int .i64 x0.Addr), .lit (.int .i64 x0.Value), .lit (.int .i64 x0.Code)])] = some ((T90 x0).map (n90 x0)) := by kernel_rfl
noncomputable def q90 : List SV → List Blk → Option ((SV × List Blk) × Bool)
  | [(.agg [.lit (.int .i64 c0), .lit (.int .i64 c1), .lit (.int .i64 c2), .lit (.int .i64 c3), .lit (.int .i64 c4)])], [] => some (n90 (GAccess.mk c0 c1 c2 c3 c4) (g90 (GAccess.mk c0 c1 c2 c3 c4)), k90 (GAccess.mk c0 c1 c2 c3 c4))
  | _, _ => none
theorem t90 (args : List SV) (hp : List Blk) (r : SV × List Blk) (h : q90 args hp = some (r, true)) : frzR R 100090 args hp = some r := by
  unfold q90 at h
  split at h
  · rename_i c0 c1 c2 c3 c4
    obtain ⟨hr, hk⟩ := Prod.mk.inj (Option.some.inj h)
    exact fnZ_c (f := 90) Q95_ok (loops_of (l := []) rfl trivial) (e90 (GAccess.mk c0 c1 c2 c3 c4)) hr hk (fun r h => R_fn at90 2097152 h)
  · simp at h
noncomputable def Q90 : Qt := qcons 100090 q90 Q95
theorem Q90_ok : QOk (frzR R) Q90 := qcons_ok t90 Q95_ok
/-! impl.GoodBus$2 -/
noncomputable def T89 (x0 : GAccess) : Pt (Bool) := (.ok true (.ok ((k90 x0) && true) (.ok true (.leaf (!(g90 x0))))))
noncomputable def g89 (x0 : GAccess) : Bool := hid (T89 x0).val
noncomputable def k89 (x0 : GAccess) : Bool := hid (T89 x0).okv
noncomputable def n89 (x0 : GAccess) (r : Bool) : SV × List Blk := ((.one (.lit (.bool r))), [])
theorem e89 (x0 : GAccess) : fnP Q90 [(3, [.int .i64, .int .i64, .int .i64, .int .i64, .int .i64])] [] true [] 2097152 F89 [(.agg [.lit (.int .i64 x0.Kind), .lit (.int .i64 x0.Size), .lit (.int .i64 x0.Addr), .lit (.int .i64 x0.Value), .lit (.int .i64 x0.Code)])] [] = some ((T89 x0).map (n89 x0)) := by kernel_rfl
noncomputable def q89 : List SV → List Blk → Option ((SV × List Blk) × Bool)
  | [(.agg [.lit (.int .i64 c0), .lit (.int .i64 c1), .lit (.int .i64 c2), .lit (.int .i64 c3), .lit (.int .i64 c4)])], [] => some (n89 (GAccess.mk c0 c1 c2 c3 c4) (g89 (GAccess.mk c0 c1 c2 c3 c4)), k89 (GAccess.mk c0 c1 c2 c3 c4))
  | _, _ => none
theorem t89 (args : List SV) (hp : List Blk) (r : SV × List Blk) (h : q89 args hp = some (r, true)) : frzR R 89 args hp = some r := by
  unfold q89 at h
  split at h
  · rename_i c0 c1 c2 c3 c4
    obtain ⟨hr, hk⟩ := Prod.mk.inj (Option.some.inj h)
    exact (frz_lo (by decide)).trans (R_fn at89 2097152 (fnP_c Q90_ok (loops_of (l := []) rfl trivial) (e89 (GAccess.mk c0 c1 c2 c3 c4)) hr hk))
  · simp at h
noncomputable def Q89 : Qt := qcons 89 q89 Q90
theorem Q89_ok : QOk (frzR R) Q89 := qcons_ok t89 Q90_ok
/-! slices.IndexFunc[[]impl.Access,impl.Access] -/
structure V147_0 where
  mk ::
  (s0 : List Row)
  (s7 : Int)
  (s8 : Int)
noncomputable def N147_0 (v : V147_0) : Pt (Option V147_0) := (.ok true (.br (ltI v.s8 v.s7) (.ok true (.ok ((inRow [.int .i64, .int .i64, .int .i64, .int .i64, .int .i64] v.s0 v.s8) && ((k89 (GAccess.at v.s0 (Int.toNat v.s8) 0)) && true)) (.br (g89 (GAccess.at v.s0 (Int.toNat v.s8) 0)) (.ok true (.leaf none)) (.ok true (.ok true (.leaf (some { v with s8 := (addI v.s8 1) }))))))) (.leaf none)))
noncomputable def s147_0 (v : V147_0) : St := ⟨[(0, (.one (.imm true 5 v.s0))), (1, (.one (.clo 89 []))), (7, (.one (.lit (.int .i64 v.s7)))), (8, (.one (.lit (.int .i64 v.s8))))], []⟩
def u147_0 : St → Option (V147_0 × Bool)
  | ⟨[(0, (.one (.imm true 5 c0))), (1, (.one (.clo 89 []))), (7, (.one (.lit (.int .i64 c1)))), (8, (.one (.lit (.int .i64 c2))))], []⟩ => some ((V147_0.mk c0 c1 c2), true)
  | _ => none
theorem hN147_0 (v : V147_0) : ((evp Q89 [(14, [.int .i64, .int .i64, .int .i64, .int .i64, .int .i64]), (15, [.int .i64, .int .i64, .int .i64, .int .i64, .int .i64])] [] true [] 0 2097152 F147b0 (s147_0 v)).bind (stpT true false 0 [0, 1, 7, 8])) = some ((N147_0 v).map (Option.map s147_0)) := by kernel_rfl
theorem hu147_0 (σ : St) (v : V147_0) (h : u147_0 σ = some (v, true)) : σ = s147_0 v := by
  unfold u147_0 at h
  split at h
  · obtain ⟨hr, hk⟩ := Prod.mk.inj (Option.some.inj h)
    rw [← hr]
    rfl
  · simp at h
theorem lt147_0 : TellsP (lqP true false 0 [0, 1, 7, 8] (evp Q89 [(14, [.int .i64, .int .i64, .int .i64, .int .i64, .int .i64]), (15, [.int .i64, .int .i64, .int .i64, .int .i64, .int .i64])] [] true [] 0 2097152 F147b0) u147_0 s147_0 N147_0 2097152) (evc R 0 2097152 (.loop [0, 1, 7, 8] F147b0)) := lqP_tells (evp_tells Q89_ok (loops_of (l := []) (by kernel_rfl) trivial)) hu147_0 hN147_0
noncomputable def lq147_0 : Lp := (9, lqP true false 0 [0, 1, 7, 8] (evp Q89 [(14, [.int .i64, .int .i64, .int .i64, .int .i64, .int .i64]), (15, [.int .i64, .int .i64, .int .i64, .int .i64, .int .i64])] [] true [] 0 2097152 F147b0) u147_0 s147_0 N147_0 2097152) :: []
noncomputable def w147_0 (v : V147_0) : V147_0 := (hid (loopV N147_0 2097152 v)).getD v
noncomputable def i147_0 (v : V147_0) : Bool := (hid (loopV N147_0 2097152 v)).isSome
noncomputable def y147_0 (x0 : List Row) : V147_0 := (w147_0 (V147_0.mk x0 (lenI x0) 0))
noncomputable def T147 (x0 : List Row) : Pt (Int) := (.ok true (.ok true (.ok true (.ok true (.ok (i147_0 (V147_0.mk x0 (lenI x0) 0)) (.br (ltI (y147_0 x0).s8 (y147_0 x0).s7) (.ok true (.leaf (y147_0 x0).s8)) (.ok true (.ok true (.leaf (-1))))))))))
noncomputable def g147 (x0 : List Row) : Int := hid (T147 x0).val
noncomputable def k147 (x0 : List Row) : Bool := hid (T147 x0).okv
noncomputable def n147 (x0 : List Row) (r : Int) : SV × List Blk := ((.one (.lit (.int .i64 r))), [])
theorem e147 (x0 : List Row) : fnP Q89 [(14, [.int .i64, .int .i64, .int .i64, .int .i64, .int .i64]), (15, [.int .i64, .int .i64, .int .i64, .int .i64, .int .i64])] [] true lq147_0 2097152 F147 [(.one (.imm true 5 x0)), (.one (.clo 89 []))] [] = some ((T147 x0).map (n147 x0)) := by kernel_rfl
noncomputable def q147 : List SV → List Blk → Option ((SV × List Blk) × Bool)
  | [(.one (.imm true 5 c0)), (.one (.clo 89 []))], [] => some (n147 c0 (g147 c0), k147 c0)
  | _, _ => none
theorem hL147 : Loops (fun live x => TellsP (lpAt lq147_0 (tagC x)) (evc R 0 2097152 (.loop live x))) F147.body := (loops_of (l := [([0, 1, 7, 8], F147b0)]) (by kernel_rfl) ⟨fun σ σr t h ho hl => lt147_0 σ σr t h ho hl, trivial⟩)
theorem t147 (args : List SV) (hp : List Blk) (r : SV × List Blk) (h : q147 args hp = some (r, true)) : frzR R 147 args hp = some r := by
  unfold q147 at h
  split at h
  · rename_i c0
    obtain ⟨hr, hk⟩ := Prod.mk.inj (Option.some.inj h)
    exact (frz_lo (by decide)).trans (R_fn at147 2097152 (fnP_c Q89_ok hL147 (e147 c0) hr hk))
  · simp at h
noncomputable def Q147 : Qt := qcons 147 q147 Q89
theorem Q147_ok : QOk (frzR R) Q147 := qcons_ok t147 Q89_ok
/-! slices.ContainsFunc[[]impl.Access,impl.Access] -/
noncomputable def T88 (x0 : List Row) : Pt (Bool) := (.ok true (.ok ((k147 x0) && true) (.ok true (.leaf (geI (g147 x0) 0)))))
noncomputable def g88 (x0 : List Row) : Bool := hid (T88 x0).val
noncomputable def k88 (x0 : List Row) : Bool := hid (T88 x0).okv
noncomputable def n88 (x0 : List Row) (r : Bool) : SV × List Blk := ((.one (.lit (.bool r))), [])
theorem e88 (x0 : List Row) : fnP Q147 [] [] true [] 2097152 F88 [(.one (.imm true 5 x0)), (.one (.clo 89 []))] [] = some ((T88 x0).map (n88 x0)) := by kernel_rfl
noncomputable def q88 : List SV → List Blk → Option ((SV × List Blk) × Bool)
  | [(.one (.imm true 5 c0)), (.one (.clo 89 []))], [] => some (n88 c0 (g88 c0), k88 c0)
  | _, _ => none
theorem t88 (args : List SV) (hp : List Blk) (r : SV × List Blk) (h : q88 args hp = some (r, true)) : frzR R 88 args hp = some r := by
  unfold q88 at h
  split at h
  · rename_i c0
    obtain ⟨hr, hk⟩ := Prod.mk.inj (Option.some.inj h)
    exact (frz_lo (by decide)).trans (R_fn at88 2097152 (fnP_c Q147_ok (loops_of (l := []) rfl trivial) (e88 c0) hr hk))
  · simp at h
noncomputable def Q88 : Qt := qcons 88 q88 Q147
theorem Q88_ok : QOk (frzR R) Q88 := qcons_ok t88 Q147_ok
/-! impl.GoodBus -/
noncomputable def y21_0 (x0 : GBus) : Bool := (bif (eqI (lenI x0.Bytes) 512) then (leI (lenI x0.Log) 400) else false)
noncomputable def y21_1 (x0 : GBus) : Bool := (bif (y21_0 x0) then (!(g86 x0.Bytes)) else false)
noncomputable def T21 (x0 : GBus) : Pt (Bool) := (.ok true (.ok ((((k86 x0.Bytes) && true) || (!(y21_0 x0))) && ((((k88 (bif (y21_0 x0) then x0.Log else x0.Log)) && true) || (!(y21_1 x0))) && true)) (.ok true (.ok true (.leaf (bif (y21_1 x0) then (!(g88 (bif (y21_0 x0) then x0.Log else x0.Log))) else false))))))
noncomputable def g21 (x0 : GBus) : Bool := hid (T21 x0).val
noncomputable def k21 (x0 : GBus) : Bool := hid (T21 x0).okv
noncomputable def n21 (x0 : GBus) (r : Bool) : SV × List Blk := ((.one (.lit (.bool r))), [])
theorem e21 (x0 : GBus) : fnZ Q88 [(4, [.imm 1]), (9, [.imm 5]), (15, [.imm 1]), (21, [.imm 5])] [] true [] 2097152 F21 [(.agg [.imm true 1 x0.Bytes, .imm true 5 x0.Log])] = some ((T21 x0).map (n21 x0)) := by kernel_rfl
noncomputable def q21 : List SV → List Blk → Option ((SV × List Blk) × Bool)
  | [(.agg [.imm true 1 c0, .imm true 5 c1])], [] => some (n21 (GBus.mk c0 c1) (g21 (GBus.mk c0 c1)), k21 (GBus.mk c0 c1))
  | _, _ => none
theorem t21 (args : List SV) (hp : List Blk) (r : SV × List Blk) (h : q21 args hp = some (r, true)) : frzR R 100021 args hp = some r := by
  unfold q21 at h
  split at h
  · rename_i c0 c1
    obtain ⟨hr, hk⟩ := Prod.mk.inj (Option.some.inj h)
    exact fnZ_c (f := 21) Q88_ok (loops_of (l := []) rfl trivial) (e21 (GBus.mk c0 c1)) hr hk (fun r h => R_fn at21 2097152 h)
  · simp at h
noncomputable def Q21 : Qt := qcons 100021 q21 Q88
theorem Q21_ok : QOk (frzR R) Q21 := qcons_ok t21 Q88_ok
/-! slices.Clone -/
def q76 : List SV → List Blk → Option ((SV × List Blk) × Bool)
  | [.one (.imm p 5 rows)], [] => some ((SV.one (T.sl 0 0 (List.length rows)), [Blk.lst 5 rows]), decide (List.length rows * 40 ≤ room))
  | _, _ => none
theorem t76 (args : List SV) (hp : List Blk) (r : SV × List Blk) (h : q76 args hp = some (r, true)) : frzR R 76 args hp = some r := by
  rw [frz_lo (by decide)]
  unfold q76 at h
  split at h
  · rename_i p rows
    simp only [Option.some.injEq, Prod.mk.injEq, decide_eq_true_eq] at h
    obtain ⟨rfl, h⟩ := h
    refine run_ext no76 ?_
    have h' : List.length rows ≤ room := by omega
    simp [clones, extOf, cloneE, h, h']
  · simp at h
noncomputable def Q76 : Qt := qcons 76 q76 Q21
theorem Q76_ok : QOk (frzR R) Q76 := qcons_ok t76 Q21_ok
/-! impl.LogOf$1 -/
noncomputable def T77 (x0 : GAccess) (x1 : Int) : Pt (Bool) := (.ok true (.ok true (.ok true (.leaf (neI x0.Kind x1)))))
noncomputable def g77 (x0 : GAccess) (x1 : Int) : Bool := hid (T77 x0 x1).val
noncomputable def k77 (x0 : GAccess) (x1 : Int) : Bool := hid (T77 x0 x1).okv
noncomputable def n77 (x0 : GAccess) (x1 : Int) (r : Bool) : SV × List Blk := ((.one (.lit (.bool r))), [.box [.lit (.int .i64 x1)]])
theorem e77 (x0 : GAccess) (x1 : Int) : fnP Q76 [(5, [.int .i64]), (6, [.int .i64])] [] true [] 2097152 F77 [(.agg [.lit (.int .i64 x0.Kind), .lit (.int .i64 x0.Size), .lit (.int .i64 x0.Addr), .lit (.int .i64 x0.Value), .lit (.int .i64 x0.Code)]), (.one (.ptr 0 0 0))] [.box [.lit (.int .i64 x1)]] = some ((T77 x0 x1).map (n77 x0 x1)) := by kernel_rfl
noncomputable def q77 : List SV → List Blk → Option ((SV × List Blk) × Bool)
  | [(.agg [.lit (.int .i64 c0), .lit (.int .i64 c1), .lit (.int .i64 c2), .lit (.int .i64 c3), .lit (.int .i64 c4)]), (.one (.ptr 0 0 0))], [.box [.lit (.int .i64 c5)]] => some (n77 (GAccess.mk c0 c1 c2 c3 c4) c5 (g77 (GAccess.mk c0 c1 c2 c3 c4) c5), k77 (GAccess.mk c0 c1 c2 c3 c4) c5)
  | _, _ => none
theorem t77 (args : List SV) (hp : List Blk) (r : SV × List Blk) (h : q77 args hp = some (r, true)) : frzR R 77 args hp = some r := by
  unfold q77 at h
  split at h
  · rename_i c0 c1 c2 c3 c4 c5
    obtain ⟨hr, hk⟩ := Prod.mk.inj (Option.some.inj h)
    exact (frz_lo (by decide)).trans (R_fn at77 2097152 (fnP_c Q76_ok (loops_of (l := []) rfl trivial) (e77 (GAccess.mk c0 c1 c2 c3 c4) c5) hr hk))
  · simp at h
noncomputable def Q77 : Qt := qcons 77 q77 Q76
theorem Q77_ok : QOk (frzR R) Q77 := qcons_ok t77 Q76_ok
/-! slices.IndexFunc[[]impl.Access,impl.Access] -/
structure V147v1_0 where
  mk ::
  (b0 : Int)
  (s0 : List Row)
  (s7 : Int)
  (s8 : Int)
noncomputable def N147v1_0 (v : V147v1_0) : Pt (Option V147v1_0) := (.ok true (.br (ltI v.s8 v.s7) (.ok true (.ok ((inRow [.int .i64, .int .i64, .int .i64, .int .i64, .int .i64] v.s0 v.s8) && ((k77 (GAccess.at v.s0 (Int.toNat v.s8) 0) v.b0) && true)) (.br (g77 (GAccess.at v.s0 (Int.toNat v.s8) 0) v.b0) (.ok true (.leaf none)) (.ok true (.ok true (.leaf (some { v with s8 := (addI v.s8 1) }))))))) (.leaf none)))
noncomputable def s147v1_0 (v : V147v1_0) : St := ⟨[(0, (.one (.imm false 5 v.s0))), (1, (.one (.clo 77 [.ptr 0 0 0]))), (7, (.one (.lit (.int .i64 v.s7)))), (8, (.one (.lit (.int .i64 v.s8))))], [.box [.lit (.int .i64 v.b0)]]⟩
def u147v1_0 : St → Option (V147v1_0 × Bool)
  | ⟨[(0, (.one (.imm false 5 c1))), (1, (.one (.clo 77 [.ptr 0 0 0]))), (7, (.one (.lit (.int .i64 c2)))), (8, (.one (.lit (.int .i64 c3))))], [.box [.lit (.int .i64 c0)]]⟩ => some ((V147v1_0.mk c0 c1 c2 c3), true)
  | _ => none
theorem hN147v1_0 (v : V147v1_0) : ((evp Q77 [(14, [.int .i64, .int .i64, .int .i64, .int .i64, .int .i64]), (15, [.int .i64, .int .i64, .int .i64, .int .i64, .int .i64])] [] true [] 1 2097152 F147b0 (s147v1_0 v)).bind (stpT true false 1 [0, 1, 7, 8])) = some ((N147v1_0 v).map (Option.map s147v1_0)) := by kernel_rfl
theorem hu147v1_0 (σ : St) (v : V147v1_0) (h : u147v1_0 σ = some (v, true)) : σ = s147v1_0 v := by
  unfold u147v1_0 at h
  split at h
  · obtain ⟨hr, hk⟩ := Prod.mk.inj (Option.some.inj h)
    rw [← hr]
    rfl
  · simp at h
theorem lt147v1_0 : TellsP (lqP true false 1 [0, 1, 7, 8] (evp Q77 [(14, [.int .i64, .int .i64, .int .i64, .int .i64, .int .i64]), (15, [.int .i64, .int .i64, .int .i64, .int .i64, .int .i64])] [] true [] 1 2097152 F147b0) u147v1_0 s147v1_0 N147v1_0 2097152) (evc R 1 2097152 (.loop [0, 1, 7, 8] F147b0)) := lqP_tells (evp_tells Q77_ok (loops_of (l := []) (by kernel_rfl) trivial)) hu147v1_0 hN147v1_0
noncomputable def lq147v1_0 : Lp := (9, lqP true false 1 [0, 1, 7, 8] (evp Q77 [(14, [.int .i64, .int .i64, .int .i64, .int .i64, .int .i64]), (15, [.int .i64, .int .i64, .int .i64, .int .i64, .int .i64])] [] true [] 1 2097152 F147b0) u147v1_0 s147v1_0 N147v1_0 2097152) :: []
noncomputable def w147v1_0 (v : V147v1_0) : V147v1_0 := (hid (loopV N147v1_0 2097152 v)).getD v
noncomputable def i147v1_0 (v : V147v1_0) : Bool := (hid (loopV N147v1_0 2097152 v)).isSome
noncomputable def y147v1_0 (x0 : List Row) (b0 : Int) : V147v1_0 := (w147v1_0 (V147v1_0.mk b0 x0 (lenI x0) 0))
noncomputable def T147v1 (x0 : List Row) (b0 : Int) : Pt (Int × Int) := (.ok true (.ok true (.ok true (.ok true (.ok (i147v1_0 (V147v1_0.mk b0 x0 (lenI x0) 0)) (.br (ltI (y147v1_0 x0 b0).s8 (y147v1_0 x0 b0).s7) (.ok true (.leaf ((y147v1_0 x0 b0).b0, (y147v1_0 x0 b0).s8))) (.ok true (.ok true (.leaf ((y147v1_0 x0 b0).b0, (-1)))))))))))
noncomputable def g147v1 (x0 : List Row) (b0 : Int) : Int × Int := hid (T147v1 x0 b0).val
noncomputable def k147v1 (x0 : List Row) (b0 : Int) : Bool := hid (T147v1 x0 b0).okv
noncomputable def n147v1 (x0 : List Row) (b0 : Int) (r : Int × Int) : SV × List Blk := ((.one (.lit (.int .i64 r.2))), [.box [.lit (.int .i64 r.1)]])
theorem e147v1 (x0 : List Row) (b0 : Int) : fnP Q77 [(14, [.int .i64, .int .i64, .int .i64, .int .i64, .int .i64]), (15, [.int .i64, .int .i64, .int .i64, .int .i64, .int .i64])] [] true lq147v1_0 2097152 F147 [(.one (.imm false 5 x0)), (.one (.clo 77 [.ptr 0 0 0]))] [.box [.lit (.int .i64 b0)]] = some ((T147v1 x0 b0).map (n147v1 x0 b0)) := by kernel_rfl
noncomputable def q147v1 : List SV → List Blk → Option ((SV × List Blk) × Bool)
  | [(.one (.imm false 5 c0)), (.one (.clo 77 [.ptr 0 0 0]))], [.box [.lit (.int .i64 c1)]] => some (n147v1 c0 c1 (g147v1 c0 c1), k147v1 c0 c1)
  | _, _ => none
theorem hL147v1 : Loops (fun live x => TellsP (lpAt lq147v1_0 (tagC x)) (evc R 1 2097152 (.loop live x))) F147.body := (loops_of (l := [([0, 1, 7, 8], F147b0)]) (by kernel_rfl) ⟨fun σ σr t h ho hl => lt147v1_0 σ σr t h ho hl, trivial⟩)
theorem t147v1 (args : List SV) (hp : List Blk) (r : SV × List Blk) (h : q147v1 args hp = some (r, true)) : frzR R 147 args hp = some r := by
  unfold q147v1 at h
  split at h
  · rename_i c0 c1
    obtain ⟨hr, hk⟩ := Prod.mk.inj (Option.some.inj h)
    exact (frz_lo (by decide)).trans (R_fn at147 2097152 (fnP_c Q77_ok hL147v1 (e147v1 c0 c1) hr hk))
  · simp at h
noncomputable def Q147v1 : Qt := qcons 147 q147v1 Q77
theorem Q147v1_ok : QOk (frzR R) Q147v1 := qcons_ok t147v1 Q77_ok
/-! slices.DeleteFunc[[]impl.Access,impl.Access] -/
structure V75_0 where
  mk ::
  (b0 : Int)
  (s0 : List Row)
  (s5 : Int)
  (s6 : Int)
noncomputable def y75_0_l_0 (v : V75_0) : List Row := (List.set v.s0 (0 + (Int.toNat v.s5)) (GAccess.row (GAccess.at v.s0 (0 + (Int.toNat v.s6)) 0)))
noncomputable def y75_0_l_1 (v : V75_0) : Bool := ((eqN (List.length v.s0) (List.length (y75_0_l_0 v))) && true)
noncomputable def y75_0_l_2 (v : V75_0) : Bool := ((eqN (List.length v.s0) (List.length v.s0)) && true)
noncomputable def N75_0 (v : V75_0) : Pt (Option V75_0) := (.ok ((leN (0 + (List.length v.s0)) (List.length v.s0)) && true) (.br (ltI v.s6 (lenI v.s0)) (.ok (((leI 0 v.s6) && (ltI v.s6 (lenI v.s0))) && ((hasRow [.int .i64, .int .i64, .int .i64, .int .i64, .int .i64] v.s0 (0 + (Int.toNat v.s6)) 0) && true)) (.ok ((k77 (GAccess.at v.s0 (0 + (Int.toNat v.s6)) 0) v.b0) && true) (.br (!(g77 (GAccess.at v.s0 (0 + (Int.toNat v.s6)) 0) v.b0)) (.ok (((leI 0 v.s5) && (ltI v.s5 (lenI v.s0))) && (((blt (0 + (Int.toNat v.s5)) (List.length v.s0)) && (beqN (rlen v.s0 (0 + (Int.toNat v.s5))) 5)) && true)) (.ok true (.ok true (.ok (((y75_0_l_1 v) && (y75_0_l_2 v)) && ((y75_0_l_1 v) && true)) (.leaf (some (V75_0.mk v.b0 (y75_0_l_0 v) (addI v.s5 1) (addI v.s6 1)))))))) (.ok true (.ok (((y75_0_l_2 v) && (y75_0_l_2 v)) && ((y75_0_l_2 v) && true)) (.leaf (some { v with s6 := (addI v.s6 1) }))))))) (.leaf none)))
noncomputable def s75_0 (v : V75_0) : St := ⟨[(0, (.one (.sl 1 0 (List.length v.s0)))), (1, (.one (.clo 77 [.ptr 0 0 0]))), (5, (.one (.lit (.int .i64 v.s5)))), (6, (.one (.lit (.int .i64 v.s6))))], [.box [.lit (.int .i64 v.b0)], .lst 5 v.s0]⟩
def u75_0 : St → Option (V75_0 × Bool)
  | ⟨[(0, (.one (.sl 1 0 l1))), (1, (.one (.clo 77 [.ptr 0 0 0]))), (5, (.one (.lit (.int .i64 c1)))), (6, (.one (.lit (.int .i64 c2))))], [.box [.lit (.int .i64 c0)], .lst 5 c_1]⟩ => some ((V75_0.mk c0 c_1 c1 c2), eqN l1 (List.length c_1) && (true))
  | _ => none
theorem hN75_0 (v : V75_0) : ((evp Q147v1 [(24, [.int .i64, .int .i64, .int .i64, .int .i64, .int .i64]), (25, [.int .i64, .int .i64, .int .i64, .int .i64, .int .i64]), (27, [.int .i64, .int .i64, .int .i64, .int .i64, .int .i64]), (32, [.int .i64, .int .i64, .int .i64, .int .i64, .int .i64]), (33, [.int .i64, .int .i64, .int .i64, .int .i64, .int .i64]), (1000000, []), (1000003, [])] [] true [] 1 2097152 F75b0 (s75_0 v)).bind (stpT true true 1 [0, 1, 5, 6])) = some ((N75_0 v).map (Option.map s75_0)) := by kernel_rfl
theorem hu75_0 (σ : St) (v : V75_0) (h : u75_0 σ = some (v, true)) : σ = s75_0 v := by
  unfold u75_0 at h
  split at h
  · obtain ⟨hr, hk⟩ := Prod.mk.inj (Option.some.inj h)
    obtain ⟨d0, hk0⟩ := and_t hk
    obtain rfl := of_decide_eq_true d0
    rw [← hr]
    rfl
  · simp at h
theorem lt75_0 : TellsP (lqP true true 1 [0, 1, 5, 6] (evp Q147v1 [(24, [.int .i64, .int .i64, .int .i64, .int .i64, .int .i64]), (25, [.int .i64, .int .i64, .int .i64, .int .i64, .int .i64]), (27, [.int .i64, .int .i64, .int .i64, .int .i64, .int .i64]), (32, [.int .i64, .int .i64, .int .i64, .int .i64, .int .i64]), (33, [.int .i64, .int .i64, .int .i64, .int .i64, .int .i64]), (1000000, []), (1000003, [])] [] true [] 1 2097152 F75b0) u75_0 s75_0 N75_0 2097152) (evc R 1 2097152 (.loop [0, 1, 5, 6] F75b0)) := lqP_tells (evp_tells Q147v1_ok (loops_of (l := []) (by kernel_rfl) trivial)) hu75_0 hN75_0
noncomputable def lq75_0 : Lp := (16, lqP true true 1 [0, 1, 5, 6] (evp Q147v1 [(24, [.int .i64, .int .i64, .int .i64, .int .i64, .int .i64]), (25, [.int .i64, .int .i64, .int .i64, .int .i64, .int .i64]), (27, [.int .i64, .int .i64, .int .i64, .int .i64, .int .i64]), (32, [.int .i64, .int .i64, .int .i64, .int .i64, .int .i64]), (33, [.int .i64, .int .i64, .int .i64, .int .i64, .int .i64]), (1000000, []), (1000003, [])] [] true [] 1 2097152 F75b0) u75_0 s75_0 N75_0 2097152) :: []
noncomputable def w75_0 (v : V75_0) : V75_0 := (hid (loopV N75_0 2097152 v)).getD v
noncomputable def i75_0 (v : V75_0) : Bool := (hid (loopV N75_0 2097152 v)).isSome
noncomputable def y75_0 (x0 : List Row) : Bool := ((eqN (List.length x0) (List.length x0)) && true)
noncomputable def y75_1 (x0 : List Row) (b0 : Int) : V75_0 := (w75_0 (V75_0.mk (g147v1 x0 b0).1 x0 (g147v1 x0 b0).2 (addI (g147v1 x0 b0).2 1)))
noncomputable def y75_2 (x0 : List Row) (b0 : Int) : Bool := (leI (y75_1 x0 b0).s5 (lenI (y75_1 x0 b0).s0))
noncomputable def y75_3 (x0 : List Row) (b0 : Int) : Nat := ((Int.toNat (lenI (y75_1 x0 b0).s0)) - (Int.toNat (y75_1 x0 b0).s5))
noncomputable def y75_4 (x0 : List Row) (b0 : Int) : Nat := ((0 + (Int.toNat (y75_1 x0 b0).s5)) + (y75_3 x0 b0))
noncomputable def y75_5 (x0 : List Row) (b0 : Int) : List Row := ((List.take (0 + (Int.toNat (y75_1 x0 b0).s5)) (y75_1 x0 b0).s0) ++ ((List.replicate (y75_3 x0 b0) (GAccess.row (GAccess.mk 0 0 0 0 0))) ++ (List.drop (y75_4 x0 b0) (y75_1 x0 b0).s0)))
noncomputable def y75_6 (x0 : List Row) (b0 : Int) : List Row := (List.take (Int.toNat (y75_1 x0 b0).s5) (y75_5 x0 b0))
noncomputable def T75 (x0 : List Row) (b0 : Int) : Pt (Int × List Row) := (.ok true (.ok (((y75_0 x0) && (k147v1 x0 b0)) && true) (.ok true (.br (eqI (g147v1 x0 b0).2 (-1)) (.ok true (.ok ((((leN (0 + (List.length x0)) (List.length x0)) && true) && (y75_0 x0)) && ((eqN (List.length x0) (List.length (List.take (List.length x0) x0))) && true)) (.leaf ((g147v1 x0 b0).1, (List.take (List.length x0) x0))))) (.ok true (.ok (((y75_0 x0) && (y75_0 x0)) && ((y75_0 x0) && true)) (.ok (y75_0 x0) (.ok (i75_0 (V75_0.mk (g147v1 x0 b0).1 x0 (g147v1 x0 b0).2 (addI (g147v1 x0 b0).2 1))) (.ok (((leN (0 + (List.length (y75_1 x0 b0).s0)) (List.length (y75_1 x0 b0).s0)) && ((leI 0 (y75_1 x0 b0).s5) && ((y75_2 x0 b0) && (leI (lenI (y75_1 x0 b0).s0) (lenI (y75_1 x0 b0).s0))))) && ((leN (y75_4 x0 b0) (List.length (y75_1 x0 b0).s0)) && true)) (.ok (((leN (0 + (List.length (y75_1 x0 b0).s0)) (List.length (y75_5 x0 b0))) && ((leI 0 (y75_1 x0 b0).s5) && (y75_2 x0 b0))) && true) (.ok ((((leN (0 + (Int.toNat (y75_1 x0 b0).s5)) (List.length (y75_5 x0 b0))) && true) && ((eqN (Int.toNat (y75_1 x0 b0).s5) (Int.toNat (y75_1 x0 b0).s5)) && true)) && ((eqN (Int.toNat (y75_1 x0 b0).s5) (List.length (y75_6 x0 b0))) && true)) (.leaf ((y75_1 x0 b0).b0, (y75_6 x0 b0))))))))))))))
noncomputable def g75 (x0 : List Row) (b0 : Int) : Int × List Row := hid (T75 x0 b0).val
noncomputable def k75 (x0 : List Row) (b0 : Int) : Bool := hid (T75 x0 b0).okv
noncomputable def n75 (x0 : List Row) (b0 : Int) (r : Int × List Row) : SV × List Blk := ((.one (.sl 1 0 (List.length r.2))), [.box [.lit (.int .i64 r.1)], .lst 5 r.2])
theorem e75 (x0 : List Row) (b0 : Int) : fnP Q147v1 [(24, [.int .i64, .int .i64, .int .i64, .int .i64, .int .i64]), (25, [.int .i64, .int .i64, .int .i64, .int .i64, .int .i64]), (27, [.int .i64, .int .i64, .int .i64, .int .i64, .int .i64]), (32, [.int .i64, .int .i64, .int .i64, .int .i64, .int .i64]), (33, [.int .i64, .int .i64, .int .i64, .int .i64, .int .i64]), (1000000, []), (1000003, [])] [] true lq75_0 2097152 F75 [(.one (.sl 1 0 (List.length x0))), (.one (.clo 77 [.ptr 0 0 0]))] [.box [.lit (.int .i64 b0)], .lst 5 x0] = some ((T75 x0 b0).map (n75 x0 b0)) := by kernel_rfl
noncomputable def q75 : List SV → List Blk → Option ((SV × List Blk) × Bool)
  | [(.one (.sl 1 0 l1)), (.one (.clo 77 [.ptr 0 0 0]))], [.box [.lit (.int .i64 c0)], .lst 5 c_1] => some (n75 c_1 c0 (g75 c_1 c0), eqN l1 (List.length c_1) && (k75 c_1 c0))
  | _, _ => none
theorem hL75 : Loops (fun live x => TellsP (lpAt lq75_0 (tagC x)) (evc R 1 2097152 (.loop live x))) F75.body := (loops_of (l := [([0, 1, 5, 6], F75b0)]) (by kernel_rfl) ⟨fun σ σr t h ho hl => lt75_0 σ σr t h ho hl, trivial⟩)
theorem t75 (args : List SV) (hp : List Blk) (r : SV × List Blk) (h : q75 args hp = some (r, true)) : frzR R 75 args hp = some r := by
  unfold q75 at h
  split at h
  · rename_i l1 c0 c_1
    obtain ⟨hr, hk⟩ := Prod.mk.inj (Option.some.inj h)
    obtain ⟨d0, hk0⟩ := and_t hk
    obtain rfl := of_decide_eq_true d0
    exact (frz_lo (by decide)).trans (R_fn at75 2097152 (fnP_c Q147v1_ok hL75 (e75 c_1 c0) hr hk0))
  · simp at h
noncomputable def Q75 : Qt := qcons 75 q75 Q147v1
theorem Q75_ok : QOk (frzR R) Q75 := qcons_ok t75 Q147v1_ok
/-! impl.LogOf -/
noncomputable def y10_0 (x0 : GBus) : Bool := (eqN (List.length x0.Log) (List.length x0.Log))
noncomputable def y10_1 (x0 : GBus) (x1 : Int) : Bool := ((eqN (List.length (g75 x0.Log x1).2) (List.length (g75 x0.Log x1).2)) && true)
noncomputable def T10 (x0 : GBus) (x1 : Int) : Pt (List Row × Bool) := (.ok true (.ok ((k21 x0) && ((((k74 x1 1 3) && true) || (!(g21 x0))) && true)) (.br (bif (!(g21 x0)) then true else (!(g74 x1 1 3))) (.ok true (.ok true (.ok true (.leaf ([], false))))) (.ok ((leN (mulN (List.length x0.Log) 40) 140737488355328) && (((((y10_0 x0) && true) && ((y10_0 x0) && true)) && ((y10_0 x0) && (k75 x0.Log x1))) && true)) (.ok ((y10_1 x0 x1) && (y10_1 x0 x1)) (.ok (y10_1 x0 x1) (.leaf ((g75 x0.Log x1).2, true))))))))
noncomputable def g10 (x0 : GBus) (x1 : Int) : List Row × Bool := hid (T10 x0 x1).val
noncomputable def k10 (x0 : GBus) (x1 : Int) : Bool := hid (T10 x0 x1).okv
noncomputable def n10 (x0 : GBus) (x1 : Int) (r : List Row × Bool) : SV × List Blk := ((.tup [(.one (.imm true 5 r.1)), (.one (.lit (.bool r.2)))]), [])
theorem e10 (x0 : GBus) (x1 : Int) : fnZ Q75 [(6, [.imm 1, .imm 5]), (10, [.int .i64]), (15, [.imm 5])] [] true [] 2097152 F10 [(.agg [.imm true 1 x0.Bytes, .imm true 5 x0.Log]), (.one (.lit (.int .i64 x1)))] = some ((T10 x0 x1).map (n10 x0 x1)) := by kernel_rfl
noncomputable def q10 : List SV → List Blk → Option ((SV × List Blk) × Bool)
  | [(.agg [.imm true 1 c0, .imm true 5 c1]), (.one (.lit (.int .i64 c2)))], [] => some (n10 (GBus.mk c0 c1) c2 (g10 (GBus.mk c0 c1) c2), k10 (GBus.mk c0 c1) c2)
  | _, _ => none
theorem t10 (args : List SV) (hp : List Blk) (r : SV × List Blk) (h : q10 args hp = some (r, true)) : frzR R 100010 args hp = some r := by
  unfold q10 at h
  split at h
  · rename_i c0 c1 c2
    obtain ⟨hr, hk⟩ := Prod.mk.inj (Option.some.inj h)
    exact fnZ_c (f := 10) Q75_ok (loops_of (l := []) rfl trivial) (e10 (GBus.mk c0 c1) c2) hr hk (fun r h => R_fn at10 2097152 h)
  · simp at h
noncomputable def Q10 : Qt := qcons 100010 q10 Q75
theorem Q10_ok : QOk (frzR R) Q10 := qcons_ok t10 Q75_ok
/-! spec.l4Bytes -/
structure V85v1_0 where
  mk ::
  (s5 : List Row)
  (s6 : Int)
  (s7 : Int)
noncomputable def N85v1_0 (v : V85v1_0) : Pt (Option V85v1_0) := (.ok true (.br (ltI v.s7 v.s6) (.ok ((inRow [.int .i64] v.s5 v.s7) && true) (.ok ((k78 (intAt v.s5 (Int.toNat v.s7) 0) 0 255) && true) (.br (!(g78 (intAt v.s5 (Int.toNat v.s7) 0) 0 255)) (.ok true (.leaf none)) (.ok true (.ok true (.leaf (some { v with s7 := (addI v.s7 1) }))))))) (.leaf none)))
noncomputable def s85v1_0 (v : V85v1_0) : St := ⟨[(5, (.one (.imm true 1 v.s5))), (6, (.one (.lit (.int .i64 v.s6)))), (7, (.one (.lit (.int .i64 v.s7))))], []⟩
def u85v1_0 : St → Option (V85v1_0 × Bool)
  | ⟨[(5, (.one (.imm true 1 c0))), (6, (.one (.lit (.int .i64 c1)))), (7, (.one (.lit (.int .i64 c2))))], []⟩ => some ((V85v1_0.mk c0 c1 c2), true)
  | _ => none
theorem hN85v1_0 (v : V85v1_0) : ((evp Q10 [(9, [.int .i64]), (10, [.int .i64])] [] true [] 0 2097152 F85b0 (s85v1_0 v)).bind (stpT true false 0 [5, 6, 7])) = some ((N85v1_0 v).map (Option.map s85v1_0)) := by kernel_rfl
theorem hu85v1_0 (σ : St) (v : V85v1_0) (h : u85v1_0 σ = some (v, true)) : σ = s85v1_0 v := by
  unfold u85v1_0 at h
  split at h
  · obtain ⟨hr, hk⟩ := Prod.mk.inj (Option.some.inj h)
    rw [← hr]
    rfl
  · simp at h
theorem lt85v1_0 : TellsP (lqP true false 0 [5, 6, 7] (evp Q10 [(9, [.int .i64]), (10, [.int .i64])] [] true [] 0 2097152 F85b0) u85v1_0 s85v1_0 N85v1_0 2097152) (evc R 0 2097152 (.loop [5, 6, 7] F85b0)) := lqP_tells (evp_tells Q10_ok (loops_of (l := []) (by kernel_rfl) trivial)) hu85v1_0 hN85v1_0
noncomputable def lq85v1_0 : Lp := (8, lqP true false 0 [5, 6, 7] (evp Q10 [(9, [.int .i64]), (10, [.int .i64])] [] true [] 0 2097152 F85b0) u85v1_0 s85v1_0 N85v1_0 2097152) :: []
noncomputable def w85v1_0 (v : V85v1_0) : V85v1_0 := (hid (loopV N85v1_0 2097152 v)).getD v
noncomputable def i85v1_0 (v : V85v1_0) : Bool := (hid (loopV N85v1_0 2097152 v)).isSome
noncomputable def y85v1_0 (x0 : List Row) : V85v1_0 := (w85v1_0 (V85v1_0.mk x0 (lenI x0) 0))
noncomputable def T85v1 (x0 : List Row) : Pt (Bool) := (.ok true (.ok true (.ok true (.ok true (.ok (i85v1_0 (V85v1_0.mk x0 (lenI x0) 0)) (.br (ltI (y85v1_0 x0).s7 (y85v1_0 x0).s6) (.ok true (.ok true (.leaf false))) (.ok true (.ok true (.ok true (.leaf true))))))))))
noncomputable def g85v1 (x0 : List Row) : Bool := hid (T85v1 x0).val
noncomputable def k85v1 (x0 : List Row) : Bool := hid (T85v1 x0).okv
noncomputable def n85v1 (x0 : List Row) (r : Bool) : SV × List Blk := ((.one (.lit (.bool r))), [])
theorem e85v1 (x0 : List Row) : fnZ Q10 [(9, [.int .i64]), (10, [.int .i64])] [] true lq85v1_0 2097152 F85 [(.one (.imm true 1 x0))] = some ((T85v1 x0).map (n85v1 x0)) := by kernel_rfl
noncomputable def q85v1 : List SV → List Blk → Option ((SV × List Blk) × Bool)
  | [(.one (.imm true 1 c0))], [] => some (n85v1 c0 (g85v1 c0), k85v1 c0)
  | _, _ => none
theorem hL85v1 : Loops (fun live x => TellsP (lpAt lq85v1_0 (tagC x)) (evc R 0 2097152 (.loop live x))) F85.body := (loops_of (l := [([5, 6, 7], F85b0)]) (by kernel_rfl) ⟨fun σ σr t h ho hl => lt85v1_0 σ σr t h ho hl, trivial⟩)
theorem t85v1 (args : List SV) (hp : List Blk) (r : SV × List Blk) (h : q85v1 args hp = some (r, true)) : frzR R 100085 args hp = some r := by
  unfold q85v1 at h
  split at h
  · rename_i c0
    obtain ⟨hr, hk⟩ := Prod.mk.inj (Option.some.inj h)
    exact fnZ_c (f := 85) Q10_ok hL85v1 (e85v1 c0) hr hk (fun r h => R_fn at85 2097152 h)
  · simp at h
noncomputable def Q85v1 : Qt := qcons 100085 q85v1 Q10
theorem Q85v1_ok : QOk (frzR R) Q85v1 := qcons_ok t85v1 Q10_ok
/-! spec.GoodBus -/
structure V25v1_0 where
  mk ::
  (b0 : GBus)
  (s6 : List Row)
  (s7 : Int)
  (s8 : Int)
noncomputable def N25v1_0 (v : V25v1_0) : Pt (Option V25v1_0) := (.ok true (.br (ltI v.s8 v.s7) (.ok ((inRow [.int .i64, .int .i64, .int .i64, .int .i64, .int .i64] v.s6 v.s8) && true) (.ok ((k102 (GAccess.at v.s6 (Int.toNat v.s8) 0)) && true) (.br (!(g102 (GAccess.at v.s6 (Int.toNat v.s8) 0))) (.ok true (.leaf none)) (.ok true (.ok true (.leaf (some { v with s8 := (addI v.s8 1) }))))))) (.leaf none)))
noncomputable def s25v1_0 (v : V25v1_0) : St := ⟨[(1, (.one (.ptr 0 0 0))), (6, (.one (.imm true 5 v.s6))), (7, (.one (.lit (.int .i64 v.s7)))), (8, (.one (.lit (.int .i64 v.s8))))], [.box [.imm true 1 v.b0.Bytes, .imm true 5 v.b0.Log]]⟩
def u25v1_0 : St → Option (V25v1_0 × Bool)
  | ⟨[(1, (.one (.ptr 0 0 0))), (6, (.one (.imm true 5 c2))), (7, (.one (.lit (.int .i64 c3)))), (8, (.one (.lit (.int .i64 c4))))], [.box [.imm true 1 c0, .imm true 5 c1]]⟩ => some ((V25v1_0.mk (GBus.mk c0 c1) c2 c3 c4), true)
  | _ => none
theorem hN25v1_0 (v : V25v1_0) : ((evp Q10 [(6, [.imm 5]), (10, [.int .i64, .int .i64, .int .i64, .int .i64, .int .i64]), (11, [.int .i64, .int .i64, .int .i64, .int .i64, .int .i64]), (12, [.int .i64, .int .i64, .int .i64, .int .i64, .int .i64]), (17, [.imm 1]), (22, [.imm 1]), (27, [.imm 5])] [] true [] 0 2097152 F25b0 (s25v1_0 v)).bind (stpT true false 0 [1, 6, 7, 8])) = some ((N25v1_0 v).map (Option.map s25v1_0)) := by kernel_rfl
theorem hu25v1_0 (σ : St) (v : V25v1_0) (h : u25v1_0 σ = some (v, true)) : σ = s25v1_0 v := by
  unfold u25v1_0 at h
  split at h
  · obtain ⟨hr, hk⟩ := Prod.mk.inj (Option.some.inj h)
    rw [← hr]
    rfl
  · simp at h
theorem lt25v1_0 : TellsP (lqP true false 0 [1, 6, 7, 8] (evp Q10 [(6, [.imm 5]), (10, [.int .i64, .int .i64, .int .i64, .int .i64, .int .i64]), (11, [.int .i64, .int .i64, .int .i64, .int .i64, .int .i64]), (12, [.int .i64, .int .i64, .int .i64, .int .i64, .int .i64]), (17, [.imm 1]), (22, [.imm 1]), (27, [.imm 5])] [] true [] 0 2097152 F25b0) u25v1_0 s25v1_0 N25v1_0 2097152) (evc R 0 2097152 (.loop [1, 6, 7, 8] F25b0)) := lqP_tells (evp_tells Q10_ok (loops_of (l := []) (by kernel_rfl) trivial)) hu25v1_0 hN25v1_0
noncomputable def lq25v1_0 : Lp := (9, lqP true false 0 [1, 6, 7, 8] (evp Q10 [(6, [.imm 5]), (10, [.int .i64, .int .i64, .int .i64, .int .i64, .int .i64]), (11, [.int .i64, .int .i64, .int .i64, .int .i64, .int .i64]), (12, [.int .i64, .int .i64, .int .i64, .int .i64, .int .i64]), (17, [.imm 1]), (22, [.imm 1]), (27, [.imm 5])] [] true [] 0 2097152 F25b0) u25v1_0 s25v1_0 N25v1_0 2097152) :: []
noncomputable def w25v1_0 (v : V25v1_0) : V25v1_0 := (hid (loopV N25v1_0 2097152 v)).getD v
noncomputable def i25v1_0 (v : V25v1_0) : Bool := (hid (loopV N25v1_0 2097152 v)).isSome
noncomputable def y25v1_0 (x0 : GBus) : V25v1_0 := (w25v1_0 (V25v1_0.mk x0 x0.Log (lenI x0.Log) 0))
noncomputable def T25v1 (x0 : GBus) : Pt (Bool) := (.ok true (.ok true (.ok true (.ok true (.ok (i25v1_0 (V25v1_0.mk x0 x0.Log (lenI x0.Log) 0)) (.br (ltI (y25v1_0 x0).s8 (y25v1_0 x0).s7) (.ok true (.ok true (.leaf false))) (.ok ((((k85v1 (y25v1_0 x0).b0.Bytes) && true) || (!(eqI (lenI (y25v1_0 x0).b0.Bytes) 512))) && true) (.ok true (.ok true (.leaf (bif (bif (eqI (lenI (y25v1_0 x0).b0.Bytes) 512) then (g85v1 (y25v1_0 x0).b0.Bytes) else false) then (leI (lenI (y25v1_0 x0).b0.Log) 400) else false)))))))))))
noncomputable def g25v1 (x0 : GBus) : Bool := hid (T25v1 x0).val
noncomputable def k25v1 (x0 : GBus) : Bool := hid (T25v1 x0).okv
noncomputable def n25v1 (x0 : GBus) (r : Bool) : SV × List Blk := ((.one (.lit (.bool r))), [])
theorem e25v1 (x0 : GBus) : fnZ Q85v1 [(6, [.imm 5]), (10, [.int .i64, .int .i64, .int .i64, .int .i64, .int .i64]), (11, [.int .i64, .int .i64, .int .i64, .int .i64, .int .i64]), (12, [.int .i64, .int .i64, .int .i64, .int .i64, .int .i64]), (17, [.imm 1]), (22, [.imm 1]), (27, [.imm 5])] [] true lq25v1_0 2097152 F25 [(.agg [.imm true 1 x0.Bytes, .imm true 5 x0.Log])] = some ((T25v1 x0).map (n25v1 x0)) := by kernel_rfl
noncomputable def q25v1 : List SV → List Blk → Option ((SV × List Blk) × Bool)
  | [(.agg [.imm true 1 c0, .imm true 5 c1])], [] => some (n25v1 (GBus.mk c0 c1) (g25v1 (GBus.mk c0 c1)), k25v1 (GBus.mk c0 c1))
  | _, _ => none
theorem hL25v1 : Loops (fun live x => TellsP (lpAt lq25v1_0 (tagC x)) (evc R 0 2097152 (.loop live x))) F25.body := (loops_of (l := [([1, 6, 7, 8], F25b0)]) (by kernel_rfl) ⟨fun σ σr t h ho hl => lt25v1_0 σ σr t h ho hl, trivial⟩)
theorem t25v1 (args : List SV) (hp : List Blk) (r : SV × List Blk) (h : q25v1 args hp = some (r, true)) : frzR R 100025 args hp = some r := by
  unfold q25v1 at h
  split at h
  · rename_i c0 c1
    obtain ⟨hr, hk⟩ := Prod.mk.inj (Option.some.inj h)
    exact fnZ_c (f := 25) Q85v1_ok hL25v1 (e25v1 (GBus.mk c0 c1)) hr hk (fun r h => R_fn at25 2097152 h)
  · simp at h
noncomputable def Q25v1 : Qt := qcons 100025 q25v1 Q85v1
theorem Q25v1_ok : QOk (frzR R) Q25v1 := qcons_ok t25v1 Q85v1_ok
/-! spec.LogOf -/
structure V11_0 where
  mk ::
  (s1 : Int)
  (s6 : List Row)
  (s18 : List Row)
  (s19 : Int)
  (s20 : Int)
noncomputable def y11_0_l_0 (v : V11_0) : Bool := (eqN (List.length v.s6) (List.length v.s6))
noncomputable def y11_0_l_1 (v : V11_0) : List Row := (v.s6 ++ [(GAccess.row (GAccess.at v.s18 (Int.toNat v.s20) 0))])
noncomputable def y11_0_l_2 (v : V11_0) : Bool := ((eqN (List.length (y11_0_l_1 v)) (List.length (y11_0_l_1 v))) && true)
noncomputable def N11_0 (v : V11_0) : Pt (Option V11_0) := (.ok true (.br (ltI v.s20 v.s19) (.ok ((inRow [.int .i64, .int .i64, .int .i64, .int .i64, .int .i64] v.s18 v.s20) && true) (.ok true (.br (eqI (intAt v.s18 (Int.toNat v.s20) 0) v.s1) (.ok (((y11_0_l_0 v) && ((eqN (0 + (List.length v.s6)) (List.length v.s6)) && ((leN (mulN ((List.length v.s6) + 1) 40) 140737488355328) && (leN ((List.length v.s6) + 1) 140737488355328)))) && true) (.ok true (.ok ((y11_0_l_2 v) && (y11_0_l_2 v)) (.leaf (some { v with s6 := (y11_0_l_1 v), s20 := (addI v.s20 1) }))))) (.ok true (.ok (((y11_0_l_0 v) && true) && ((y11_0_l_0 v) && true)) (.leaf (some { v with s20 := (addI v.s20 1) }))))))) (.leaf none)))
noncomputable def s11_0 (v : V11_0) : St := ⟨[(1, (.one (.lit (.int .i64 v.s1)))), (6, (.one (.sl 0 0 (List.length v.s6)))), (18, (.one (.imm true 5 v.s18))), (19, (.one (.lit (.int .i64 v.s19)))), (20, (.one (.lit (.int .i64 v.s20))))], [.lst 5 v.s6]⟩
def u11_0 : St → Option (V11_0 × Bool)
  | ⟨[(1, (.one (.lit (.int .i64 c0)))), (6, (.one (.sl 0 0 l0))), (18, (.one (.imm true 5 c1))), (19, (.one (.lit (.int .i64 c2)))), (20, (.one (.lit (.int .i64 c3))))], [.lst 5 c_0]⟩ => some ((V11_0.mk c0 c_0 c1 c2 c3), eqN l0 (List.length c_0) && (true))
  | _ => none
theorem hN11_0 (v : V11_0) : ((evp Q25v1 [(9, [.imm 1, .imm 5]), (18, [.imm 5]), (22, [.int .i64, .int .i64, .int .i64, .int .i64, .int .i64]), (23, [.int .i64, .int .i64, .int .i64, .int .i64, .int .i64]), (25, [.int .i64]), (29, [.int .i64, .int .i64, .int .i64, .int .i64, .int .i64])] [] true [] 0 2097152 F11b0 (s11_0 v)).bind (stpT true false 0 [1, 6, 18, 19, 20])) = some ((N11_0 v).map (Option.map s11_0)) := by kernel_rfl
theorem hu11_0 (σ : St) (v : V11_0) (h : u11_0 σ = some (v, true)) : σ = s11_0 v := by
  unfold u11_0 at h
  split at h
  · obtain ⟨hr, hk⟩ := Prod.mk.inj (Option.some.inj h)
    obtain ⟨d0, hk0⟩ := and_t hk
    obtain rfl := of_decide_eq_true d0
    rw [← hr]
    rfl
  · simp at h
theorem lt11_0 : TellsP (lqP true false 0 [1, 6, 18, 19, 20] (evp Q25v1 [(9, [.imm 1, .imm 5]), (18, [.imm 5]), (22, [.int .i64, .int .i64, .int .i64, .int .i64, .int .i64]), (23, [.int .i64, .int .i64, .int .i64, .int .i64, .int .i64]), (25, [.int .i64]), (29, [.int .i64, .int .i64, .int .i64, .int .i64, .int .i64])] [] true [] 0 2097152 F11b0) u11_0 s11_0 N11_0 2097152) (evc R 0 2097152 (.loop [1, 6, 18, 19, 20] F11b0)) := lqP_tells (evp_tells Q25v1_ok (loops_of (l := []) (by kernel_rfl) trivial)) hu11_0 hN11_0
noncomputable def lq11_0 : Lp := (21, lqP true false 0 [1, 6, 18, 19, 20] (evp Q25v1 [(9, [.imm 1, .imm 5]), (18, [.imm 5]), (22, [.int .i64, .int .i64, .int .i64, .int .i64, .int .i64]), (23, [.int .i64, .int .i64, .int .i64, .int .i64, .int .i64]), (25, [.int .i64]), (29, [.int .i64, .int .i64, .int .i64, .int .i64, .int .i64])] [] true [] 0 2097152 F11b0) u11_0 s11_0 N11_0 2097152) :: []
noncomputable def w11_0 (v : V11_0) : V11_0 := (hid (loopV N11_0 2097152 v)).getD v
noncomputable def i11_0 (v : V11_0) : Bool := (hid (loopV N11_0 2097152 v)).isSome
noncomputable def y11_0 (x0 : GBus) (x1 : Int) : Nat := (List.length (w11_0 (V11_0.mk x1 [] x0.Log (lenI x0.Log) 0)).s6)
noncomputable def y11_1 (x0 : GBus) (x1 : Int) : Bool := ((eqN (y11_0 x0 x1) (y11_0 x0 x1)) && true)
noncomputable def T11 (x0 : GBus) (x1 : Int) : Pt (List Row × Bool) := (.ok true (.ok ((k25v1 x0) && ((((k78 x1 1 3) && true) || (!(g25v1 x0))) && true)) (.br (bif (!(g25v1 x0)) then true else (!(g78 x1 1 3))) (.ok true (.ok true (.ok true (.leaf ([], false))))) (.ok true (.ok true (.ok true (.ok true (.ok (i11_0 (V11_0.mk x1 [] x0.Log (lenI x0.Log) 0)) (.ok true (.ok ((y11_1 x0 x1) && (y11_1 x0 x1)) (.ok (y11_1 x0 x1) (.leaf ((w11_0 (V11_0.mk x1 [] x0.Log (lenI x0.Log) 0)).s6, true)))))))))))))
noncomputable def g11 (x0 : GBus) (x1 : Int) : List Row × Bool := hid (T11 x0 x1).val
noncomputable def k11 (x0 : GBus) (x1 : Int) : Bool := hid (T11 x0 x1).okv
noncomputable def n11 (x0 : GBus) (x1 : Int) (r : List Row × Bool) : SV × List Blk := ((.tup [(.one (.imm true 5 r.1)), (.one (.lit (.bool r.2)))]), [])
theorem e11 (x0 : GBus) (x1 : Int) : fnZ Q25v1 [(9, [.imm 1, .imm 5]), (18, [.imm 5]), (22, [.int .i64, .int .i64, .int .i64, .int .i64, .int .i64]), (23, [.int .i64, .int .i64, .int .i64, .int .i64, .int .i64]), (25, [.int .i64]), (29, [.int .i64, .int .i64, .int .i64, .int .i64, .int .i64])] [] true lq11_0 2097152 F11 [(.agg [.imm true 1 x0.Bytes, .imm true 5 x0.Log]), (.one (.lit (.int .i64 x1)))] = some ((T11 x0 x1).map (n11 x0 x1)) := by kernel_rfl
noncomputable def q11 : List SV → List Blk → Option ((SV × List Blk) × Bool)
  | [(.agg [.imm true 1 c0, .imm true 5 c1]), (.one (.lit (.int .i64 c2)))], [] => some (n11 (GBus.mk c0 c1) c2 (g11 (GBus.mk c0 c1) c2), k11 (GBus.mk c0 c1) c2)
  | _, _ => none
theorem hL11 : Loops (fun live x => TellsP (lpAt lq11_0 (tagC x)) (evc R 0 2097152 (.loop live x))) F11.body := (loops_of (l := [([1, 6, 18, 19, 20], F11b0)]) (by kernel_rfl) ⟨fun σ σr t h ho hl => lt11_0 σ σr t h ho hl, trivial⟩)
theorem t11 (args : List SV) (hp : List Blk) (r : SV × List Blk) (h : q11 args hp = some (r, true)) : frzR R 100011 args hp = some r := by
  unfold q11 at h
  split at h
  · rename_i c0 c1 c2
    obtain ⟨hr, hk⟩ := Prod.mk.inj (Option.some.inj h)
    exact fnZ_c (f := 11) Q25v1_ok hL11 (e11 (GBus.mk c0 c1) c2) hr hk (fun r h => R_fn at11 2097152 h)
  · simp at h
noncomputable def Q11 : Qt := qcons 100011 q11 Q25v1
theorem Q11_ok : QOk (frzR R) Q11 := qcons_ok t11 Q25v1_ok
/-! laws.sameAccesses -/
structure V12_0 where
  mk ::
  (s0 : List Row)
  (s1 : List Row)
  (s12 : Int)
  (s13 : Int)
noncomputable def N12_0 (v : V12_0) : Pt (Option V12_0) := (.ok true (.br (ltI v.s13 v.s12) (.ok true (.ok ((inRow [.int .i64, .int .i64, .int .i64, .int .i64, .int .i64] v.s0 v.s13) && ((inRow [.int .i64, .int .i64, .int .i64, .int .i64, .int .i64] v.s1 v.s13) && true)) (.br (!((eqI (intAt v.s0 (Int.toNat v.s13) 0) (intAt v.s1 (Int.toNat v.s13) 0)) && ((eqI (intAt v.s0 (Int.toNat v.s13) 1) (intAt v.s1 (Int.toNat v.s13) 1)) && ((eqI (intAt v.s0 (Int.toNat v.s13) 2) (intAt v.s1 (Int.toNat v.s13) 2)) && ((eqI (intAt v.s0 (Int.toNat v.s13) 3) (intAt v.s1 (Int.toNat v.s13) 3)) && ((eqI (intAt v.s0 (Int.toNat v.s13) 4) (intAt v.s1 (Int.toNat v.s13) 4)) && true)))))) (.ok true (.leaf none)) (.ok true (.ok true (.leaf (some { v with s13 := (addI v.s13 1) }))))))) (.leaf none)))
noncomputable def s12_0 (v : V12_0) : St := ⟨[(0, (.one (.imm true 5 v.s0))), (1, (.one (.imm true 5 v.s1))), (12, (.one (.lit (.int .i64 v.s12)))), (13, (.one (.lit (.int .i64 v.s13))))], []⟩
def u12_0 : St → Option (V12_0 × Bool)
  | ⟨[(0, (.one (.imm true 5 c0))), (1, (.one (.imm true 5 c1))), (12, (.one (.lit (.int .i64 c2)))), (13, (.one (.lit (.int .i64 c3))))], []⟩ => some ((V12_0.mk c0 c1 c2 c3), true)
  | _ => none
theorem hN12_0 (v : V12_0) : ((evp Q11 [(18, [.int .i64, .int .i64, .int .i64, .int .i64, .int .i64]), (19, [.int .i64, .int .i64, .int .i64, .int .i64, .int .i64]), (22, [.int .i64, .int .i64, .int .i64, .int .i64, .int .i64]), (23, [.int .i64, .int .i64, .int .i64, .int .i64, .int .i64])] [] true [] 0 2097152 F12b0 (s12_0 v)).bind (stpT true false 0 [0, 1, 12, 13])) = some ((N12_0 v).map (Option.map s12_0)) := by kernel_rfl
theorem hu12_0 (σ : St) (v : V12_0) (h : u12_0 σ = some (v, true)) : σ = s12_0 v := by
  unfold u12_0 at h
  split at h
  · obtain ⟨hr, hk⟩ := Prod.mk.inj (Option.some.inj h)
    rw [← hr]
    rfl
  · simp at h
theorem lt12_0 : TellsP (lqP true false 0 [0, 1, 12, 13] (evp Q11 [(18, [.int .i64, .int .i64, .int .i64, .int .i64, .int .i64]), (19, [.int .i64, .int .i64, .int .i64, .int .i64, .int .i64]), (22, [.int .i64, .int .i64, .int .i64, .int .i64, .int .i64]), (23, [.int .i64, .int .i64, .int .i64, .int .i64, .int .i64])] [] true [] 0 2097152 F12b0) u12_0 s12_0 N12_0 2097152) (evc R 0 2097152 (.loop [0, 1, 12, 13] F12b0)) := lqP_tells (evp_tells Q11_ok (loops_of (l := []) (by kernel_rfl) trivial)) hu12_0 hN12_0
noncomputable def lq12_0 : Lp := (14, lqP true false 0 [0, 1, 12, 13] (evp Q11 [(18, [.int .i64, .int .i64, .int .i64, .int .i64, .int .i64]), (19, [.int .i64, .int .i64, .int .i64, .int .i64, .int .i64]), (22, [.int .i64, .int .i64, .int .i64, .int .i64, .int .i64]), (23, [.int .i64, .int .i64, .int .i64, .int .i64, .int .i64])] [] true [] 0 2097152 F12b0) u12_0 s12_0 N12_0 2097152) :: []
noncomputable def w12_0 (v : V12_0) : V12_0 := (hid (loopV N12_0 2097152 v)).getD v
noncomputable def i12_0 (v : V12_0) : Bool := (hid (loopV N12_0 2097152 v)).isSome
noncomputable def y12_0 (x0 : List Row) (x1 : List Row) : V12_0 := (w12_0 (V12_0.mk x0 x1 (lenI x0) 0))
noncomputable def T12 (x0 : List Row) (x1 : List Row) : Pt (Bool) := (.ok true (.ok true (.br (neI (lenI x0) (lenI x1)) (.ok true (.ok true (.ok true (.leaf false)))) (.ok true (.ok true (.ok true (.ok (i12_0 (V12_0.mk x0 x1 (lenI x0) 0)) (.br (ltI (y12_0 x0 x1).s13 (y12_0 x0 x1).s12) (.ok true (.ok true (.leaf false))) (.ok true (.ok true (.ok true (.leaf true))))))))))))
noncomputable def g12 (x0 : List Row) (x1 : List Row) : Bool := hid (T12 x0 x1).val
noncomputable def k12 (x0 : List Row) (x1 : List Row) : Bool := hid (T12 x0 x1).okv
noncomputable def n12 (x0 : List Row) (x1 : List Row) (r : Bool) : SV × List Blk := ((.one (.lit (.bool r))), [])
theorem e12 (x0 : List Row) (x1 : List Row) : fnZ Q11 [(18, [.int .i64, .int .i64, .int .i64, .int .i64, .int .i64]), (19, [.int .i64, .int .i64, .int .i64, .int .i64, .int .i64]), (22, [.int .i64, .int .i64, .int .i64, .int .i64, .int .i64]), (23, [.int .i64, .int .i64, .int .i64, .int .i64, .int .i64])] [] true lq12_0 2097152 F12 [(.one (.imm true 5 x0)), (.one (.imm true 5 x1))] = some ((T12 x0 x1).map (n12 x0 x1)) := by kernel_rfl
noncomputable def q12 : List SV → List Blk → Option ((SV × List Blk) × Bool)
  | [(.one (.imm true 5 c0)), (.one (.imm true 5 c1))], [] => some (n12 c0 c1 (g12 c0 c1), k12 c0 c1)
  | _, _ => none
theorem hL12 : Loops (fun live x => TellsP (lpAt lq12_0 (tagC x)) (evc R 0 2097152 (.loop live x))) F12.body := (loops_of (l := [([0, 1, 12, 13], F12b0)]) (by kernel_rfl) ⟨fun σ σr t h ho hl => lt12_0 σ σr t h ho hl, trivial⟩)
theorem t12 (args : List SV) (hp : List Blk) (r : SV × List Blk) (h : q12 args hp = some (r, true)) : frzR R 100012 args hp = some r := by
  unfold q12 at h
  split at h
  · rename_i c0 c1
    obtain ⟨hr, hk⟩ := Prod.mk.inj (Option.some.inj h)
    exact fnZ_c (f := 12) Q11_ok hL12 (e12 c0 c1) hr hk (fun r h => R_fn at12 2097152 h)
  · simp at h
noncomputable def Q12 : Qt := qcons 100012 q12 Q11
theorem Q12_ok : QOk (frzR R) Q12 := qcons_ok t12 Q11_ok
/-! spec.DrawSameMemory -/
noncomputable def y13_0 (x0 : List Row) : Gl1Cur × Int := (g73 2 (g72 (Gl1Cur.mk x0 0 0)).1)
noncomputable def y13_1 (x0 : List Row) : Nat := (List.length (g72 (Gl1Cur.mk x0 0 0)).2.Bytes)
noncomputable def y13_2 (x0 : List Row) : Nat := (List.length (g72 (Gl1Cur.mk x0 0 0)).2.Log)
noncomputable def y13_3 (x0 : List Row) : Bool := ((eqN (y13_1 x0) (y13_1 x0)) && ((eqN (y13_2 x0) (y13_2 x0)) && true))
noncomputable def y13_4 (x0 : List Row) : GBus × Int × Int × Bool := (g24 (g72 (Gl1Cur.mk x0 0 0)).2 (addI 1 (y13_0 x0).2) 1 (g79 (y13_0 x0).1).2 0)
noncomputable def y13_5 (x0 : List Row) : Bool := ((eqN (List.length (y13_4 x0).1.Bytes) (List.length (y13_4 x0).1.Bytes)) && ((eqN (List.length (y13_4 x0).1.Log) (List.length (y13_4 x0).1.Log)) && true))
noncomputable def y13_6 (x0 : List Row) : Bool := ((eqN (y13_1 x0) (y13_1 x0)) && ((eqN (y13_2 x0) (y13_2 x0)) && (y13_5 x0)))
noncomputable def y13_7 (x0 : List Row) : Bool := (((y13_3 x0) && ((y13_5 x0) && (y13_6 x0))) && true)
noncomputable def y13_8 (x0 : List Row) : Bool := (((k73 2 (g72 (Gl1Cur.mk x0 0 0)).1) && ((k79 (y13_0 x0).1) && ((((y13_3 x0) && true) && (k24 (g72 (Gl1Cur.mk x0 0 0)).2 (addI 1 (y13_0 x0).2) 1 (g79 (y13_0 x0).1).2 0)) && true))) && (y13_7 x0))
noncomputable def y13_9 : Bool := ((same (α := Nat) 0 0) && ((same (α := Nat) 0 0) && true))
noncomputable def y13_10 (x0 : List Row) : Bool := ((same (α := Nat) (y13_1 x0) (y13_1 x0)) && ((same (α := Nat) (y13_2 x0) (y13_2 x0)) && true))
noncomputable def y13_11 (x0 : List Row) : Bool := ((same (α := Nat) (List.length (y13_4 x0).1.Bytes) (List.length (y13_4 x0).1.Bytes)) && ((same (α := Nat) (List.length (y13_4 x0).1.Log) (List.length (y13_4 x0).1.Log)) && true))
noncomputable def y13_12 (x0 : List Row) : Bool := (sameR (g72 (Gl1Cur.mk x0 0 0)).2.Bytes (g72 (Gl1Cur.mk x0 0 0)).2.Bytes)
noncomputable def y13_13 (x0 : List Row) : Bool := (sameR (g72 (Gl1Cur.mk x0 0 0)).2.Log (g72 (Gl1Cur.mk x0 0 0)).2.Log)
noncomputable def y13_14 (x0 : List Row) : Bool := ((y13_12 x0) && ((y13_13 x0) && ((sameR (y13_4 x0).1.Bytes (y13_4 x0).1.Bytes) && ((sameR (y13_4 x0).1.Log (y13_4 x0).1.Log) && true))))
noncomputable def y13_15 (x0 : List Row) : Bool := (y13_9 && (y13_9 && ((((same (α := Bool) true true) && (sameR (g79 (y13_0 x0).1).1.fcode (g79 (y13_0 x0).1).1.fcode)) && ((same (α := Int) (g79 (y13_0 x0).1).1.fat (g79 (y13_0 x0).1).1.fat) && ((same (α := Int) (g79 (y13_0 x0).1).1.fseed (g79 (y13_0 x0).1).1.fseed) && true))) && ((y13_10 x0) && ((y13_11 x0) && ((sameR [] []) && ((sameR [] []) && ((sameR [] []) && ((sameR [] []) && (y13_14 x0))))))))))
noncomputable def y13_16 (x0 : List Row) : Bool := (((same (α := Bool) (y13_4 x0).2.2.2 (y13_4 x0).2.2.2) && true) && (y13_15 x0))
noncomputable def y13_17 (x0 : List Row) : Bool := ((y13_8 x0) && (((y13_8 x0) && (((y13_8 x0) && (((y13_8 x0) && (((y13_8 x0) && (((y13_8 x0) && (((y13_8 x0) && (((y13_8 x0) && (((y13_8 x0) && (((y13_8 x0) && (((y13_8 x0) && (((y13_8 x0) && ((y13_8 x0) && (y13_16 x0))) && (y13_16 x0))) && (y13_16 x0))) && (y13_16 x0))) && (y13_16 x0))) && (y13_16 x0))) && (y13_16 x0))) && (y13_16 x0))) && (y13_16 x0))) && (y13_16 x0))) && (y13_16 x0))) && (y13_16 x0)))
noncomputable def y13_18 (x0 : List Row) : Nat := (List.length (g72 (g79 (y13_0 x0).1).1).2.Bytes)
noncomputable def y13_19 (x0 : List Row) : Nat := (List.length (g72 (g79 (y13_0 x0).1).1).2.Log)
noncomputable def y13_20 (x0 : List Row) : Bool := ((eqN (y13_18 x0) (y13_18 x0)) && ((eqN (y13_19 x0) (y13_19 x0)) && true))
noncomputable def y13_21 (x0 : List Row) : Bool := ((eqN (y13_1 x0) (y13_1 x0)) && ((eqN (y13_2 x0) (y13_2 x0)) && (y13_20 x0)))
noncomputable def y13_22 (x0 : List Row) : Bool := (((k72 (g79 (y13_0 x0).1).1) && true) && (((y13_3 x0) && ((y13_20 x0) && (y13_21 x0))) && true))
noncomputable def T13 (x0 : List Row) : Pt (GBus × GBus) := (.ok true (.ok true (.ok ((k72 (Gl1Cur.mk x0 0 0)) && true) (.ok ((y13_8 x0) && (((y13_8 x0) && ((y13_17 x0) && (y13_16 x0))) && (y13_16 x0))) (.ok true (.br (y13_4 x0).2.2.2 (.ok ((y13_7 x0) && ((y13_7 x0) && ((y13_10 x0) && ((y13_11 x0) && (y13_14 x0))))) (.ok ((y13_6 x0) && ((y13_3 x0) && ((y13_5 x0) && true))) (.ok ((y13_3 x0) && ((y13_5 x0) && true)) (.leaf ((g72 (Gl1Cur.mk x0 0 0)).2, (y13_4 x0).1))))) (.ok ((y13_22 x0) && ((y13_22 x0) && ((y13_10 x0) && (((same (α := Nat) (y13_18 x0) (y13_18 x0)) && ((same (α := Nat) (y13_19 x0) (y13_19 x0)) && true)) && ((y13_12 x0) && ((y13_13 x0) && ((sameR (g72 (g79 (y13_0 x0).1).1).2.Bytes (g72 (g79 (y13_0 x0).1).1).2.Bytes) && ((sameR (g72 (g79 (y13_0 x0).1).1).2.Log (g72 (g79 (y13_0 x0).1).1).2.Log) && true)))))))) (.ok ((y13_21 x0) && ((y13_3 x0) && ((y13_20 x0) && true))) (.ok ((y13_3 x0) && ((y13_20 x0) && true)) (.leaf ((g72 (Gl1Cur.mk x0 0 0)).2, (g72 (g79 (y13_0 x0).1).1).2)))))))))))
noncomputable def g13 (x0 : List Row) : GBus × GBus := hid (T13 x0).val
noncomputable def k13 (x0 : List Row) : Bool := hid (T13 x0).okv
noncomputable def n13 (x0 : List Row) (r : GBus × GBus) : SV × List Blk := ((.tup [(.agg [.imm true 1 r.1.Bytes, .imm true 5 r.1.Log]), (.agg [.imm true 1 r.2.Bytes, .imm true 5 r.2.Log])]), [])
theorem e13 (x0 : List Row) : fnZ Q12 [(16, [.imm 1, .imm 5]), (28, [.imm 1, .imm 5]), (29, [.imm 1, .imm 5]), (30, [.imm 1, .imm 5])] [] true [] 2097152 F13 [(.one (.imm true 1 x0))] = some ((T13 x0).map (n13 x0)) := by kernel_rfl
noncomputable def q13 : List SV → List Blk → Option ((SV × List Blk) × Bool)
  | [(.one (.imm true 1 c0))], [] => some (n13 c0 (g13 c0), k13 c0)
  | _, _ => none
theorem t13 (args : List SV) (hp : List Blk) (r : SV × List Blk) (h : q13 args hp = some (r, true)) : frzR R 100013 args hp = some r := by
  unfold q13 at h
  split at h
  · rename_i c0
    obtain ⟨hr, hk⟩ := Prod.mk.inj (Option.some.inj h)
    exact fnZ_c (f := 13) Q12_ok (loops_of (l := []) rfl trivial) (e13 c0) hr hk (fun r h => R_fn at13 2097152 h)
  · simp at h
noncomputable def Q13 : Qt := qcons 100013 q13 Q12
theorem Q13_ok : QOk (frzR R) Q13 := qcons_ok t13 Q12_ok
/-! slices.Equal[[]int,int] -/
structure V80_0 where
  mk ::
  (s0 : List Row)
  (s1 : List Row)
  (s12 : Int)
  (s13 : Int)
noncomputable def N80_0 (v : V80_0) : Pt (Option V80_0) := (.ok true (.br (ltI v.s13 v.s12) (.ok true (.ok ((inRow [.int .i64] v.s0 v.s13) && ((inRow [.int .i64] v.s1 v.s13) && true)) (.br (neI (intAt v.s0 (Int.toNat v.s13) 0) (intAt v.s1 (Int.toNat v.s13) 0)) (.ok true (.leaf none)) (.ok true (.ok true (.leaf (some { v with s13 := (addI v.s13 1) }))))))) (.leaf none)))
noncomputable def s80_0 (v : V80_0) : St := ⟨[(0, (.one (.imm true 1 v.s0))), (1, (.one (.imm true 1 v.s1))), (12, (.one (.lit (.int .i64 v.s12)))), (13, (.one (.lit (.int .i64 v.s13))))], []⟩
def u80_0 : St → Option (V80_0 × Bool)
  | ⟨[(0, (.one (.imm true 1 c0))), (1, (.one (.imm true 1 c1))), (12, (.one (.lit (.int .i64 c2)))), (13, (.one (.lit (.int .i64 c3))))], []⟩ => some ((V80_0.mk c0 c1 c2 c3), true)
  | _ => none
theorem hN80_0 (v : V80_0) : ((evp Q13 [(18, [.int .i64]), (19, [.int .i64]), (22, [.int .i64]), (23, [.int .i64])] [] true [] 0 2097152 F80b0 (s80_0 v)).bind (stpT true false 0 [0, 1, 12, 13])) = some ((N80_0 v).map (Option.map s80_0)) := by kernel_rfl
theorem hu80_0 (σ : St) (v : V80_0) (h : u80_0 σ = some (v, true)) : σ = s80_0 v := by
  unfold u80_0 at h
  split at h
  · obtain ⟨hr, hk⟩ := Prod.mk.inj (Option.some.inj h)
    rw [← hr]
    rfl
  · simp at h
theorem lt80_0 : TellsP (lqP true false 0 [0, 1, 12, 13] (evp Q13 [(18, [.int .i64]), (19, [.int .i64]), (22, [.int .i64]), (23, [.int .i64])] [] true [] 0 2097152 F80b0) u80_0 s80_0 N80_0 2097152) (evc R 0 2097152 (.loop [0, 1, 12, 13] F80b0)) := lqP_tells (evp_tells Q13_ok (loops_of (l := []) (by kernel_rfl) trivial)) hu80_0 hN80_0
noncomputable def lq80_0 : Lp := (14, lqP true false 0 [0, 1, 12, 13] (evp Q13 [(18, [.int .i64]), (19, [.int .i64]), (22, [.int .i64]), (23, [.int .i64])] [] true [] 0 2097152 F80b0) u80_0 s80_0 N80_0 2097152) :: []
noncomputable def w80_0 (v : V80_0) : V80_0 := (hid (loopV N80_0 2097152 v)).getD v
noncomputable def i80_0 (v : V80_0) : Bool := (hid (loopV N80_0 2097152 v)).isSome
noncomputable def y80_0 (x0 : List Row) (x1 : List Row) : V80_0 := (w80_0 (V80_0.mk x0 x1 (lenI x0) 0))
noncomputable def T80 (x0 : List Row) (x1 : List Row) : Pt (Bool) := (.ok true (.ok true (.br (neI (lenI x0) (lenI x1)) (.ok true (.ok true (.ok true (.leaf false)))) (.ok true (.ok true (.ok true (.ok (i80_0 (V80_0.mk x0 x1 (lenI x0) 0)) (.br (ltI (y80_0 x0 x1).s13 (y80_0 x0 x1).s12) (.ok true (.ok true (.leaf false))) (.ok true (.ok true (.ok true (.leaf true))))))))))))
noncomputable def g80 (x0 : List Row) (x1 : List Row) : Bool := hid (T80 x0 x1).val
noncomputable def k80 (x0 : List Row) (x1 : List Row) : Bool := hid (T80 x0 x1).okv
noncomputable def n80 (x0 : List Row) (x1 : List Row) (r : Bool) : SV × List Blk := ((.one (.lit (.bool r))), [])
theorem e80 (x0 : List Row) (x1 : List Row) : fnZ Q13 [(18, [.int .i64]), (19, [.int .i64]), (22, [.int .i64]), (23, [.int .i64])] [] true lq80_0 2097152 F80 [(.one (.imm true 1 x0)), (.one (.imm true 1 x1))] = some ((T80 x0 x1).map (n80 x0 x1)) := by kernel_rfl
noncomputable def q80 : List SV → List Blk → Option ((SV × List Blk) × Bool)
  | [(.one (.imm true 1 c0)), (.one (.imm true 1 c1))], [] => some (n80 c0 c1 (g80 c0 c1), k80 c0 c1)
  | _, _ => none
theorem hL80 : Loops (fun live x => TellsP (lpAt lq80_0 (tagC x)) (evc R 0 2097152 (.loop live x))) F80.body := (loops_of (l := [([0, 1, 12, 13], F80b0)]) (by kernel_rfl) ⟨fun σ σr t h ho hl => lt80_0 σ σr t h ho hl, trivial⟩)
theorem t80 (args : List SV) (hp : List Blk) (r : SV × List Blk) (h : q80 args hp = some (r, true)) : frzR R 100080 args hp = some r := by
  unfold q80 at h
  split at h
  · rename_i c0 c1
    obtain ⟨hr, hk⟩ := Prod.mk.inj (Option.some.inj h)
    exact fnZ_c (f := 80) Q13_ok hL80 (e80 c0 c1) hr hk (fun r h => R_fn at80 2097152 h)
  · simp at h
noncomputable def Q80 : Qt := qcons 100080 q80 Q13
theorem Q80_ok : QOk (frzR R) Q80 := qcons_ok t80 Q13_ok
/-! impl.SameMemory -/
noncomputable def T14 (x0 : GBus) (x1 : GBus) : Pt (Bool × Bool) := (.ok true (.ok ((k21 x0) && ((((k21 x1) && true) || (!(g21 x0))) && true)) (.br (bif (!(g21 x0)) then true else (!(g21 x1))) (.ok true (.ok true (.ok true (.leaf (false, false))))) (.ok ((k80 x0.Bytes x1.Bytes) && true) (.ok true (.ok true (.leaf ((g80 x0.Bytes x1.Bytes), true))))))))
noncomputable def g14 (x0 : GBus) (x1 : GBus) : Bool × Bool := hid (T14 x0 x1).val
noncomputable def k14 (x0 : GBus) (x1 : GBus) : Bool := hid (T14 x0 x1).okv
noncomputable def n14 (x0 : GBus) (x1 : GBus) (r : Bool × Bool) : SV × List Blk := ((.tup [(.one (.lit (.bool r.1))), (.one (.lit (.bool r.2)))]), [])
theorem e14 (x0 : GBus) (x1 : GBus) : fnZ Q80 [(6, [.imm 1, .imm 5]), (10, [.imm 1, .imm 5]), (15, [.imm 1]), (17, [.imm 1])] [] true [] 2097152 F14 [(.agg [.imm true 1 x0.Bytes, .imm true 5 x0.Log]), (.agg [.imm true 1 x1.Bytes, .imm true 5 x1.Log])] = some ((T14 x0 x1).map (n14 x0 x1)) := by kernel_rfl
noncomputable def q14 : List SV → List Blk → Option ((SV × List Blk) × Bool)
  | [(.agg [.imm true 1 c0, .imm true 5 c1]), (.agg [.imm true 1 c2, .imm true 5 c3])], [] => some (n14 (GBus.mk c0 c1) (GBus.mk c2 c3) (g14 (GBus.mk c0 c1) (GBus.mk c2 c3)), k14 (GBus.mk c0 c1) (GBus.mk c2 c3))
  | _, _ => none
theorem t14 (args : List SV) (hp : List Blk) (r : SV × List Blk) (h : q14 args hp = some (r, true)) : frzR R 100014 args hp = some r := by
  unfold q14 at h
  split at h
  · rename_i c0 c1 c2 c3
    obtain ⟨hr, hk⟩ := Prod.mk.inj (Option.some.inj h)
    exact fnZ_c (f := 14) Q80_ok (loops_of (l := []) rfl trivial) (e14 (GBus.mk c0 c1) (GBus.mk c2 c3)) hr hk (fun r h => R_fn at14 2097152 h)
  · simp at h
noncomputable def Q14 : Qt := qcons 100014 q14 Q80
theorem Q14_ok : QOk (frzR R) Q14 := qcons_ok t14 Q80_ok
/-! spec.l1Same -/
structure V81_0 where
  mk ::
  (s0 : List Row)
  (s1 : List Row)
  (s12 : Int)
  (s13 : Int)
noncomputable def N81_0 (v : V81_0) : Pt (Option V81_0) := (.ok true (.br (ltI v.s13 v.s12) (.ok true (.ok ((inRow [.int .i64] v.s0 v.s13) && ((inRow [.int .i64] v.s1 v.s13) && true)) (.br (neI (intAt v.s0 (Int.toNat v.s13) 0) (intAt v.s1 (Int.toNat v.s13) 0)) (.ok true (.leaf none)) (.ok true (.ok true (.leaf (some { v with s13 := (addI v.s13 1) }))))))) (.leaf none)))
noncomputable def s81_0 (v : V81_0) : St := ⟨[(0, (.one (.imm true 1 v.s0))), (1, (.one (.imm true 1 v.s1))), (12, (.one (.lit (.int .i64 v.s12)))), (13, (.one (.lit (.int .i64 v.s13))))], []⟩
def u81_0 : St → Option (V81_0 × Bool)
  | ⟨[(0, (.one (.imm true 1 c0))), (1, (.one (.imm true 1 c1))), (12, (.one (.lit (.int .i64 c2)))), (13, (.one (.lit (.int .i64 c3))))], []⟩ => some ((V81_0.mk c0 c1 c2 c3), true)
  | _ => none
theorem hN81_0 (v : V81_0) : ((evp Q14 [(18, [.int .i64]), (19, [.int .i64]), (22, [.int .i64]), (23, [.int .i64])] [] true [] 0 2097152 F81b0 (s81_0 v)).bind (stpT true false 0 [0, 1, 12, 13])) = some ((N81_0 v).map (Option.map s81_0)) := by kernel_rfl
theorem hu81_0 (σ : St) (v : V81_0) (h : u81_0 σ = some (v, true)) : σ = s81_0 v := by
  unfold u81_0 at h
  split at h
  · obtain ⟨hr, hk⟩ := Prod.mk.inj (Option.some.inj h)
    rw [← hr]
    rfl
  · simp at h
theorem lt81_0 : TellsP (lqP true false 0 [0, 1, 12, 13] (evp Q14 [(18, [.int .i64]), (19, [.int .i64]), (22, [.int .i64]), (23, [.int .i64])] [] true [] 0 2097152 F81b0) u81_0 s81_0 N81_0 2097152) (evc R 0 2097152 (.loop [0, 1, 12, 13] F81b0)) := lqP_tells (evp_tells Q14_ok (loops_of (l := []) (by kernel_rfl) trivial)) hu81_0 hN81_0
noncomputable def lq81_0 : Lp := (14, lqP true false 0 [0, 1, 12, 13] (evp Q14 [(18, [.int .i64]), (19, [.int .i64]), (22, [.int .i64]), (23, [.int .i64])] [] true [] 0 2097152 F81b0) u81_0 s81_0 N81_0 2097152) :: []
noncomputable def w81_0 (v : V81_0) : V81_0 := (hid (loopV N81_0 2097152 v)).getD v
noncomputable def i81_0 (v : V81_0) : Bool := (hid (loopV N81_0 2097152 v)).isSome
noncomputable def y81_0 (x0 : List Row) (x1 : List Row) : V81_0 := (w81_0 (V81_0.mk x0 x1 (lenI x0) 0))
noncomputable def T81 (x0 : List Row) (x1 : List Row) : Pt (Bool) := (.ok true (.ok true (.br (neI (lenI x0) (lenI x1)) (.ok true (.ok true (.ok true (.leaf false)))) (.ok true (.ok true (.ok true (.ok (i81_0 (V81_0.mk x0 x1 (lenI x0) 0)) (.br (ltI (y81_0 x0 x1).s13 (y81_0 x0 x1).s12) (.ok true (.ok true (.leaf false))) (.ok true (.ok true (.ok true (.leaf true))))))))))))
noncomputable def g81 (x0 : List Row) (x1 : List Row) : Bool := hid (T81 x0 x1).val
noncomputable def k81 (x0 : List Row) (x1 : List Row) : Bool := hid (T81 x0 x1).okv
noncomputable def n81 (x0 : List Row) (x1 : List Row) (r : Bool) : SV × List Blk := ((.one (.lit (.bool r))), [])
theorem e81 (x0 : List Row) (x1 : List Row) : fnZ Q14 [(18, [.int .i64]), (19, [.int .i64]), (22, [.int .i64]), (23, [.int .i64])] [] true lq81_0 2097152 F81 [(.one (.imm true 1 x0)), (.one (.imm true 1 x1))] = some ((T81 x0 x1).map (n81 x0 x1)) := by kernel_rfl
noncomputable def q81 : List SV → List Blk → Option ((SV × List Blk) × Bool)
  | [(.one (.imm true 1 c0)), (.one (.imm true 1 c1))], [] => some (n81 c0 c1 (g81 c0 c1), k81 c0 c1)
  | _, _ => none
theorem hL81 : Loops (fun live x => TellsP (lpAt lq81_0 (tagC x)) (evc R 0 2097152 (.loop live x))) F81.body := (loops_of (l := [([0, 1, 12, 13], F81b0)]) (by kernel_rfl) ⟨fun σ σr t h ho hl => lt81_0 σ σr t h ho hl, trivial⟩)
theorem t81 (args : List SV) (hp : List Blk) (r : SV × List Blk) (h : q81 args hp = some (r, true)) : frzR R 100081 args hp = some r := by
  unfold q81 at h
  split at h
  · rename_i c0 c1
    obtain ⟨hr, hk⟩ := Prod.mk.inj (Option.some.inj h)
    exact fnZ_c (f := 81) Q14_ok hL81 (e81 c0 c1) hr hk (fun r h => R_fn at81 2097152 h)
  · simp at h
noncomputable def Q81 : Qt := qcons 100081 q81 Q14
theorem Q81_ok : QOk (frzR R) Q81 := qcons_ok t81 Q14_ok
/-! spec.SameMemory -/
noncomputable def T15 (x0 : GBus) (x1 : GBus) : Pt (Bool × Bool) := (.ok true (.ok ((k25v1 x0) && ((((k25v1 x1) && true) || (!(g25v1 x0))) && true)) (.br (bif (!(g25v1 x0)) then true else (!(g25v1 x1))) (.ok true (.ok true (.ok true (.leaf (false, false))))) (.ok ((k81 x0.Bytes x1.Bytes) && true) (.ok true (.ok true (.leaf ((g81 x0.Bytes x1.Bytes), true))))))))
noncomputable def g15 (x0 : GBus) (x1 : GBus) : Bool × Bool := hid (T15 x0 x1).val
noncomputable def k15 (x0 : GBus) (x1 : GBus) : Bool := hid (T15 x0 x1).okv
noncomputable def n15 (x0 : GBus) (x1 : GBus) (r : Bool × Bool) : SV × List Blk := ((.tup [(.one (.lit (.bool r.1))), (.one (.lit (.bool r.2)))]), [])
theorem e15 (x0 : GBus) (x1 : GBus) : fnZ Q81 [(6, [.imm 1, .imm 5]), (10, [.imm 1, .imm 5]), (15, [.imm 1]), (17, [.imm 1])] [] true [] 2097152 F15 [(.agg [.imm true 1 x0.Bytes, .imm true 5 x0.Log]), (.agg [.imm true 1 x1.Bytes, .imm true 5 x1.Log])] = some ((T15 x0 x1).map (n15 x0 x1)) := by kernel_rfl
noncomputable def q15 : List SV → List Blk → Option ((SV × List Blk) × Bool)
  | [(.agg [.imm true 1 c0, .imm true 5 c1]), (.agg [.imm true 1 c2, .imm true 5 c3])], [] => some (n15 (GBus.mk c0 c1) (GBus.mk c2 c3) (g15 (GBus.mk c0 c1) (GBus.mk c2 c3)), k15 (GBus.mk c0 c1) (GBus.mk c2 c3))
  | _, _ => none
theorem t15 (args : List SV) (hp : List Blk) (r : SV × List Blk) (h : q15 args hp = some (r, true)) : frzR R 100015 args hp = some r := by
  unfold q15 at h
  split at h
  · rename_i c0 c1 c2 c3
    obtain ⟨hr, hk⟩ := Prod.mk.inj (Option.some.inj h)
    exact fnZ_c (f := 15) Q81_ok (loops_of (l := []) rfl trivial) (e15 (GBus.mk c0 c1) (GBus.mk c2 c3)) hr hk (fun r h => R_fn at15 2097152 h)
  · simp at h
noncomputable def Q15 : Qt := qcons 100015 q15 Q81
theorem Q15_ok : QOk (frzR R) Q15 := qcons_ok t15 Q81_ok
/-! (*spec.l1Cur).one -/
noncomputable def T83 (x1 : Int) (x0 : Gl1Cur) : Pt (Gl1Cur × Bool) := (.ok true (.ok ((k73 x1 x0) && true) (.ok true (.leaf ((g73 x1 x0).1, (eqI (g73 x1 x0).2 0))))))
noncomputable def g83 (x1 : Int) (x0 : Gl1Cur) : Gl1Cur × Bool := hid (T83 x1 x0).val
noncomputable def k83 (x1 : Int) (x0 : Gl1Cur) : Bool := hid (T83 x1 x0).okv
noncomputable def n83 (x1 : Int) (x0 : Gl1Cur) (r : Gl1Cur × Bool) : SV × List Blk := ((.one (.lit (.bool r.2))), [.box [.imm true 1 r.1.fcode, .lit (.int .i64 r.1.fat), .lit (.int .u64 r.1.fseed)]])
theorem e83 (x1 : Int) (x0 : Gl1Cur) : fnP Q15 [] [] true [] 2097152 F83 [(.one (.ptr 0 0 0)), (.one (.lit (.int .i64 x1)))] [.box [.imm true 1 x0.fcode, .lit (.int .i64 x0.fat), .lit (.int .u64 x0.fseed)]] = some ((T83 x1 x0).map (n83 x1 x0)) := by kernel_rfl
noncomputable def q83 : List SV → List Blk → Option ((SV × List Blk) × Bool)
  | [(.one (.ptr 0 0 0)), (.one (.lit (.int .i64 c0)))], [.box [.imm true 1 c1, .lit (.int .i64 c2), .lit (.int .u64 c3)]] => some (n83 c0 (Gl1Cur.mk c1 c2 c3) (g83 c0 (Gl1Cur.mk c1 c2 c3)), k83 c0 (Gl1Cur.mk c1 c2 c3))
  | _, _ => none
theorem t83 (args : List SV) (hp : List Blk) (r : SV × List Blk) (h : q83 args hp = some (r, true)) : frzR R 83 args hp = some r := by
  unfold q83 at h
  split at h
  · rename_i c0 c1 c2 c3
    obtain ⟨hr, hk⟩ := Prod.mk.inj (Option.some.inj h)
    exact (frz_lo (by decide)).trans (R_fn at83 2097152 (fnP_c Q15_ok (loops_of (l := []) rfl trivial) (e83 c0 (Gl1Cur.mk c1 c2 c3)) hr hk))
  · simp at h
noncomputable def Q83 : Qt := qcons 83 q83 Q15
theorem Q83_ok : QOk (frzR R) Q83 := qcons_ok t83 Q15_ok
/-! spec.DrawNewBus -/
noncomputable def y16_0 (x0 : List Row) : Gl1Cur × Int := (g73 20 (Gl1Cur.mk x0 0 0))
noncomputable def y16_1 (x0 : List Row) : Gl1Cur × List Row := (g82 (y16_0 x0).2 (y16_0 x0).1)
noncomputable def y16_2 (x0 : List Row) : Gl1Cur × Int := (g73 2 (g83 20 (y16_1 x0).1).1)
noncomputable def y16_3 (x0 : List Row) : List Row := (List.replicate (Int.toNat (addI 384 (y16_2 x0).2)) (rowI 0))
noncomputable def y16_4 (x0 : List Row) : Nat := (List.length (g82 (g73 66 (y16_2 x0).1).2 (g73 66 (y16_2 x0).1).1).2)
noncomputable def y16_5 (x0 : List Row) : List Row := (List.take (Int.toNat (addI 384 (y16_2 x0).2)) (y16_3 x0))
noncomputable def y16_6 (x0 : List Row) : List Row := (List.take (y16_4 x0) (g82 (g73 66 (y16_2 x0).1).2 (g73 66 (y16_2 x0).1).1).2)
noncomputable def y16_7 (x0 : List Row) : Gl1Cur × Int := (g73 66 (g83 20 (y16_1 x0).1).1)
noncomputable def y16_8 (x0 : List Row) : Nat := (List.length (g82 (y16_7 x0).2 (y16_7 x0).1).2)
noncomputable def y16_9 (x0 : List Row) : List Row := (List.take (List.length (y16_1 x0).2) (y16_1 x0).2)
noncomputable def y16_10 (x0 : List Row) : List Row := (List.take (y16_8 x0) (g82 (y16_7 x0).2 (y16_7 x0).1).2)
noncomputable def T16 (x0 : List Row) : Pt (List Row × List Row) := (.ok true (.ok true (.ok ((k73 20 (Gl1Cur.mk x0 0 0)) && ((k82 (y16_0 x0).2 (y16_0 x0).1) && true)) (.ok ((k83 20 (y16_1 x0).1) && true) (.br (g83 20 (y16_1 x0).1).2 (.ok ((k73 2 (g83 20 (y16_1 x0).1).1) && (((leI 0 (addI 384 (y16_2 x0).2)) && ((leI (addI 384 (y16_2 x0).2) (addI 384 (y16_2 x0).2)) && ((leI (mulP (addI 384 (y16_2 x0).2) 8) 140737488355328) && (leI (addI 384 (y16_2 x0).2) 140737488355328)))) && true)) (.ok ((k73 66 (y16_2 x0).1) && ((k82 (g73 66 (y16_2 x0).1).2 (g73 66 (y16_2 x0).1).1) && true)) (.ok ((((leN (0 + (Int.toNat (addI 384 (y16_2 x0).2))) (List.length (y16_3 x0))) && ((leN (0 + (y16_4 x0)) (y16_4 x0)) && true)) && ((eqN (Int.toNat (addI 384 (y16_2 x0).2)) (Int.toNat (addI 384 (y16_2 x0).2))) && ((eqN (y16_4 x0) (y16_4 x0)) && true))) && (((eqN (Int.toNat (addI 384 (y16_2 x0).2)) (List.length (y16_5 x0))) && ((eqN (y16_4 x0) (List.length (y16_6 x0))) && true)) && true)) (.ok ((eqN (List.length (y16_5 x0)) (List.length (y16_5 x0))) && ((eqN (List.length (y16_6 x0)) (List.length (y16_6 x0))) && true)) (.leaf ((y16_5 x0), (y16_6 x0))))))) (.ok ((k73 66 (g83 20 (y16_1 x0).1).1) && ((k82 (y16_7 x0).2 (y16_7 x0).1) && true)) (.ok ((((leN (0 + (List.length (y16_1 x0).2)) (List.length (y16_1 x0).2)) && ((leN (0 + (y16_8 x0)) (y16_8 x0)) && true)) && ((eqN (List.length (y16_1 x0).2) (List.length (y16_1 x0).2)) && ((eqN (y16_8 x0) (y16_8 x0)) && true))) && (((eqN (List.length (y16_1 x0).2) (List.length (y16_9 x0))) && ((eqN (y16_8 x0) (List.length (y16_10 x0))) && true)) && true)) (.ok ((eqN (List.length (y16_9 x0)) (List.length (y16_9 x0))) && ((eqN (List.length (y16_10 x0)) (List.length (y16_10 x0))) && true)) (.leaf ((y16_9 x0), (y16_10 x0)))))))))))
noncomputable def g16 (x0 : List Row) : List Row × List Row := hid (T16 x0).val
noncomputable def k16 (x0 : List Row) : Bool := hid (T16 x0).okv
noncomputable def n16 (x0 : List Row) (r : List Row × List Row) : SV × List Blk := ((.tup [(.one (.imm true 1 r.1)), (.one (.imm true 1 r.2))]), [])
theorem e16 (x0 : List Row) : fnZ Q83 [(1000000, [])] [] true [] 2097152 F16 [(.one (.imm true 1 x0))] = some ((T16 x0).map (n16 x0)) := by kernel_rfl
noncomputable def q16 : List SV → List Blk → Option ((SV × List Blk) × Bool)
  | [(.one (.imm true 1 c0))], [] => some (n16 c0 (g16 c0), k16 c0)
  | _, _ => none
theorem t16 (args : List SV) (hp : List Blk) (r : SV × List Blk) (h : q16 args hp = some (r, true)) : frzR R 100016 args hp = some r := by
  unfold q16 at h
  split at h
  · rename_i c0
    obtain ⟨hr, hk⟩ := Prod.mk.inj (Option.some.inj h)
    exact fnZ_c (f := 16) Q83_ok (loops_of (l := []) rfl trivial) (e16 c0) hr hk (fun r h => R_fn at16 2097152 h)
  · simp at h
noncomputable def Q16 : Qt := qcons 100016 q16 Q83
theorem Q16_ok : QOk (frzR R) Q16 := qcons_ok t16 Q83_ok
/-! impl.areBytes$1 -/
noncomputable def T148 (x0 : Int) : Pt (Bool) := (.ok true (.ok ((k74 x0 0 255) && true) (.ok true (.leaf (!(g74 x0 0 255))))))
noncomputable def g148 (x0 : Int) : Bool := hid (T148 x0).val
noncomputable def k148 (x0 : Int) : Bool := hid (T148 x0).okv
noncomputable def n148 (x0 : Int) (r : Bool) : SV × List Blk := ((.one (.lit (.bool r))), [])
theorem e148 (x0 : Int) : fnP Q16 [] [] true [] 2097152 F148 [(.one (.lit (.int .i64 x0)))] [] = some ((T148 x0).map (n148 x0)) := by kernel_rfl
noncomputable def q148 : List SV → List Blk → Option ((SV × List Blk) × Bool)
  | [(.one (.lit (.int .i64 c0)))], [] => some (n148 c0 (g148 c0), k148 c0)
  | _, _ => none
theorem t148 (args : List SV) (hp : List Blk) (r : SV × List Blk) (h : q148 args hp = some (r, true)) : frzR R 148 args hp = some r := by
  unfold q148 at h
  split at h
  · rename_i c0
    obtain ⟨hr, hk⟩ := Prod.mk.inj (Option.some.inj h)
    exact (frz_lo (by decide)).trans (R_fn at148 2097152 (fnP_c Q16_ok (loops_of (l := []) rfl trivial) (e148 c0) hr hk))
  · simp at h
noncomputable def Q148 : Qt := qcons 148 q148 Q16
theorem Q148_ok : QOk (frzR R) Q148 := qcons_ok t148 Q16_ok
/-! slices.IndexFunc[[]int,int] -/
structure V149v1_0 where
  mk ::
  (s0 : List Row)
  (s7 : Int)
  (s8 : Int)
noncomputable def N149v1_0 (v : V149v1_0) : Pt (Option V149v1_0) := (.ok true (.br (ltI v.s8 v.s7) (.ok true (.ok ((inRow [.int .i64] v.s0 v.s8) && ((k148 (intAt v.s0 (Int.toNat v.s8) 0)) && true)) (.br (g148 (intAt v.s0 (Int.toNat v.s8) 0)) (.ok true (.leaf none)) (.ok true (.ok true (.leaf (some { v with s8 := (addI v.s8 1) }))))))) (.leaf none)))
noncomputable def s149v1_0 (v : V149v1_0) : St := ⟨[(0, (.one (.imm true 1 v.s0))), (1, (.one (.clo 148 []))), (7, (.one (.lit (.int .i64 v.s7)))), (8, (.one (.lit (.int .i64 v.s8))))], []⟩
def u149v1_0 : St → Option (V149v1_0 × Bool)
  | ⟨[(0, (.one (.imm true 1 c0))), (1, (.one (.clo 148 []))), (7, (.one (.lit (.int .i64 c1)))), (8, (.one (.lit (.int .i64 c2))))], []⟩ => some ((V149v1_0.mk c0 c1 c2), true)
  | _ => none
theorem hN149v1_0 (v : V149v1_0) : ((evp Q148 [(14, [.int .i64]), (15, [.int .i64])] [] true [] 0 2097152 F149b0 (s149v1_0 v)).bind (stpT true false 0 [0, 1, 7, 8])) = some ((N149v1_0 v).map (Option.map s149v1_0)) := by kernel_rfl
theorem hu149v1_0 (σ : St) (v : V149v1_0) (h : u149v1_0 σ = some (v, true)) : σ = s149v1_0 v := by
  unfold u149v1_0 at h
  split at h
  · obtain ⟨hr, hk⟩ := Prod.mk.inj (Option.some.inj h)
    rw [← hr]
    rfl
  · simp at h
theorem lt149v1_0 : TellsP (lqP true false 0 [0, 1, 7, 8] (evp Q148 [(14, [.int .i64]), (15, [.int .i64])] [] true [] 0 2097152 F149b0) u149v1_0 s149v1_0 N149v1_0 2097152) (evc R 0 2097152 (.loop [0, 1, 7, 8] F149b0)) := lqP_tells (evp_tells Q148_ok (loops_of (l := []) (by kernel_rfl) trivial)) hu149v1_0 hN149v1_0
noncomputable def lq149v1_0 : Lp := (9, lqP true false 0 [0, 1, 7, 8] (evp Q148 [(14, [.int .i64]), (15, [.int .i64])] [] true [] 0 2097152 F149b0) u149v1_0 s149v1_0 N149v1_0 2097152) :: []
noncomputable def w149v1_0 (v : V149v1_0) : V149v1_0 := (hid (loopV N149v1_0 2097152 v)).getD v
noncomputable def i149v1_0 (v : V149v1_0) : Bool := (hid (loopV N149v1_0 2097152 v)).isSome
noncomputable def y149v1_0 (x0 : List Row) : V149v1_0 := (w149v1_0 (V149v1_0.mk x0 (lenI x0) 0))
noncomputable def T149v1 (x0 : List Row) : Pt (Int) := (.ok true (.ok true (.ok true (.ok true (.ok (i149v1_0 (V149v1_0.mk x0 (lenI x0) 0)) (.br (ltI (y149v1_0 x0).s8 (y149v1_0 x0).s7) (.ok true (.leaf (y149v1_0 x0).s8)) (.ok true (.ok true (.leaf (-1))))))))))
noncomputable def g149v1 (x0 : List Row) : Int := hid (T149v1 x0).val
noncomputable def k149v1 (x0 : List Row) : Bool := hid (T149v1 x0).okv
noncomputable def n149v1 (x0 : List Row) (r : Int) : SV × List Blk := ((.one (.lit (.int .i64 r))), [])
theorem e149v1 (x0 : List Row) : fnP Q148 [(14, [.int .i64]), (15, [.int .i64])] [] true lq149v1_0 2097152 F149 [(.one (.imm true 1 x0)), (.one (.clo 148 []))] [] = some ((T149v1 x0).map (n149v1 x0)) := by kernel_rfl
noncomputable def q149v1 : List SV → List Blk → Option ((SV × List Blk) × Bool)
  | [(.one (.imm true 1 c0)), (.one (.clo 148 []))], [] => some (n149v1 c0 (g149v1 c0), k149v1 c0)
  | _, _ => none
theorem hL149v1 : Loops (fun live x => TellsP (lpAt lq149v1_0 (tagC x)) (evc R 0 2097152 (.loop live x))) F149.body := (loops_of (l := [([0, 1, 7, 8], F149b0)]) (by kernel_rfl) ⟨fun σ σr t h ho hl => lt149v1_0 σ σr t h ho hl, trivial⟩)
theorem t149v1 (args : List SV) (hp : List Blk) (r : SV × List Blk) (h : q149v1 args hp = some (r, true)) : frzR R 149 args hp = some r := by
  unfold q149v1 at h
  split at h
  · rename_i c0
    obtain ⟨hr, hk⟩ := Prod.mk.inj (Option.some.inj h)
    exact (frz_lo (by decide)).trans (R_fn at149 2097152 (fnP_c Q148_ok hL149v1 (e149v1 c0) hr hk))
  · simp at h
noncomputable def Q149v1 : Qt := qcons 149 q149v1 Q148
theorem Q149v1_ok : QOk (frzR R) Q149v1 := qcons_ok t149v1 Q148_ok
/-! slices.ContainsFunc[[]int,int] -/
noncomputable def T86v1 (x0 : List Row) : Pt (Bool) := (.ok true (.ok ((k149v1 x0) && true) (.ok true (.leaf (geI (g149v1 x0) 0)))))
noncomputable def g86v1 (x0 : List Row) : Bool := hid (T86v1 x0).val
noncomputable def k86v1 (x0 : List Row) : Bool := hid (T86v1 x0).okv
noncomputable def n86v1 (x0 : List Row) (r : Bool) : SV × List Blk := ((.one (.lit (.bool r))), [])
theorem e86v1 (x0 : List Row) : fnP Q149v1 [] [] true [] 2097152 F86 [(.one (.imm true 1 x0)), (.one (.clo 148 []))] [] = some ((T86v1 x0).map (n86v1 x0)) := by kernel_rfl
noncomputable def q86v1 : List SV → List Blk → Option ((SV × List Blk) × Bool)
  | [(.one (.imm true 1 c0)), (.one (.clo 148 []))], [] => some (n86v1 c0 (g86v1 c0), k86v1 c0)
  | _, _ => none
theorem t86v1 (args : List SV) (hp : List Blk) (r : SV × List Blk) (h : q86v1 args hp = some (r, true)) : frzR R 86 args hp = some r := by
  unfold q86v1 at h
  split at h
  · rename_i c0
    obtain ⟨hr, hk⟩ := Prod.mk.inj (Option.some.inj h)
    exact (frz_lo (by decide)).trans (R_fn at86 2097152 (fnP_c Q149v1_ok (loops_of (l := []) rfl trivial) (e86v1 c0) hr hk))
  · simp at h
noncomputable def Q86v1 : Qt := qcons 86 q86v1 Q149v1
theorem Q86v1_ok : QOk (frzR R) Q86v1 := qcons_ok t86v1 Q149v1_ok
/-! impl.areBytes -/
noncomputable def T84 (x0 : List Row) (x1 : Int) : Pt (Bool) := (.ok true (.ok ((((k86v1 x0) && true) || (!(leI (lenI x0) x1))) && true) (.ok true (.ok true (.leaf (bif (leI (lenI x0) x1) then (!(g86v1 x0)) else false))))))
noncomputable def g84 (x0 : List Row) (x1 : Int) : Bool := hid (T84 x0 x1).val
noncomputable def k84 (x0 : List Row) (x1 : Int) : Bool := hid (T84 x0 x1).okv
noncomputable def n84 (x0 : List Row) (x1 : Int) (r : Bool) : SV × List Blk := ((.one (.lit (.bool r))), [])
theorem e84 (x0 : List Row) (x1 : Int) : fnZ Q86v1 [] [] true [] 2097152 F84 [(.one (.imm true 1 x0)), (.one (.lit (.int .i64 x1)))] = some ((T84 x0 x1).map (n84 x0 x1)) := by kernel_rfl
noncomputable def q84 : List SV → List Blk → Option ((SV × List Blk) × Bool)
  | [(.one (.imm true 1 c0)), (.one (.lit (.int .i64 c1)))], [] => some (n84 c0 c1 (g84 c0 c1), k84 c0 c1)
  | _, _ => none
theorem t84 (args : List SV) (hp : List Blk) (r : SV × List Blk) (h : q84 args hp = some (r, true)) : frzR R 100084 args hp = some r := by
  unfold q84 at h
  split at h
  · rename_i c0 c1
    obtain ⟨hr, hk⟩ := Prod.mk.inj (Option.some.inj h)
    exact fnZ_c (f := 84) Q86v1_ok (loops_of (l := []) rfl trivial) (e84 c0 c1) hr hk (fun r h => R_fn at84 2097152 h)
  · simp at h
noncomputable def Q84 : Qt := qcons 100084 q84 Q86v1
theorem Q84_ok : QOk (frzR R) Q84 := qcons_ok t84 Q86v1_ok
/-! impl.NewBus -/
noncomputable def y17_0 (x0 : List Row) : List Row := ((List.take (minN (List.length x0) 512) x0) ++ (List.drop (0 + (minN (List.length x0) 512)) (List.replicate 512 (rowI 0))))
noncomputable def y17_1 (x0 : List Row) : Bool := ((leN 512 (List.length (y17_0 x0))) && true)
noncomputable def y17_2 (x0 : List Row) (x1 : List Row) : List Row := ((List.take 384 (y17_0 x0)) ++ ((List.take (minN (List.length x1) 128) x1) ++ (List.drop (384 + (minN (List.length x1) 128)) (y17_0 x0))))
noncomputable def y17_3 (x0 : List Row) (x1 : List Row) : Nat := (List.length (List.take 512 (y17_2 x0 x1)))
noncomputable def T17 (x0 : List Row) (x1 : List Row) : Pt (GBus × Bool) := (.ok true (.ok ((k84 x0 384) && ((((k84 x1 64) && true) || (!(g84 x0 384))) && true)) (.br (bif (!(g84 x0 384)) then true else (!(g84 x1 64))) (.ok true (.ok true (.ok true (.leaf ((GBus.mk [] []), false))))) (.ok true (.ok true (.ok ((y17_1 x0) && (y17_1 x0)) (.ok true (.ok ((((leN 512 (List.length (y17_2 x0 x1))) && true) && true) && ((((eqN 512 (y17_3 x0 x1)) && true) && true) && true)) (.ok (((eqN (y17_3 x0 x1) (y17_3 x0 x1)) && true) && true) (.leaf ((GBus.mk (List.take 512 (y17_2 x0 x1)) []), true)))))))))))
noncomputable def g17 (x0 : List Row) (x1 : List Row) : GBus × Bool := hid (T17 x0 x1).val
noncomputable def k17 (x0 : List Row) (x1 : List Row) : Bool := hid (T17 x0 x1).okv
noncomputable def n17 (x0 : List Row) (x1 : List Row) (r : GBus × Bool) : SV × List Blk := ((.tup [(.agg [.imm true 1 r.1.Bytes, .imm true 5 r.1.Log]), (.one (.lit (.bool r.2)))]), [])
theorem e17 (x0 : List Row) (x1 : List Row) : fnZ Q84 [(19, [.imm 1]), (23, [.imm 1]), (27, [.imm 1, .imm 5]), (1000000, [])] [] true [] 2097152 F17 [(.one (.imm true 1 x0)), (.one (.imm true 1 x1))] = some ((T17 x0 x1).map (n17 x0 x1)) := by kernel_rfl
noncomputable def q17 : List SV → List Blk → Option ((SV × List Blk) × Bool)
  | [(.one (.imm true 1 c0)), (.one (.imm true 1 c1))], [] => some (n17 c0 c1 (g17 c0 c1), k17 c0 c1)
  | _, _ => none
theorem t17 (args : List SV) (hp : List Blk) (r : SV × List Blk) (h : q17 args hp = some (r, true)) : frzR R 100017 args hp = some r := by
  unfold q17 at h
  split at h
  · rename_i c0 c1
    obtain ⟨hr, hk⟩ := Prod.mk.inj (Option.some.inj h)
    exact fnZ_c (f := 17) Q84_ok (loops_of (l := []) rfl trivial) (e17 c0 c1) hr hk (fun r h => R_fn at17 2097152 h)
  · simp at h
noncomputable def Q17 : Qt := qcons 100017 q17 Q84
theorem Q17_ok : QOk (frzR R) Q17 := qcons_ok t17 Q84_ok
/-! spec.NewBus -/
structure V18v1_0 where
  mk ::
  (b0 : GBus)
  (b1 : GBus)
  (s1 : List Row)
  (s32 : List Row)
  (s33 : Int)
  (s34 : Int)
noncomputable def y18v1_0_l_0 (v : V18v1_0) : Bool := (eqN (List.length v.b0.Bytes) (List.length v.b0.Bytes))
noncomputable def y18v1_0_l_1 (v : V18v1_0) : Bool := (eqN (List.length v.b0.Log) (List.length v.b0.Log))
noncomputable def y18v1_0_l_2 (v : V18v1_0) : Bool := ((y18v1_0_l_0 v) && ((y18v1_0_l_1 v) && true))
noncomputable def y18v1_0_l_3 (v : V18v1_0) : Bool := ((eqN (List.length v.b1.Log) (List.length v.b1.Log)) && true)
noncomputable def y18v1_0_l_4 (v : V18v1_0) : List Row := (List.set v.b1.Bytes (0 + (Int.toNat v.s34)) (rowI (intAt v.s32 (Int.toNat v.s34) 0)))
noncomputable def y18v1_0_l_5 (v : V18v1_0) : Bool := ((eqN (List.length v.b1.Bytes) (List.length (y18v1_0_l_4 v))) && (y18v1_0_l_3 v))
noncomputable def N18v1_0 (v : V18v1_0) : Pt (Option V18v1_0) := (.ok true (.br (ltI v.s34 v.s33) (.ok ((inRow [.int .i64] v.s32 v.s34) && true) (.ok (((leI 0 v.s34) && (ltI v.s34 (lenI v.b1.Bytes))) && (((blt (0 + (Int.toNat v.s34)) (List.length v.b1.Bytes)) && (beqN (rlen v.b1.Bytes (0 + (Int.toNat v.s34))) 1)) && true)) (.ok true (.ok ((((y18v1_0_l_2 v) && (((eqN (List.length v.b1.Bytes) (List.length v.b1.Bytes)) && (y18v1_0_l_3 v)) && ((y18v1_0_l_0 v) && ((y18v1_0_l_1 v) && (y18v1_0_l_5 v))))) && true) && ((y18v1_0_l_2 v) && ((y18v1_0_l_5 v) && true))) (.leaf (some { v with b1 := { v.b1 with Bytes := (y18v1_0_l_4 v) }, s34 := (addI v.s34 1) })))))) (.leaf none)))
noncomputable def s18v1_0 (v : V18v1_0) : St := ⟨[(1, (.one (.imm true 1 v.s1))), (4, (.one (.ptr 0 0 0))), (6, (.one (.ptr 1 0 0))), (32, (.one (.imm true 1 v.s32))), (33, (.one (.lit (.int .i64 v.s33)))), (34, (.one (.lit (.int .i64 v.s34))))], [.box [.sl 2 0 (List.length v.b0.Bytes), .sl 3 0 (List.length v.b0.Log)], .box [.sl 4 0 (List.length v.b1.Bytes), .sl 5 0 (List.length v.b1.Log)], .lst 1 v.b0.Bytes, .lst 5 v.b0.Log, .lst 1 v.b1.Bytes, .lst 5 v.b1.Log]⟩
def u18v1_0 : St → Option (V18v1_0 × Bool)
  | ⟨[(1, (.one (.imm true 1 c0))), (4, (.one (.ptr 0 0 0))), (6, (.one (.ptr 1 0 0))), (32, (.one (.imm true 1 c1))), (33, (.one (.lit (.int .i64 c2)))), (34, (.one (.lit (.int .i64 c3))))], [.box [.sl 2 0 l2, .sl 3 0 l3], .box [.sl 4 0 l4, .sl 5 0 l5], .lst 1 c_2, .lst 5 c_3, .lst 1 c_4, .lst 5 c_5]⟩ => some ((V18v1_0.mk (GBus.mk c_2 c_3) (GBus.mk c_4 c_5) c0 c1 c2 c3), eqN l2 (List.length c_2) && (eqN l3 (List.length c_3) && (eqN l4 (List.length c_4) && (eqN l5 (List.length c_5) && (true)))))
  | _ => none
theorem hN18v1_0 (v : V18v1_0) : ((evp Q17 [(37, [.int .i64]), (38, [.int .i64]), (40, [.imm 1]), (43, [.int .i64]), (50, [.int .i64]), (51, [.int .i64]), (53, [.imm 1]), (57, [.int .i64]), (59, [.imm 1, .imm 5]), (1000003, [])] [] true [] 0 2097152 F18b0 (s18v1_0 v)).bind (stpT true true 0 [1, 4, 6, 32, 33, 34])) = some ((N18v1_0 v).map (Option.map s18v1_0)) := by kernel_rfl
theorem hu18v1_0 (σ : St) (v : V18v1_0) (h : u18v1_0 σ = some (v, true)) : σ = s18v1_0 v := by
  unfold u18v1_0 at h
  split at h
  · obtain ⟨hr, hk⟩ := Prod.mk.inj (Option.some.inj h)
    obtain ⟨d0, hk0⟩ := and_t hk
    obtain ⟨d1, hk1⟩ := and_t hk0
    obtain ⟨d2, hk2⟩ := and_t hk1
    obtain ⟨d3, hk3⟩ := and_t hk2
    obtain rfl := of_decide_eq_true d0
    obtain rfl := of_decide_eq_true d1
    obtain rfl := of_decide_eq_true d2
    obtain rfl := of_decide_eq_true d3
    rw [← hr]
    rfl
  · simp at h
theorem lt18v1_0 : TellsP (lqP true true 0 [1, 4, 6, 32, 33, 34] (evp Q17 [(37, [.int .i64]), (38, [.int .i64]), (40, [.imm 1]), (43, [.int .i64]), (50, [.int .i64]), (51, [.int .i64]), (53, [.imm 1]), (57, [.int .i64]), (59, [.imm 1, .imm 5]), (1000003, [])] [] true [] 0 2097152 F18b0) u18v1_0 s18v1_0 N18v1_0 2097152) (evc R 0 2097152 (.loop [1, 4, 6, 32, 33, 34] F18b0)) := lqP_tells (evp_tells Q17_ok (loops_of (l := []) (by kernel_rfl) trivial)) hu18v1_0 hN18v1_0
noncomputable def lq18v1_0 : Lp := (35, lqP true true 0 [1, 4, 6, 32, 33, 34] (evp Q17 [(37, [.int .i64]), (38, [.int .i64]), (40, [.imm 1]), (43, [.int .i64]), (50, [.int .i64]), (51, [.int .i64]), (53, [.imm 1]), (57, [.int .i64]), (59, [.imm 1, .imm 5]), (1000003, [])] [] true [] 0 2097152 F18b0) u18v1_0 s18v1_0 N18v1_0 2097152) :: []
noncomputable def w18v1_0 (v : V18v1_0) : V18v1_0 := (hid (loopV N18v1_0 2097152 v)).getD v
noncomputable def i18v1_0 (v : V18v1_0) : Bool := (hid (loopV N18v1_0 2097152 v)).isSome
structure V18v1_1 where
  mk ::
  (b0 : GBus)
  (b1 : GBus)
  (s45 : List Row)
  (s46 : Int)
  (s47 : Int)
noncomputable def y18v1_1_l_0 (v : V18v1_1) : Bool := (eqN (List.length v.b0.Bytes) (List.length v.b0.Bytes))
noncomputable def y18v1_1_l_1 (v : V18v1_1) : Bool := (eqN (List.length v.b0.Log) (List.length v.b0.Log))
noncomputable def y18v1_1_l_2 (v : V18v1_1) : Bool := ((y18v1_1_l_0 v) && ((y18v1_1_l_1 v) && true))
noncomputable def y18v1_1_l_3 (v : V18v1_1) : Bool := ((eqN (List.length v.b1.Log) (List.length v.b1.Log)) && true)
noncomputable def y18v1_1_l_4 (v : V18v1_1) : List Row := (List.set v.b1.Bytes (0 + (Int.toNat (addI 384 v.s47))) (rowI (intAt v.s45 (Int.toNat v.s47) 0)))
noncomputable def y18v1_1_l_5 (v : V18v1_1) : Bool := ((eqN (List.length v.b1.Bytes) (List.length (y18v1_1_l_4 v))) && (y18v1_1_l_3 v))
noncomputable def N18v1_1 (v : V18v1_1) : Pt (Option V18v1_1) := (.ok true (.br (ltI v.s47 v.s46) (.ok ((inRow [.int .i64] v.s45 v.s47) && true) (.ok (((leI 0 (addI 384 v.s47)) && (ltI (addI 384 v.s47) (lenI v.b1.Bytes))) && (((blt (0 + (Int.toNat (addI 384 v.s47))) (List.length v.b1.Bytes)) && (beqN (rlen v.b1.Bytes (0 + (Int.toNat (addI 384 v.s47)))) 1)) && true)) (.ok true (.ok ((((y18v1_1_l_2 v) && (((eqN (List.length v.b1.Bytes) (List.length v.b1.Bytes)) && (y18v1_1_l_3 v)) && ((y18v1_1_l_0 v) && ((y18v1_1_l_1 v) && (y18v1_1_l_5 v))))) && true) && ((y18v1_1_l_2 v) && ((y18v1_1_l_5 v) && true))) (.leaf (some { v with b1 := { v.b1 with Bytes := (y18v1_1_l_4 v) }, s47 := (addI v.s47 1) })))))) (.leaf none)))
noncomputable def s18v1_1 (v : V18v1_1) : St := ⟨[(4, (.one (.ptr 0 0 0))), (6, (.one (.ptr 1 0 0))), (45, (.one (.imm true 1 v.s45))), (46, (.one (.lit (.int .i64 v.s46)))), (47, (.one (.lit (.int .i64 v.s47))))], [.box [.sl 2 0 (List.length v.b0.Bytes), .sl 3 0 (List.length v.b0.Log)], .box [.sl 4 0 (List.length v.b1.Bytes), .sl 5 0 (List.length v.b1.Log)], .lst 1 v.b0.Bytes, .lst 5 v.b0.Log, .lst 1 v.b1.Bytes, .lst 5 v.b1.Log]⟩
def u18v1_1 : St → Option (V18v1_1 × Bool)
  | ⟨[(4, (.one (.ptr 0 0 0))), (6, (.one (.ptr 1 0 0))), (45, (.one (.imm true 1 c0))), (46, (.one (.lit (.int .i64 c1)))), (47, (.one (.lit (.int .i64 c2))))], [.box [.sl 2 0 l2, .sl 3 0 l3], .box [.sl 4 0 l4, .sl 5 0 l5], .lst 1 c_2, .lst 5 c_3, .lst 1 c_4, .lst 5 c_5]⟩ => some ((V18v1_1.mk (GBus.mk c_2 c_3) (GBus.mk c_4 c_5) c0 c1 c2), eqN l2 (List.length c_2) && (eqN l3 (List.length c_3) && (eqN l4 (List.length c_4) && (eqN l5 (List.length c_5) && (true)))))
  | _ => none
theorem hN18v1_1 (v : V18v1_1) : ((evp Q17 [(37, [.int .i64]), (38, [.int .i64]), (40, [.imm 1]), (43, [.int .i64]), (50, [.int .i64]), (51, [.int .i64]), (53, [.imm 1]), (57, [.int .i64]), (59, [.imm 1, .imm 5]), (1000003, [])] [] true lq18v1_0 0 2097152 F18b1 (s18v1_1 v)).bind (stpT true true 0 [4, 6, 45, 46, 47])) = some ((N18v1_1 v).map (Option.map s18v1_1)) := by kernel_rfl
theorem hu18v1_1 (σ : St) (v : V18v1_1) (h : u18v1_1 σ = some (v, true)) : σ = s18v1_1 v := by
  unfold u18v1_1 at h
  split at h
  · obtain ⟨hr, hk⟩ := Prod.mk.inj (Option.some.inj h)
    obtain ⟨d0, hk0⟩ := and_t hk
    obtain ⟨d1, hk1⟩ := and_t hk0
    obtain ⟨d2, hk2⟩ := and_t hk1
    obtain ⟨d3, hk3⟩ := and_t hk2
    obtain rfl := of_decide_eq_true d0
    obtain rfl := of_decide_eq_true d1
    obtain rfl := of_decide_eq_true d2
    obtain rfl := of_decide_eq_true d3
    rw [← hr]
    rfl
  · simp at h
theorem lt18v1_1 : TellsP (lqP true true 0 [4, 6, 45, 46, 47] (evp Q17 [(37, [.int .i64]), (38, [.int .i64]), (40, [.imm 1]), (43, [.int .i64]), (50, [.int .i64]), (51, [.int .i64]), (53, [.imm 1]), (57, [.int .i64]), (59, [.imm 1, .imm 5]), (1000003, [])] [] true lq18v1_0 0 2097152 F18b1) u18v1_1 s18v1_1 N18v1_1 2097152) (evc R 0 2097152 (.loop [4, 6, 45, 46, 47] F18b1)) := lqP_tells (evp_tells Q17_ok (loops_of (l := []) (by kernel_rfl) trivial)) hu18v1_1 hN18v1_1
noncomputable def lq18v1_1 : Lp := (48, lqP true true 0 [4, 6, 45, 46, 47] (evp Q17 [(37, [.int .i64]), (38, [.int .i64]), (40, [.imm 1]), (43, [.int .i64]), (50, [.int .i64]), (51, [.int .i64]), (53, [.imm 1]), (57, [.int .i64]), (59, [.imm 1, .imm 5]), (1000003, [])] [] true lq18v1_0 0 2097152 F18b1) u18v1_1 s18v1_1 N18v1_1 2097152) :: lq18v1_0
noncomputable def w18v1_1 (v : V18v1_1) : V18v1_1 := (hid (loopV N18v1_1 2097152 v)).getD v
noncomputable def i18v1_1 (v : V18v1_1) : Bool := (hid (loopV N18v1_1 2097152 v)).isSome
noncomputable def y18v1_0 (x0 : List Row) (x1 : List Row) : V18v1_0 := (w18v1_0 (V18v1_0.mk (GBus.mk [] []) (GBus.mk (List.replicate 512 (rowI 0)) []) x1 x0 (lenI x0) 0))
noncomputable def y18v1_1 (x0 : List Row) (x1 : List Row) : Bool := (eqN (List.length (y18v1_0 x0 x1).b0.Bytes) (List.length (y18v1_0 x0 x1).b0.Bytes))
noncomputable def y18v1_2 (x0 : List Row) (x1 : List Row) : Bool := (eqN (List.length (y18v1_0 x0 x1).b0.Log) (List.length (y18v1_0 x0 x1).b0.Log))
noncomputable def y18v1_3 (x0 : List Row) (x1 : List Row) : Bool := ((y18v1_1 x0 x1) && ((y18v1_2 x0 x1) && true))
noncomputable def y18v1_4 (x0 : List Row) (x1 : List Row) : Bool := ((eqN (List.length (y18v1_0 x0 x1).b1.Bytes) (List.length (y18v1_0 x0 x1).b1.Bytes)) && ((eqN (List.length (y18v1_0 x0 x1).b1.Log) (List.length (y18v1_0 x0 x1).b1.Log)) && true))
noncomputable def y18v1_5 (x0 : List Row) (x1 : List Row) : Bool := ((y18v1_1 x0 x1) && ((y18v1_2 x0 x1) && (y18v1_4 x0 x1)))
noncomputable def y18v1_6 (x0 : List Row) (x1 : List Row) : Nat := (List.length (w18v1_1 (V18v1_1.mk (y18v1_0 x0 x1).b0 (y18v1_0 x0 x1).b1 (y18v1_0 x0 x1).s1 (lenI (y18v1_0 x0 x1).s1) 0)).b1.Bytes)
noncomputable def y18v1_7 (x0 : List Row) (x1 : List Row) : Nat := (List.length (w18v1_1 (V18v1_1.mk (y18v1_0 x0 x1).b0 (y18v1_0 x0 x1).b1 (y18v1_0 x0 x1).s1 (lenI (y18v1_0 x0 x1).s1) 0)).b1.Log)
noncomputable def y18v1_8 (x0 : List Row) (x1 : List Row) : Bool := ((eqN (y18v1_6 x0 x1) (y18v1_6 x0 x1)) && ((eqN (y18v1_7 x0 x1) (y18v1_7 x0 x1)) && true))
noncomputable def T18v1 (x0 : List Row) (x1 : List Row) : Pt (GBus × Bool) := (.ok true (.ok ((k85v1 x0) && ((((k85v1 x1) && true) || (!(g85v1 x0))) && true)) (.br (bif (bif (bif (!(g85v1 x0)) then true else (!(g85v1 x1))) then true else (gtI (lenI x0) 384)) then true else (gtI (lenI x1) 64)) (.ok true (.ok true (.ok true (.leaf ((GBus.mk [] []), false))))) (.ok true (.ok true (.ok true (.ok true (.ok (i18v1_0 (V18v1_0.mk (GBus.mk [] []) (GBus.mk (List.replicate 512 (rowI 0)) []) x1 x0 (lenI x0) 0)) (.ok true (.ok ((((y18v1_3 x0 x1) && ((y18v1_4 x0 x1) && (y18v1_5 x0 x1))) && true) && ((y18v1_3 x0 x1) && ((y18v1_4 x0 x1) && true))) (.ok (y18v1_5 x0 x1) (.ok (i18v1_1 (V18v1_1.mk (y18v1_0 x0 x1).b0 (y18v1_0 x0 x1).b1 (y18v1_0 x0 x1).s1 (lenI (y18v1_0 x0 x1).s1) 0)) (.ok true (.ok ((y18v1_8 x0 x1) && ((y18v1_8 x0 x1) && true)) (.ok ((y18v1_8 x0 x1) && true) (.leaf ((w18v1_1 (V18v1_1.mk (y18v1_0 x0 x1).b0 (y18v1_0 x0 x1).b1 (y18v1_0 x0 x1).s1 (lenI (y18v1_0 x0 x1).s1) 0)).b1, true)))))))))))))))))
noncomputable def g18v1 (x0 : List Row) (x1 : List Row) : GBus × Bool := hid (T18v1 x0 x1).val
noncomputable def k18v1 (x0 : List Row) (x1 : List Row) : Bool := hid (T18v1 x0 x1).okv
noncomputable def n18v1 (x0 : List Row) (x1 : List Row) (r : GBus × Bool) : SV × List Blk := ((.tup [(.agg [.imm true 1 r.1.Bytes, .imm true 5 r.1.Log]), (.one (.lit (.bool r.2)))]), [])
theorem e18v1 (x0 : List Row) (x1 : List Row) : fnZ Q17 [(37, [.int .i64]), (38, [.int .i64]), (40, [.imm 1]), (43, [.int .i64]), (50, [.int .i64]), (51, [.int .i64]), (53, [.imm 1]), (57, [.int .i64]), (59, [.imm 1, .imm 5]), (1000003, [])] [] true lq18v1_1 2097152 F18 [(.one (.imm true 1 x0)), (.one (.imm true 1 x1))] = some ((T18v1 x0 x1).map (n18v1 x0 x1)) := by kernel_rfl
noncomputable def q18v1 : List SV → List Blk → Option ((SV × List Blk) × Bool)
  | [(.one (.imm true 1 c0)), (.one (.imm true 1 c1))], [] => some (n18v1 c0 c1 (g18v1 c0 c1), k18v1 c0 c1)
  | _, _ => none
theorem hL18v1 : Loops (fun live x => TellsP (lpAt lq18v1_1 (tagC x)) (evc R 0 2097152 (.loop live x))) F18.body := (loops_of (l := [([1, 4, 6, 32, 33, 34], F18b0), ([4, 6, 45, 46, 47], F18b1)]) (by kernel_rfl) ⟨fun σ σr t h ho hl => lt18v1_0 σ σr t h ho hl, fun σ σr t h ho hl => lt18v1_1 σ σr t h ho hl, trivial⟩)
theorem t18v1 (args : List SV) (hp : List Blk) (r : SV × List Blk) (h : q18v1 args hp = some (r, true)) : frzR R 100018 args hp = some r := by
  unfold q18v1 at h
  split at h
  · rename_i c0 c1
    obtain ⟨hr, hk⟩ := Prod.mk.inj (Option.some.inj h)
    exact fnZ_c (f := 18) Q17_ok hL18v1 (e18v1 c0 c1) hr hk (fun r h => R_fn at18 2097152 h)
  · simp at h
noncomputable def Q18v1 : Qt := qcons 100018 q18v1 Q17
theorem Q18v1_ok : QOk (frzR R) Q18v1 := qcons_ok t18v1 Q17_ok
/-! laws.sameInts -/
structure V20_0 where
  mk ::
  (s0 : List Row)
  (s1 : List Row)
  (s12 : Int)
  (s13 : Int)
noncomputable def N20_0 (v : V20_0) : Pt (Option V20_0) := (.ok true (.br (ltI v.s13 v.s12) (.ok true (.ok ((inRow [.int .i64] v.s0 v.s13) && ((inRow [.int .i64] v.s1 v.s13) && true)) (.br (neI (intAt v.s0 (Int.toNat v.s13) 0) (intAt v.s1 (Int.toNat v.s13) 0)) (.ok true (.leaf none)) (.ok true (.ok true (.leaf (some { v with s13 := (addI v.s13 1) }))))))) (.leaf none)))
noncomputable def s20_0 (v : V20_0) : St := ⟨[(0, (.one (.imm true 1 v.s0))), (1, (.one (.imm true 1 v.s1))), (12, (.one (.lit (.int .i64 v.s12)))), (13, (.one (.lit (.int .i64 v.s13))))], []⟩
def u20_0 : St → Option (V20_0 × Bool)
  | ⟨[(0, (.one (.imm true 1 c0))), (1, (.one (.imm true 1 c1))), (12, (.one (.lit (.int .i64 c2)))), (13, (.one (.lit (.int .i64 c3))))], []⟩ => some ((V20_0.mk c0 c1 c2 c3), true)
  | _ => none
theorem hN20_0 (v : V20_0) : ((evp Q18v1 [(18, [.int .i64]), (19, [.int .i64]), (22, [.int .i64]), (23, [.int .i64])] [] true [] 0 2097152 F20b0 (s20_0 v)).bind (stpT true false 0 [0, 1, 12, 13])) = some ((N20_0 v).map (Option.map s20_0)) := by kernel_rfl
theorem hu20_0 (σ : St) (v : V20_0) (h : u20_0 σ = some (v, true)) : σ = s20_0 v := by
  unfold u20_0 at h
  split at h
  · obtain ⟨hr, hk⟩ := Prod.mk.inj (Option.some.inj h)
    rw [← hr]
    rfl
  · simp at h
theorem lt20_0 : TellsP (lqP true false 0 [0, 1, 12, 13] (evp Q18v1 [(18, [.int .i64]), (19, [.int .i64]), (22, [.int .i64]), (23, [.int .i64])] [] true [] 0 2097152 F20b0) u20_0 s20_0 N20_0 2097152) (evc R 0 2097152 (.loop [0, 1, 12, 13] F20b0)) := lqP_tells (evp_tells Q18v1_ok (loops_of (l := []) (by kernel_rfl) trivial)) hu20_0 hN20_0
noncomputable def lq20_0 : Lp := (14, lqP true false 0 [0, 1, 12, 13] (evp Q18v1 [(18, [.int .i64]), (19, [.int .i64]), (22, [.int .i64]), (23, [.int .i64])] [] true [] 0 2097152 F20b0) u20_0 s20_0 N20_0 2097152) :: []
noncomputable def w20_0 (v : V20_0) : V20_0 := (hid (loopV N20_0 2097152 v)).getD v
noncomputable def i20_0 (v : V20_0) : Bool := (hid (loopV N20_0 2097152 v)).isSome
noncomputable def y20_0 (x0 : List Row) (x1 : List Row) : V20_0 := (w20_0 (V20_0.mk x0 x1 (lenI x0) 0))
noncomputable def T20 (x0 : List Row) (x1 : List Row) : Pt (Bool) := (.ok true (.ok true (.br (neI (lenI x0) (lenI x1)) (.ok true (.ok true (.ok true (.leaf false)))) (.ok true (.ok true (.ok true (.ok (i20_0 (V20_0.mk x0 x1 (lenI x0) 0)) (.br (ltI (y20_0 x0 x1).s13 (y20_0 x0 x1).s12) (.ok true (.ok true (.leaf false))) (.ok true (.ok true (.ok true (.leaf true))))))))))))
noncomputable def g20 (x0 : List Row) (x1 : List Row) : Bool := hid (T20 x0 x1).val
noncomputable def k20 (x0 : List Row) (x1 : List Row) : Bool := hid (T20 x0 x1).okv
noncomputable def n20 (x0 : List Row) (x1 : List Row) (r : Bool) : SV × List Blk := ((.one (.lit (.bool r))), [])
theorem e20 (x0 : List Row) (x1 : List Row) : fnZ Q18v1 [(18, [.int .i64]), (19, [.int .i64]), (22, [.int .i64]), (23, [.int .i64])] [] true lq20_0 2097152 F20 [(.one (.imm true 1 x0)), (.one (.imm true 1 x1))] = some ((T20 x0 x1).map (n20 x0 x1)) := by kernel_rfl
noncomputable def q20 : List SV → List Blk → Option ((SV × List Blk) × Bool)
  | [(.one (.imm true 1 c0)), (.one (.imm true 1 c1))], [] => some (n20 c0 c1 (g20 c0 c1), k20 c0 c1)
  | _, _ => none
theorem hL20 : Loops (fun live x => TellsP (lpAt lq20_0 (tagC x)) (evc R 0 2097152 (.loop live x))) F20.body := (loops_of (l := [([0, 1, 12, 13], F20b0)]) (by kernel_rfl) ⟨fun σ σr t h ho hl => lt20_0 σ σr t h ho hl, trivial⟩)
theorem t20 (args : List SV) (hp : List Blk) (r : SV × List Blk) (h : q20 args hp = some (r, true)) : frzR R 100020 args hp = some r := by
  unfold q20 at h
  split at h
  · rename_i c0 c1
    obtain ⟨hr, hk⟩ := Prod.mk.inj (Option.some.inj h)
    exact fnZ_c (f := 20) Q18v1_ok hL20 (e20 c0 c1) hr hk (fun r h => R_fn at20 2097152 h)
  · simp at h
noncomputable def Q20 : Qt := qcons 100020 q20 Q18v1
theorem Q20_ok : QOk (frzR R) Q20 := qcons_ok t20 Q18v1_ok
/-! laws.sameBuses -/
noncomputable def T19 (x0 : GBus) (x1 : GBus) : Pt (Bool) := (.ok true (.ok ((k20 x0.Bytes x1.Bytes) && ((((k12 x0.Log x1.Log) && true) || (!(g20 x0.Bytes x1.Bytes))) && true)) (.ok true (.ok true (.leaf (bif (g20 x0.Bytes x1.Bytes) then (g12 x0.Log x1.Log) else false))))))
noncomputable def g19 (x0 : GBus) (x1 : GBus) : Bool := hid (T19 x0 x1).val
noncomputable def k19 (x0 : GBus) (x1 : GBus) : Bool := hid (T19 x0 x1).okv
noncomputable def n19 (x0 : GBus) (x1 : GBus) (r : Bool) : SV × List Blk := ((.one (.lit (.bool r))), [])
theorem e19 (x0 : GBus) (x1 : GBus) : fnZ Q20 [(6, [.imm 1]), (8, [.imm 1]), (12, [.imm 5]), (14, [.imm 5])] [] true [] 2097152 F19 [(.agg [.imm true 1 x0.Bytes, .imm true 5 x0.Log]), (.agg [.imm true 1 x1.Bytes, .imm true 5 x1.Log])] = some ((T19 x0 x1).map (n19 x0 x1)) := by kernel_rfl
noncomputable def q19 : List SV → List Blk → Option ((SV × List Blk) × Bool)
  | [(.agg [.imm true 1 c0, .imm true 5 c1]), (.agg [.imm true 1 c2, .imm true 5 c3])], [] => some (n19 (GBus.mk c0 c1) (GBus.mk c2 c3) (g19 (GBus.mk c0 c1) (GBus.mk c2 c3)), k19 (GBus.mk c0 c1) (GBus.mk c2 c3))
  | _, _ => none
theorem t19 (args : List SV) (hp : List Blk) (r : SV × List Blk) (h : q19 args hp = some (r, true)) : frzR R 100019 args hp = some r := by
  unfold q19 at h
  split at h
  · rename_i c0 c1 c2 c3
    obtain ⟨hr, hk⟩ := Prod.mk.inj (Option.some.inj h)
    exact fnZ_c (f := 19) Q20_ok (loops_of (l := []) rfl trivial) (e19 (GBus.mk c0 c1) (GBus.mk c2 c3)) hr hk (fun r h => R_fn at19 2097152 h)
  · simp at h
noncomputable def Q19 : Qt := qcons 100019 q19 Q20
theorem Q19_ok : QOk (frzR R) Q19 := qcons_ok t19 Q20_ok
/-! laws.FnLogs -/
structure V3_0 where
  mk ::
  (b0 : GBus)
  (s1 : List Row)
  (s11 : Int)
  (s12 : Int)
noncomputable def N3_0 (v : V3_0) : Pt (Option V3_0) := (.ok true (.br (leI v.s12 3) (.ok ((k10 v.b0 v.s12) && true) (.ok true (.br (!(g10 v.b0 v.s12).2) (.ok true (.leaf none)) (.ok true (.ok true (.ok true (.leaf (some { v with s11 := (addI v.s11 (lenI (g10 v.b0 v.s12).1)), s12 := (addI v.s12 1) })))))))) (.leaf none)))
noncomputable def s3_0 (v : V3_0) : St := ⟨[(1, (.one (.imm true 1 v.s1))), (5, (.one (.ptr 0 0 0))), (11, (.one (.lit (.int .i64 v.s11)))), (12, (.one (.lit (.int .i64 v.s12))))], [.box [.imm true 1 v.b0.Bytes, .imm true 5 v.b0.Log]]⟩
def u3_0 : St → Option (V3_0 × Bool)
  | ⟨[(1, (.one (.imm true 1 c2))), (5, (.one (.ptr 0 0 0))), (11, (.one (.lit (.int .i64 c3)))), (12, (.one (.lit (.int .i64 c4))))], [.box [.imm true 1 c0, .imm true 5 c1]]⟩ => some ((V3_0.mk (GBus.mk c0 c1) c2 c3 c4), true)
  | _ => none
theorem hN3_0 (v : V3_0) : ((evp Q12 [(39, [.imm 1, .imm 5]), (45, [.imm 1, .imm 5]), (65, [.imm 1, .imm 5]), (78, [.imm 5]), (87, [.imm 1, .imm 5]), (88, [.imm 1, .imm 5]), (93, [.imm 1, .imm 5]), (94, [.imm 1, .imm 5]), (129, [.imm 1, .imm 5]), (130, [.imm 1, .imm 5]), (139, [.imm 1]), (141, [.imm 1]), (149, [.imm 1, .imm 5]), (153, [.imm 1])] [] true [] 0 2097152 F3b0 (s3_0 v)).bind (stpT true false 0 [1, 5, 11, 12])) = some ((N3_0 v).map (Option.map s3_0)) := by kernel_rfl
theorem hu3_0 (σ : St) (v : V3_0) (h : u3_0 σ = some (v, true)) : σ = s3_0 v := by
  unfold u3_0 at h
  split at h
  · obtain ⟨hr, hk⟩ := Prod.mk.inj (Option.some.inj h)
    rw [← hr]
    rfl
  · simp at h
theorem lt3_0 : TellsP (lqP true false 0 [1, 5, 11, 12] (evp Q12 [(39, [.imm 1, .imm 5]), (45, [.imm 1, .imm 5]), (65, [.imm 1, .imm 5]), (78, [.imm 5]), (87, [.imm 1, .imm 5]), (88, [.imm 1, .imm 5]), (93, [.imm 1, .imm 5]), (94, [.imm 1, .imm 5]), (129, [.imm 1, .imm 5]), (130, [.imm 1, .imm 5]), (139, [.imm 1]), (141, [.imm 1]), (149, [.imm 1, .imm 5]), (153, [.imm 1])] [] true [] 0 2097152 F3b0) u3_0 s3_0 N3_0 2097152) (evc R 0 2097152 (.loop [1, 5, 11, 12] F3b0)) := lqP_tells (evp_tells Q12_ok (loops_of (l := []) (by kernel_rfl) trivial)) hu3_0 hN3_0
noncomputable def lq3_0 : Lp := (60, lqP true false 0 [1, 5, 11, 12] (evp Q12 [(39, [.imm 1, .imm 5]), (45, [.imm 1, .imm 5]), (65, [.imm 1, .imm 5]), (78, [.imm 5]), (87, [.imm 1, .imm 5]), (88, [.imm 1, .imm 5]), (93, [.imm 1, .imm 5]), (94, [.imm 1, .imm 5]), (129, [.imm 1, .imm 5]), (130, [.imm 1, .imm 5]), (139, [.imm 1]), (141, [.imm 1]), (149, [.imm 1, .imm 5]), (153, [.imm 1])] [] true [] 0 2097152 F3b0) u3_0 s3_0 N3_0 2097152) :: []
noncomputable def w3_0 (v : V3_0) : V3_0 := (hid (loopV N3_0 2097152 v)).getD v
noncomputable def i3_0 (v : V3_0) : Bool := (hid (loopV N3_0 2097152 v)).isSome
noncomputable def y3_0 (x0 : List Row) : List Row × Bool := (g10 (g9 x0).1 (g9 x0).2)
noncomputable def y3_1 (x0 : List Row) : List Row × Bool := (g11 (g9 x0).1 (g9 x0).2)
noncomputable def y3_2 (x0 : List Row) (x1 : List Row) : V3_0 := (w3_0 (V3_0.mk (g9 x0).1 x1 0 1))
noncomputable def y3_3 (x0 : List Row) (x1 : List Row) : GBus × Bool := (g17 (g16 (y3_2 x0 x1).s1).1 (g16 (y3_2 x0 x1).s1).2)
noncomputable def y3_4 (x0 : List Row) (x1 : List Row) : GBus × Bool := (g18v1 (g16 (y3_2 x0 x1).s1).1 (g16 (y3_2 x0 x1).s1).2)
noncomputable def y3_5 (x0 : List Row) (x1 : List Row) : Bool × Bool := (g14 (g13 (y3_2 x0 x1).s1).1 (g13 (y3_2 x0 x1).s1).2)
noncomputable def y3_6 (x0 : List Row) (x1 : List Row) : Bool × Bool := (g15 (g13 (y3_2 x0 x1).s1).1 (g13 (y3_2 x0 x1).s1).2)
noncomputable def y3_7 (x0 : List Row) (x1 : List Row) : Bool := (bif (bif (!(eqB (y3_5 x0 x1).2 (y3_6 x0 x1).2)) then true else (!(eqB (y3_5 x0 x1).1 (y3_6 x0 x1).1))) then true else (!(eqB (y3_3 x0 x1).2 (y3_4 x0 x1).2)))
noncomputable def y3_8 (x0 : List Row) (x1 : List Row) : List Row := (List.take (Int.toNat (lenI (g16 (y3_2 x0 x1).s1).1)) (y3_3 x0 x1).1.Bytes)
noncomputable def y3_9 (x0 : List Row) (x1 : List Row) : Bool := (bif (!(y3_5 x0 x1).2) then true else (eqB (y3_5 x0 x1).1 (g20 (g13 (y3_2 x0 x1).s1).1.Bytes (g13 (y3_2 x0 x1).s1).2.Bytes)))
noncomputable def y3_10 (x1 : List Row) : GBus × Bool := (g17 (g16 x1).1 (g16 x1).2)
noncomputable def y3_11 (x1 : List Row) : GBus × Bool := (g18v1 (g16 x1).1 (g16 x1).2)
noncomputable def y3_12 (x1 : List Row) : Bool × Bool := (g14 (g13 x1).1 (g13 x1).2)
noncomputable def y3_13 (x1 : List Row) : Bool × Bool := (g15 (g13 x1).1 (g13 x1).2)
noncomputable def y3_14 (x1 : List Row) : Bool := (bif (bif (!(eqB (y3_12 x1).2 (y3_13 x1).2)) then true else (!(eqB (y3_12 x1).1 (y3_13 x1).1))) then true else (!(eqB (y3_10 x1).2 (y3_11 x1).2)))
noncomputable def y3_15 (x1 : List Row) : List Row := (List.take (Int.toNat (lenI (g16 x1).1)) (y3_10 x1).1.Bytes)
noncomputable def y3_16 (x1 : List Row) : Bool := (bif (!(y3_12 x1).2) then true else (eqB (y3_12 x1).1 (g20 (g13 x1).1.Bytes (g13 x1).2.Bytes)))
noncomputable def T3 (x0 : List Row) (x1 : List Row) : Pt (Bool) := (.ok true (.ok true (.br (gtI (addI (lenI x0) (lenI x1)) 1048576) (.ok true (.ok true (.leaf true))) (.ok ((k9 x0) && true) (.ok ((k10 (g9 x0).1 (g9 x0).2) && true) (.ok ((k11 (g9 x0).1 (g9 x0).2) && true) (.ok ((((k12 (y3_0 x0).1 (y3_1 x0).1) && true) || (!(eqB (y3_0 x0).2 (y3_1 x0).2))) && true) (.br (bif (!(eqB (y3_0 x0).2 (y3_1 x0).2)) then true else (!(g12 (y3_0 x0).1 (y3_1 x0).1))) (.ok true (.ok true (.leaf false))) (.ok true (.br (y3_0 x0).2 (.ok true (.ok true (.ok true (.ok true (.ok (i3_0 (V3_0.mk (g9 x0).1 x1 0 1)) (.br (leI (y3_2 x0 x1).s12 3) (.ok true (.leaf false)) (.ok true (.br (neI (y3_2 x0 x1).s11 (lenI (y3_2 x0 x1).b0.Log)) (.ok true (.ok true (.leaf false))) (.ok ((k13 (y3_2 x0 x1).s1) && true) (.ok ((k14 (g13 (y3_2 x0 x1).s1).1 (g13 (y3_2 x0 x1).s1).2) && true) (.ok ((k15 (g13 (y3_2 x0 x1).s1).1 (g13 (y3_2 x0 x1).s1).2) && true) (.ok ((k16 (y3_2 x0 x1).s1) && true) (.ok ((k17 (g16 (y3_2 x0 x1).s1).1 (g16 (y3_2 x0 x1).s1).2) && true) (.ok ((k18v1 (g16 (y3_2 x0 x1).s1).1 (g16 (y3_2 x0 x1).s1).2) && true) (.ok ((((k19 (y3_3 x0 x1).1 (y3_4 x0 x1).1) && true) || (y3_7 x0 x1)) && true) (.br (bif (y3_7 x0 x1) then true else (!(g19 (y3_3 x0 x1).1 (y3_4 x0 x1).1))) (.ok true (.ok true (.leaf false))) (.ok ((((k20 (g13 (y3_2 x0 x1).s1).1.Bytes (g13 (y3_2 x0 x1).s1).2.Bytes) && true) || (!(y3_5 x0 x1).2)) && ((((((k21 (y3_3 x0 x1).1) && (((((leI 0 (lenI (g16 (y3_2 x0 x1).s1).1)) && (leI (lenI (g16 (y3_2 x0 x1).s1).1) (lenI (y3_3 x0 x1).1.Bytes))) && ((k20 (y3_8 x0 x1) (g16 (y3_2 x0 x1).s1).1) && true)) || (!(g21 (y3_3 x0 x1).1))) && true)) || (!(y3_3 x0 x1).2)) && true) || (!(y3_9 x0 x1))) && true)) (.ok true (.leaf (bif (y3_9 x0 x1) then (bif (!(y3_3 x0 x1).2) then true else (bif (g21 (y3_3 x0 x1).1) then (g20 (y3_8 x0 x1) (g16 (y3_2 x0 x1).s1).1) else false)) else false)))))))))))))))))))) (.ok ((k13 x1) && true) (.ok ((k14 (g13 x1).1 (g13 x1).2) && true) (.ok ((k15 (g13 x1).1 (g13 x1).2) && true) (.ok ((k16 x1) && true) (.ok ((k17 (g16 x1).1 (g16 x1).2) && true) (.ok ((k18v1 (g16 x1).1 (g16 x1).2) && true) (.ok ((((k19 (y3_10 x1).1 (y3_11 x1).1) && true) || (y3_14 x1)) && true) (.br (bif (y3_14 x1) then true else (!(g19 (y3_10 x1).1 (y3_11 x1).1))) (.ok true (.ok true (.leaf false))) (.ok ((((k20 (g13 x1).1.Bytes (g13 x1).2.Bytes) && true) || (!(y3_12 x1).2)) && ((((((k21 (y3_10 x1).1) && (((((leI 0 (lenI (g16 x1).1)) && (leI (lenI (g16 x1).1) (lenI (y3_10 x1).1.Bytes))) && ((k20 (y3_15 x1) (g16 x1).1) && true)) || (!(g21 (y3_10 x1).1))) && true)) || (!(y3_10 x1).2)) && true) || (!(y3_16 x1))) && true)) (.ok true (.leaf (bif (y3_16 x1) then (bif (!(y3_10 x1).2) then true else (bif (g21 (y3_10 x1).1) then (g20 (y3_15 x1) (g16 x1).1) else false)) else false))))))))))))))))))))))
noncomputable def g3 (x0 : List Row) (x1 : List Row) : Bool := hid (T3 x0 x1).val
noncomputable def k3 (x0 : List Row) (x1 : List Row) : Bool := hid (T3 x0 x1).okv
noncomputable def n3 (x0 : List Row) (x1 : List Row) (r : Bool) : SV × List Blk := ((.one (.lit (.bool r))), [])
theorem e3 (x0 : List Row) (x1 : List Row) : fnP Q19 [(39, [.imm 1, .imm 5]), (45, [.imm 1, .imm 5]), (65, [.imm 1, .imm 5]), (78, [.imm 5]), (87, [.imm 1, .imm 5]), (88, [.imm 1, .imm 5]), (93, [.imm 1, .imm 5]), (94, [.imm 1, .imm 5]), (129, [.imm 1, .imm 5]), (130, [.imm 1, .imm 5]), (139, [.imm 1]), (141, [.imm 1]), (149, [.imm 1, .imm 5]), (153, [.imm 1])] [] true lq3_0 2097152 F3 [(.one (.imm true 1 x0)), (.one (.imm true 1 x1))] [] = some ((T3 x0 x1).map (n3 x0 x1)) := by kernel_rfl
noncomputable def q3 : List SV → List Blk → Option ((SV × List Blk) × Bool)
  | [(.one (.imm true 1 c0)), (.one (.imm true 1 c1))], [] => some (n3 c0 c1 (g3 c0 c1), k3 c0 c1)
  | _, _ => none
theorem hL3 : Loops (fun live x => TellsP (lpAt lq3_0 (tagC x)) (evc R 0 2097152 (.loop live x))) F3.body := (loops_of (l := [([1, 5, 11, 12], F3b0)]) (by kernel_rfl) ⟨fun σ σr t h ho hl => lt3_0 σ σr t h ho hl, trivial⟩)
theorem t3 (args : List SV) (hp : List Blk) (r : SV × List Blk) (h : q3 args hp = some (r, true)) : frzR R 3 args hp = some r := by
  unfold q3 at h
  split at h
  · rename_i c0 c1
    obtain ⟨hr, hk⟩ := Prod.mk.inj (Option.some.inj h)
    exact (frz_lo (by decide)).trans (R_fn at3 2097152 (fnP_c Q19_ok hL3 (e3 c0 c1) hr hk))
  · simp at h
noncomputable def Q3 : Qt := qcons 3 q3 Q19
theorem Q3_ok : QOk (frzR R) Q3 := qcons_ok t3 Q19_ok
end Go.Proofs.YtihfaondfmeglaaLogs
