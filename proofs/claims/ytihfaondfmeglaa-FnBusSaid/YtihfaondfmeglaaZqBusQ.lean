/- What each function gives, and that it does. Printed. -/
import Derived.Test.YtihfaondfmeglaaZqTabBus
import Derived.Test.YtihfaondfmeglaaZmc
import Derived.KernelRfl
import Derived.Test.YtihfaondfmeglaaZqBusR
set_option linter.unusedVariables false
set_option linter.unusedSimpArgs false
namespace Go.Proofs.YtihfaondfmeglaaBus
open Go Go.Zq
set_option maxRecDepth 100000
structure Gl1Cur where
  mk ::
  (fcode : List Row)
  (fat : Int)
  (fseed : Int)
def Gl1Cur.row (x : Gl1Cur) : Row := [.imm true 1 x.fcode, .lit (.int .i64 x.fat), .lit (.int .u64 x.fseed)]
def Gl1Cur.at (r : List Row) (j i : Nat) : Gl1Cur := ⟨rowsAt r j i, intAt r j (i + 1), intAt r j (i + 2)⟩
structure GBus where
  mk ::
  (Bytes : List Row)
  (Log : List Row)
def GBus.row (x : GBus) : Row := [.imm true 1 x.Bytes, .imm true 5 x.Log]
def GBus.at (r : List Row) (j i : Nat) : GBus := ⟨rowsAt r j i, rowsAt r j (i + 1)⟩
structure GAccess where
  mk ::
  (Kind : Int)
  (Size : Int)
  (Addr : Int)
  (Value : Int)
  (Code : Int)
def GAccess.row (x : GAccess) : Row := [.lit (.int .i64 x.Kind), .lit (.int .i64 x.Size), .lit (.int .i64 x.Addr), .lit (.int .i64 x.Value), .lit (.int .i64 x.Code)]
def GAccess.at (r : List Row) (j i : Nat) : GAccess := ⟨intAt r j i, intAt r j (i + 1), intAt r j (i + 2), intAt r j (i + 3), intAt r j (i + 4)⟩
/-! (*spec.l1Cur).next -/
noncomputable def y146_0 (x0 : Gl1Cur) : Int := (bif (ltI x0.fat (lenI x0.fcode)) then (wrapK .i64 (intAt x0.fcode (Int.toNat x0.fat) 0)) else 0)
noncomputable def y146_1 (x0 : Gl1Cur) : Int := (addK .u64 (addK .u64 (mulK .u64 x0.fseed 6364136223846793005) (wrapK .u64 (y146_0 x0))) 1442695040888963407)
noncomputable def T146 (x0 : Gl1Cur) : Pt (Gl1Cur × Int) := (.ok true (.ok true (.ok true (.ok ((((inRow [.int .u8] x0.fcode x0.fat) && true) || (!(ltI x0.fat (lenI x0.fcode)))) && true) (.ok true (.ok true (.ok true (.br (leI (addI x0.fat 1) (lenI x0.fcode)) (.ok true (.ok true (.leaf ((Gl1Cur.mk x0.fcode (addI x0.fat 1) (y146_1 x0)), (y146_0 x0))))) (.ok true (.ok true (.leaf ((Gl1Cur.mk x0.fcode (addI x0.fat 1) (y146_1 x0)), (wrapK .i64 (andK .u64 (shrK .u64 (y146_1 x0) 40) 255))))))))))))))
noncomputable def g146 (x0 : Gl1Cur) : Gl1Cur × Int := hid (T146 x0).val
noncomputable def k146 (x0 : Gl1Cur) : Bool := hid (T146 x0).okv
noncomputable def n146 (x0 : Gl1Cur) (r : Gl1Cur × Int) : SV × List Blk := ((.one (.lit (.int .i64 r.2))), [.box [.imm true 1 r.1.fcode, .lit (.int .i64 r.1.fat), .lit (.int .u64 r.1.fseed)]])
theorem e146 (x0 : Gl1Cur) : fnP qnil [(7, [.int .i64]), (11, [.imm 1]), (17, [.imm 1]), (21, [.int .i64]), (22, [.int .u8]), (23, [.int .u8]), (28, [.int .i64]), (36, [.int .u64]), (47, [.int .i64]), (51, [.imm 1]), (58, [.int .u64])] [] true [] 2097152 F146 [(.one (.ptr 0 0 0))] [.box [.imm true 1 x0.fcode, .lit (.int .i64 x0.fat), .lit (.int .u64 x0.fseed)]] = some ((T146 x0).map (n146 x0)) := by kernel_rfl
noncomputable def q146 : List SV → List Blk → Option ((SV × List Blk) × Bool)
  | [(.one (.ptr 0 0 0))], [.box [.imm true 1 c0, .lit (.int .i64 c1), .lit (.int .u64 c2)]] => some (n146 (Gl1Cur.mk c0 c1 c2) (g146 (Gl1Cur.mk c0 c1 c2)), k146 (Gl1Cur.mk c0 c1 c2))
  | _, _ => none
theorem t146 (args : List SV) (hp : List Blk) (r : SV × List Blk) (h : q146 args hp = some (r, true)) : frzR R 146 args hp = some r := by
  unfold q146 at h
  split at h
  · rename_i c0 c1 c2
    obtain ⟨hr, hk⟩ := Prod.mk.inj (Option.some.inj h)
    exact (frz_lo (by decide)).trans (R_fn at146 2097152 (fnP_c qnil_ok (loops_of (l := []) rfl trivial) (e146 (Gl1Cur.mk c0 c1 c2)) hr hk))
  · simp at h
noncomputable def Q146 : Qt := qcons 146 q146 qnil
theorem Q146_ok : QOk (frzR R) Q146 := qcons_ok t146 qnil_ok
/-! (*spec.l1Cur).pick -/
noncomputable def T73 (x1 : Int) (x0 : Gl1Cur) : Pt (Gl1Cur × Int) := (.ok true (.ok true (.br (leI x1 1) (.ok true (.ok true (.leaf (x0, 0)))) (.ok ((k146 x0) && true) (.ok true (.br (gtI x1 200) (.ok ((k146 (g146 x0).1) && true) (.ok ((neI x1 0) && true) (.ok true (.leaf ((g146 (g146 x0).1).1, (remI (addI (mulI (g146 x0).2 256) (g146 (g146 x0).1).2) x1)))))) (.ok ((neI x1 0) && true) (.ok true (.leaf ((g146 x0).1, (remI (g146 x0).2 x1)))))))))))
noncomputable def g73 (x1 : Int) (x0 : Gl1Cur) : Gl1Cur × Int := hid (T73 x1 x0).val
noncomputable def k73 (x1 : Int) (x0 : Gl1Cur) : Bool := hid (T73 x1 x0).okv
noncomputable def n73 (x1 : Int) (x0 : Gl1Cur) (r : Gl1Cur × Int) : SV × List Blk := ((.one (.lit (.int .i64 r.2))), [.box [.imm true 1 r.1.fcode, .lit (.int .i64 r.1.fat), .lit (.int .u64 r.1.fseed)]])
theorem e73 (x1 : Int) (x0 : Gl1Cur) : fnP Q146 [] [] true [] 2097152 F73 [(.one (.ptr 0 0 0)), (.one (.lit (.int .i64 x1)))] [.box [.imm true 1 x0.fcode, .lit (.int .i64 x0.fat), .lit (.int .u64 x0.fseed)]] = some ((T73 x1 x0).map (n73 x1 x0)) := by kernel_rfl
noncomputable def q73 : List SV → List Blk → Option ((SV × List Blk) × Bool)
  | [(.one (.ptr 0 0 0)), (.one (.lit (.int .i64 c0)))], [.box [.imm true 1 c1, .lit (.int .i64 c2), .lit (.int .u64 c3)]] => some (n73 c0 (Gl1Cur.mk c1 c2 c3) (g73 c0 (Gl1Cur.mk c1 c2 c3)), k73 c0 (Gl1Cur.mk c1 c2 c3))
  | _, _ => none
theorem t73 (args : List SV) (hp : List Blk) (r : SV × List Blk) (h : q73 args hp = some (r, true)) : frzR R 73 args hp = some r := by
  unfold q73 at h
  split at h
  · rename_i c0 c1 c2 c3
    obtain ⟨hr, hk⟩ := Prod.mk.inj (Option.some.inj h)
    exact (frz_lo (by decide)).trans (R_fn at73 2097152 (fnP_c Q146_ok (loops_of (l := []) rfl trivial) (e73 c0 (Gl1Cur.mk c1 c2 c3)) hr hk))
  · simp at h
noncomputable def Q73 : Qt := qcons 73 q73 Q146
theorem Q73_ok : QOk (frzR R) Q73 := qcons_ok t73 Q146_ok
/-! (*spec.l1Cur).bytes4 -/
structure V82_0 where
  mk ::
  (b0 : Gl1Cur)
  (s1 : Int)
  (s5 : List Row)
noncomputable def y82_0_l_0 (v : V82_0) : Nat := (List.length (v.s5 ++ [(rowI (g73 256 v.b0).2)]))
noncomputable def y82_0_l_1 (v : V82_0) : Bool := ((eqN (y82_0_l_0 v) (y82_0_l_0 v)) && true)
noncomputable def N82_0 (v : V82_0) : Pt (Option V82_0) := (.ok true (.br (gtI v.s1 0) (.ok ((k73 256 v.b0) && (((eqN (List.length v.s5) (List.length v.s5)) && ((eqN (0 + (List.length v.s5)) (List.length v.s5)) && ((leN (mulN ((List.length v.s5) + 1) 8) 140737488355328) && (leN ((List.length v.s5) + 1) 140737488355328)))) && true)) (.ok true (.ok ((y82_0_l_1 v) && (y82_0_l_1 v)) (.leaf (some (V82_0.mk (g73 256 v.b0).1 (subI v.s1 1) (v.s5 ++ [(rowI (g73 256 v.b0).2)]))))))) (.leaf none)))
noncomputable def s82_0 (v : V82_0) : St := ⟨[(0, (.one (.ptr 0 0 0))), (1, (.one (.lit (.int .i64 v.s1)))), (5, (.one (.sl 1 0 (List.length v.s5))))], [.box [.imm true 1 v.b0.fcode, .lit (.int .i64 v.b0.fat), .lit (.int .u64 v.b0.fseed)], .lst 1 v.s5]⟩
def u82_0 : St → Option (V82_0 × Bool)
  | ⟨[(0, (.one (.ptr 0 0 0))), (1, (.one (.lit (.int .i64 c3)))), (5, (.one (.sl 1 0 l1)))], [.box [.imm true 1 c0, .lit (.int .i64 c1), .lit (.int .u64 c2)], .lst 1 c_1]⟩ => some ((V82_0.mk (Gl1Cur.mk c0 c1 c2) c3 c_1), eqN l1 (List.length c_1) && (true))
  | _ => none
theorem hN82_0 (v : V82_0) : ((evp Q73 [] [] true [] 1 2097152 F82b0 (s82_0 v)).bind (stpT true false 1 [0, 1, 5])) = some ((N82_0 v).map (Option.map s82_0)) := by kernel_rfl
theorem hu82_0 (σ : St) (v : V82_0) (h : u82_0 σ = some (v, true)) : σ = s82_0 v := by
  unfold u82_0 at h
  split at h
  · obtain ⟨hr, hk⟩ := Prod.mk.inj (Option.some.inj h)
    obtain ⟨d0, hk0⟩ := and_t hk
    obtain rfl := of_decide_eq_true d0
    rw [← hr]
    rfl
  · simp at h
theorem lt82_0 : TellsP (lqP true false 1 [0, 1, 5] (evp Q73 [] [] true [] 1 2097152 F82b0) u82_0 s82_0 N82_0 2097152) (evc R 1 2097152 (.loop [0, 1, 5] F82b0)) := lqP_tells (evp_tells Q73_ok (loops_of (l := []) (by kernel_rfl) trivial)) hu82_0 hN82_0
noncomputable def lq82_0 : Lp := (6, lqP true false 1 [0, 1, 5] (evp Q73 [] [] true [] 1 2097152 F82b0) u82_0 s82_0 N82_0 2097152) :: []
noncomputable def w82_0 (v : V82_0) : V82_0 := (hid (loopV N82_0 2097152 v)).getD v
noncomputable def i82_0 (v : V82_0) : Bool := (hid (loopV N82_0 2097152 v)).isSome
noncomputable def y82_0 (x1 : Int) (x0 : Gl1Cur) : V82_0 := (w82_0 (V82_0.mk x0 x1 []))
noncomputable def y82_1 (x1 : Int) (x0 : Gl1Cur) : Bool := ((eqN (List.length (y82_0 x1 x0).s5) (List.length (y82_0 x1 x0).s5)) && true)
noncomputable def T82 (x1 : Int) (x0 : Gl1Cur) : Pt (Gl1Cur × List Row) := (.ok true (.ok true (.ok true (.ok true (.ok (i82_0 (V82_0.mk x0 x1 [])) (.ok true (.ok ((y82_1 x1 x0) && (y82_1 x1 x0)) (.leaf ((y82_0 x1 x0).b0, (y82_0 x1 x0).s5)))))))))
noncomputable def g82 (x1 : Int) (x0 : Gl1Cur) : Gl1Cur × List Row := hid (T82 x1 x0).val
noncomputable def k82 (x1 : Int) (x0 : Gl1Cur) : Bool := hid (T82 x1 x0).okv
noncomputable def n82 (x1 : Int) (x0 : Gl1Cur) (r : Gl1Cur × List Row) : SV × List Blk := ((.one (.sl 1 0 (List.length r.2))), [.box [.imm true 1 r.1.fcode, .lit (.int .i64 r.1.fat), .lit (.int .u64 r.1.fseed)], .lst 1 r.2])
theorem e82 (x1 : Int) (x0 : Gl1Cur) : fnP Q73 [] [] true lq82_0 2097152 F82 [(.one (.ptr 0 0 0)), (.one (.lit (.int .i64 x1)))] [.box [.imm true 1 x0.fcode, .lit (.int .i64 x0.fat), .lit (.int .u64 x0.fseed)]] = some ((T82 x1 x0).map (n82 x1 x0)) := by kernel_rfl
noncomputable def q82 : List SV → List Blk → Option ((SV × List Blk) × Bool)
  | [(.one (.ptr 0 0 0)), (.one (.lit (.int .i64 c0)))], [.box [.imm true 1 c1, .lit (.int .i64 c2), .lit (.int .u64 c3)]] => some (n82 c0 (Gl1Cur.mk c1 c2 c3) (g82 c0 (Gl1Cur.mk c1 c2 c3)), k82 c0 (Gl1Cur.mk c1 c2 c3))
  | _, _ => none
theorem hL82 : Loops (fun live x => TellsP (lpAt lq82_0 (tagC x)) (evc R 1 2097152 (.loop live x))) F82.body := (loops_of (l := [([0, 1, 5], F82b0)]) (by kernel_rfl) ⟨fun σ σr t h ho hl => lt82_0 σ σr t h ho hl, trivial⟩)
theorem t82 (args : List SV) (hp : List Blk) (r : SV × List Blk) (h : q82 args hp = some (r, true)) : frzR R 82 args hp = some r := by
  unfold q82 at h
  split at h
  · rename_i c0 c1 c2 c3
    obtain ⟨hr, hk⟩ := Prod.mk.inj (Option.some.inj h)
    exact (frz_lo (by decide)).trans (R_fn at82 2097152 (fnP_c Q73_ok hL82 (e82 c0 (Gl1Cur.mk c1 c2 c3)) hr hk))
  · simp at h
noncomputable def Q82 : Qt := qcons 82 q82 Q73
theorem Q82_ok : QOk (frzR R) Q82 := qcons_ok t82 Q73_ok
/-! spec.l1In -/
noncomputable def T78 (x0 : Int) (x1 : Int) (x2 : Int) : Pt (Bool) := (.ok true (.ok true (.ok true (.ok true (.leaf (bif (geI x0 x1) then (leI x0 x2) else false))))))
noncomputable def g78 (x0 : Int) (x1 : Int) (x2 : Int) : Bool := hid (T78 x0 x1 x2).val
noncomputable def k78 (x0 : Int) (x1 : Int) (x2 : Int) : Bool := hid (T78 x0 x1 x2).okv
noncomputable def n78 (x0 : Int) (x1 : Int) (x2 : Int) (r : Bool) : SV × List Blk := ((.one (.lit (.bool r))), [])
theorem e78 (x0 : Int) (x1 : Int) (x2 : Int) : fnZ Q82 [] [] true [] 2097152 F78 [(.one (.lit (.int .i64 x0))), (.one (.lit (.int .i64 x1))), (.one (.lit (.int .i64 x2)))] = some ((T78 x0 x1 x2).map (n78 x0 x1 x2)) := by kernel_rfl
noncomputable def q78 : List SV → List Blk → Option ((SV × List Blk) × Bool)
  | [(.one (.lit (.int .i64 c0))), (.one (.lit (.int .i64 c1))), (.one (.lit (.int .i64 c2)))], [] => some (n78 c0 c1 c2 (g78 c0 c1 c2), k78 c0 c1 c2)
  | _, _ => none
theorem t78 (args : List SV) (hp : List Blk) (r : SV × List Blk) (h : q78 args hp = some (r, true)) : frzR R 100078 args hp = some r := by
  unfold q78 at h
  split at h
  · rename_i c0 c1 c2
    obtain ⟨hr, hk⟩ := Prod.mk.inj (Option.some.inj h)
    exact fnZ_c (f := 78) Q82_ok (loops_of (l := []) rfl trivial) (e78 c0 c1 c2) hr hk (fun r h => R_fn at78 2097152 h)
  · simp at h
noncomputable def Q78 : Qt := qcons 100078 q78 Q82
theorem Q78_ok : QOk (frzR R) Q78 := qcons_ok t78 Q82_ok
/-! spec.l4Bytes -/
structure V85_0 where
  mk ::
  (s5 : List Row)
  (s6 : Int)
  (s7 : Int)
noncomputable def N85_0 (v : V85_0) : Pt (Option V85_0) := (.ok true (.br (ltI v.s7 v.s6) (.ok ((inRow [.int .i64] v.s5 v.s7) && true) (.ok ((k78 (intAt v.s5 (Int.toNat v.s7) 0) 0 255) && true) (.br (!(g78 (intAt v.s5 (Int.toNat v.s7) 0) 0 255)) (.ok true (.leaf none)) (.ok true (.ok true (.leaf (some { v with s7 := (addI v.s7 1) }))))))) (.leaf none)))
noncomputable def s85_0 (v : V85_0) : St := ⟨[(5, (.one (.imm false 1 v.s5))), (6, (.one (.lit (.int .i64 v.s6)))), (7, (.one (.lit (.int .i64 v.s7))))], []⟩
def u85_0 : St → Option (V85_0 × Bool)
  | ⟨[(5, (.one (.imm false 1 c0))), (6, (.one (.lit (.int .i64 c1)))), (7, (.one (.lit (.int .i64 c2))))], []⟩ => some ((V85_0.mk c0 c1 c2), true)
  | _ => none
theorem hN85_0 (v : V85_0) : ((evp Q78 [(9, [.int .i64]), (10, [.int .i64])] [] true [] 0 2097152 F85b0 (s85_0 v)).bind (stpT true false 0 [5, 6, 7])) = some ((N85_0 v).map (Option.map s85_0)) := by kernel_rfl
theorem hu85_0 (σ : St) (v : V85_0) (h : u85_0 σ = some (v, true)) : σ = s85_0 v := by
  unfold u85_0 at h
  split at h
  · obtain ⟨hr, hk⟩ := Prod.mk.inj (Option.some.inj h)
    rw [← hr]
    rfl
  · simp at h
theorem lt85_0 : TellsP (lqP true false 0 [5, 6, 7] (evp Q78 [(9, [.int .i64]), (10, [.int .i64])] [] true [] 0 2097152 F85b0) u85_0 s85_0 N85_0 2097152) (evc R 0 2097152 (.loop [5, 6, 7] F85b0)) := lqP_tells (evp_tells Q78_ok (loops_of (l := []) (by kernel_rfl) trivial)) hu85_0 hN85_0
noncomputable def lq85_0 : Lp := (8, lqP true false 0 [5, 6, 7] (evp Q78 [(9, [.int .i64]), (10, [.int .i64])] [] true [] 0 2097152 F85b0) u85_0 s85_0 N85_0 2097152) :: []
noncomputable def w85_0 (v : V85_0) : V85_0 := (hid (loopV N85_0 2097152 v)).getD v
noncomputable def i85_0 (v : V85_0) : Bool := (hid (loopV N85_0 2097152 v)).isSome
noncomputable def y85_0 (x0 : List Row) : V85_0 := (w85_0 (V85_0.mk x0 (lenI x0) 0))
noncomputable def T85 (x0 : List Row) : Pt (Bool) := (.ok true (.ok true (.ok true (.ok true (.ok (i85_0 (V85_0.mk x0 (lenI x0) 0)) (.br (ltI (y85_0 x0).s7 (y85_0 x0).s6) (.ok true (.ok true (.leaf false))) (.ok true (.ok true (.ok true (.leaf true))))))))))
noncomputable def g85 (x0 : List Row) : Bool := hid (T85 x0).val
noncomputable def k85 (x0 : List Row) : Bool := hid (T85 x0).okv
noncomputable def n85 (x0 : List Row) (r : Bool) : SV × List Blk := ((.one (.lit (.bool r))), [])
theorem e85 (x0 : List Row) : fnZ Q78 [(9, [.int .i64]), (10, [.int .i64])] [] true lq85_0 2097152 F85 [(.one (.imm false 1 x0))] = some ((T85 x0).map (n85 x0)) := by kernel_rfl
noncomputable def q85 : List SV → List Blk → Option ((SV × List Blk) × Bool)
  | [(.one (.imm false 1 c0))], [] => some (n85 c0 (g85 c0), k85 c0)
  | _, _ => none
theorem hL85 : Loops (fun live x => TellsP (lpAt lq85_0 (tagC x)) (evc R 0 2097152 (.loop live x))) F85.body := (loops_of (l := [([5, 6, 7], F85b0)]) (by kernel_rfl) ⟨fun σ σr t h ho hl => lt85_0 σ σr t h ho hl, trivial⟩)
theorem t85 (args : List SV) (hp : List Blk) (r : SV × List Blk) (h : q85 args hp = some (r, true)) : frzR R 100085 args hp = some r := by
  unfold q85 at h
  split at h
  · rename_i c0
    obtain ⟨hr, hk⟩ := Prod.mk.inj (Option.some.inj h)
    exact fnZ_c (f := 85) Q78_ok hL85 (e85 c0) hr hk (fun r h => R_fn at85 2097152 h)
  · simp at h
noncomputable def Q85 : Qt := qcons 100085 q85 Q78
theorem Q85_ok : QOk (frzR R) Q85 := qcons_ok t85 Q78_ok
/-! spec.NewBus -/
structure V18_0 where
  mk ::
  (b0 : GBus)
  (b1 : GBus)
  (s1 : List Row)
  (s32 : List Row)
  (s33 : Int)
  (s34 : Int)
noncomputable def y18_0_l_0 (v : V18_0) : Bool := (eqN (List.length v.b0.Bytes) (List.length v.b0.Bytes))
noncomputable def y18_0_l_1 (v : V18_0) : Bool := (eqN (List.length v.b0.Log) (List.length v.b0.Log))
noncomputable def y18_0_l_2 (v : V18_0) : Bool := ((y18_0_l_0 v) && ((y18_0_l_1 v) && true))
noncomputable def y18_0_l_3 (v : V18_0) : Bool := ((eqN (List.length v.b1.Log) (List.length v.b1.Log)) && true)
noncomputable def y18_0_l_4 (v : V18_0) : List Row := (List.set v.b1.Bytes (0 + (Int.toNat v.s34)) (rowI (intAt v.s32 (Int.toNat v.s34) 0)))
noncomputable def y18_0_l_5 (v : V18_0) : Bool := ((eqN (List.length v.b1.Bytes) (List.length (y18_0_l_4 v))) && (y18_0_l_3 v))
noncomputable def N18_0 (v : V18_0) : Pt (Option V18_0) := (.ok true (.br (ltI v.s34 v.s33) (.ok ((inRow [.int .i64] v.s32 v.s34) && true) (.ok (((leI 0 v.s34) && (ltI v.s34 (lenI v.b1.Bytes))) && (((blt (0 + (Int.toNat v.s34)) (List.length v.b1.Bytes)) && (beqN (rlen v.b1.Bytes (0 + (Int.toNat v.s34))) 1)) && true)) (.ok true (.ok ((((y18_0_l_2 v) && (((eqN (List.length v.b1.Bytes) (List.length v.b1.Bytes)) && (y18_0_l_3 v)) && ((y18_0_l_0 v) && ((y18_0_l_1 v) && (y18_0_l_5 v))))) && true) && ((y18_0_l_2 v) && ((y18_0_l_5 v) && true))) (.leaf (some { v with b1 := { v.b1 with Bytes := (y18_0_l_4 v) }, s34 := (addI v.s34 1) })))))) (.leaf none)))
noncomputable def s18_0 (v : V18_0) : St := ⟨[(1, (.one (.imm false 1 v.s1))), (4, (.one (.ptr 0 0 0))), (6, (.one (.ptr 1 0 0))), (32, (.one (.imm false 1 v.s32))), (33, (.one (.lit (.int .i64 v.s33)))), (34, (.one (.lit (.int .i64 v.s34))))], [.box [.sl 2 0 (List.length v.b0.Bytes), .sl 3 0 (List.length v.b0.Log)], .box [.sl 4 0 (List.length v.b1.Bytes), .sl 5 0 (List.length v.b1.Log)], .lst 1 v.b0.Bytes, .lst 5 v.b0.Log, .lst 1 v.b1.Bytes, .lst 5 v.b1.Log]⟩
def u18_0 : St → Option (V18_0 × Bool)
  | ⟨[(1, (.one (.imm false 1 c0))), (4, (.one (.ptr 0 0 0))), (6, (.one (.ptr 1 0 0))), (32, (.one (.imm false 1 c1))), (33, (.one (.lit (.int .i64 c2)))), (34, (.one (.lit (.int .i64 c3))))], [.box [.sl 2 0 l2, .sl 3 0 l3], .box [.sl 4 0 l4, .sl 5 0 l5], .lst 1 c_2, .lst 5 c_3, .lst 1 c_4, .lst 5 c_5]⟩ => some ((V18_0.mk (GBus.mk c_2 c_3) (GBus.mk c_4 c_5) c0 c1 c2 c3), eqN l2 (List.length c_2) && (eqN l3 (List.length c_3) && (eqN l4 (List.length c_4) && (eqN l5 (List.length c_5) && (true)))))
  | _ => none
theorem hN18_0 (v : V18_0) : ((evp Q85 [(37, [.int .i64]), (38, [.int .i64]), (40, [.imm 1]), (43, [.int .i64]), (50, [.int .i64]), (51, [.int .i64]), (53, [.imm 1]), (57, [.int .i64]), (59, [.imm 1, .imm 5]), (1000003, [])] [] true [] 0 2097152 F18b0 (s18_0 v)).bind (stpT true true 0 [1, 4, 6, 32, 33, 34])) = some ((N18_0 v).map (Option.map s18_0)) := by kernel_rfl
theorem hu18_0 (σ : St) (v : V18_0) (h : u18_0 σ = some (v, true)) : σ = s18_0 v := by
  unfold u18_0 at h
  split at h
  · obtain ⟨hr, hk⟩ := Prod.mk.inj (Option.some.inj h)
    obtain ⟨d0, hk0⟩ := and_t hk
    obtain ⟨d1, hk1⟩ := and_t hk0
    obtain ⟨d2, hk2⟩ := and_t hk1
    obtain ⟨d3, hk3⟩ := and_t hk2
    obtain rfl := of_decide_eq_true d0
    obtain rfl := of_decide_eq_true d1
    obtain rfl := of_decide_eq_true d2
    obtain rfl := of_decide_eq_true d3
    rw [← hr]
    rfl
  · simp at h
theorem lt18_0 : TellsP (lqP true true 0 [1, 4, 6, 32, 33, 34] (evp Q85 [(37, [.int .i64]), (38, [.int .i64]), (40, [.imm 1]), (43, [.int .i64]), (50, [.int .i64]), (51, [.int .i64]), (53, [.imm 1]), (57, [.int .i64]), (59, [.imm 1, .imm 5]), (1000003, [])] [] true [] 0 2097152 F18b0) u18_0 s18_0 N18_0 2097152) (evc R 0 2097152 (.loop [1, 4, 6, 32, 33, 34] F18b0)) := lqP_tells (evp_tells Q85_ok (loops_of (l := []) (by kernel_rfl) trivial)) hu18_0 hN18_0
noncomputable def lq18_0 : Lp := (35, lqP true true 0 [1, 4, 6, 32, 33, 34] (evp Q85 [(37, [.int .i64]), (38, [.int .i64]), (40, [.imm 1]), (43, [.int .i64]), (50, [.int .i64]), (51, [.int .i64]), (53, [.imm 1]), (57, [.int .i64]), (59, [.imm 1, .imm 5]), (1000003, [])] [] true [] 0 2097152 F18b0) u18_0 s18_0 N18_0 2097152) :: []
noncomputable def w18_0 (v : V18_0) : V18_0 := (hid (loopV N18_0 2097152 v)).getD v
noncomputable def i18_0 (v : V18_0) : Bool := (hid (loopV N18_0 2097152 v)).isSome
structure V18_1 where
  mk ::
  (b0 : GBus)
  (b1 : GBus)
  (s45 : List Row)
  (s46 : Int)
  (s47 : Int)
noncomputable def y18_1_l_0 (v : V18_1) : Bool := (eqN (List.length v.b0.Bytes) (List.length v.b0.Bytes))
noncomputable def y18_1_l_1 (v : V18_1) : Bool := (eqN (List.length v.b0.Log) (List.length v.b0.Log))
noncomputable def y18_1_l_2 (v : V18_1) : Bool := ((y18_1_l_0 v) && ((y18_1_l_1 v) && true))
noncomputable def y18_1_l_3 (v : V18_1) : Bool := ((eqN (List.length v.b1.Log) (List.length v.b1.Log)) && true)
noncomputable def y18_1_l_4 (v : V18_1) : List Row := (List.set v.b1.Bytes (0 + (Int.toNat (addI 384 v.s47))) (rowI (intAt v.s45 (Int.toNat v.s47) 0)))
noncomputable def y18_1_l_5 (v : V18_1) : Bool := ((eqN (List.length v.b1.Bytes) (List.length (y18_1_l_4 v))) && (y18_1_l_3 v))
noncomputable def N18_1 (v : V18_1) : Pt (Option V18_1) := (.ok true (.br (ltI v.s47 v.s46) (.ok ((inRow [.int .i64] v.s45 v.s47) && true) (.ok (((leI 0 (addI 384 v.s47)) && (ltI (addI 384 v.s47) (lenI v.b1.Bytes))) && (((blt (0 + (Int.toNat (addI 384 v.s47))) (List.length v.b1.Bytes)) && (beqN (rlen v.b1.Bytes (0 + (Int.toNat (addI 384 v.s47)))) 1)) && true)) (.ok true (.ok ((((y18_1_l_2 v) && (((eqN (List.length v.b1.Bytes) (List.length v.b1.Bytes)) && (y18_1_l_3 v)) && ((y18_1_l_0 v) && ((y18_1_l_1 v) && (y18_1_l_5 v))))) && true) && ((y18_1_l_2 v) && ((y18_1_l_5 v) && true))) (.leaf (some { v with b1 := { v.b1 with Bytes := (y18_1_l_4 v) }, s47 := (addI v.s47 1) })))))) (.leaf none)))
noncomputable def s18_1 (v : V18_1) : St := ⟨[(4, (.one (.ptr 0 0 0))), (6, (.one (.ptr 1 0 0))), (45, (.one (.imm false 1 v.s45))), (46, (.one (.lit (.int .i64 v.s46)))), (47, (.one (.lit (.int .i64 v.s47))))], [.box [.sl 2 0 (List.length v.b0.Bytes), .sl 3 0 (List.length v.b0.Log)], .box [.sl 4 0 (List.length v.b1.Bytes), .sl 5 0 (List.length v.b1.Log)], .lst 1 v.b0.Bytes, .lst 5 v.b0.Log, .lst 1 v.b1.Bytes, .lst 5 v.b1.Log]⟩
def u18_1 : St → Option (V18_1 × Bool)
  | ⟨[(4, (.one (.ptr 0 0 0))), (6, (.one (.ptr 1 0 0))), (45, (.one (.imm false 1 c0))), (46, (.one (.lit (.int .i64 c1)))), (47, (.one (.lit (.int .i64 c2))))], [.box [.sl 2 0 l2, .sl 3 0 l3], .box [.sl 4 0 l4, .sl 5 0 l5], .lst 1 c_2, .lst 5 c_3, .lst 1 c_4, .lst 5 c_5]⟩ => some ((V18_1.mk (GBus.mk c_2 c_3) (GBus.mk c_4 c_5) c0 c1 c2), eqN l2 (List.length c_2) && (eqN l3 (List.length c_3) && (eqN l4 (List.length c_4) && (eqN l5 (List.length c_5) && (true)))))
  | _ => none
theorem hN18_1 (v : V18_1) : ((evp Q85 [(37, [.int .i64]), (38, [.int .i64]), (40, [.imm 1]), (43, [.int .i64]), (50, [.int .i64]), (51, [.int .i64]), (53, [.imm 1]), (57, [.int .i64]), (59, [.imm 1, .imm 5]), (1000003, [])] [] true lq18_0 0 2097152 F18b1 (s18_1 v)).bind (stpT true true 0 [4, 6, 45, 46, 47])) = some ((N18_1 v).map (Option.map s18_1)) := by kernel_rfl
theorem hu18_1 (σ : St) (v : V18_1) (h : u18_1 σ = some (v, true)) : σ = s18_1 v := by
  unfold u18_1 at h
  split at h
  · obtain ⟨hr, hk⟩ := Prod.mk.inj (Option.some.inj h)
    obtain ⟨d0, hk0⟩ := and_t hk
    obtain ⟨d1, hk1⟩ := and_t hk0
    obtain ⟨d2, hk2⟩ := and_t hk1
    obtain ⟨d3, hk3⟩ := and_t hk2
    obtain rfl := of_decide_eq_true d0
    obtain rfl := of_decide_eq_true d1
    obtain rfl := of_decide_eq_true d2
    obtain rfl := of_decide_eq_true d3
    rw [← hr]
    rfl
  · simp at h
theorem lt18_1 : TellsP (lqP true true 0 [4, 6, 45, 46, 47] (evp Q85 [(37, [.int .i64]), (38, [.int .i64]), (40, [.imm 1]), (43, [.int .i64]), (50, [.int .i64]), (51, [.int .i64]), (53, [.imm 1]), (57, [.int .i64]), (59, [.imm 1, .imm 5]), (1000003, [])] [] true lq18_0 0 2097152 F18b1) u18_1 s18_1 N18_1 2097152) (evc R 0 2097152 (.loop [4, 6, 45, 46, 47] F18b1)) := lqP_tells (evp_tells Q85_ok (loops_of (l := []) (by kernel_rfl) trivial)) hu18_1 hN18_1
noncomputable def lq18_1 : Lp := (48, lqP true true 0 [4, 6, 45, 46, 47] (evp Q85 [(37, [.int .i64]), (38, [.int .i64]), (40, [.imm 1]), (43, [.int .i64]), (50, [.int .i64]), (51, [.int .i64]), (53, [.imm 1]), (57, [.int .i64]), (59, [.imm 1, .imm 5]), (1000003, [])] [] true lq18_0 0 2097152 F18b1) u18_1 s18_1 N18_1 2097152) :: lq18_0
noncomputable def w18_1 (v : V18_1) : V18_1 := (hid (loopV N18_1 2097152 v)).getD v
noncomputable def i18_1 (v : V18_1) : Bool := (hid (loopV N18_1 2097152 v)).isSome
noncomputable def y18_0 (x0 : List Row) (x1 : List Row) : V18_0 := (w18_0 (V18_0.mk (GBus.mk [] []) (GBus.mk (List.replicate 512 (rowI 0)) []) x1 x0 (lenI x0) 0))
noncomputable def y18_1 (x0 : List Row) (x1 : List Row) : Bool := (eqN (List.length (y18_0 x0 x1).b0.Bytes) (List.length (y18_0 x0 x1).b0.Bytes))
noncomputable def y18_2 (x0 : List Row) (x1 : List Row) : Bool := (eqN (List.length (y18_0 x0 x1).b0.Log) (List.length (y18_0 x0 x1).b0.Log))
noncomputable def y18_3 (x0 : List Row) (x1 : List Row) : Bool := ((y18_1 x0 x1) && ((y18_2 x0 x1) && true))
noncomputable def y18_4 (x0 : List Row) (x1 : List Row) : Bool := ((eqN (List.length (y18_0 x0 x1).b1.Bytes) (List.length (y18_0 x0 x1).b1.Bytes)) && ((eqN (List.length (y18_0 x0 x1).b1.Log) (List.length (y18_0 x0 x1).b1.Log)) && true))
noncomputable def y18_5 (x0 : List Row) (x1 : List Row) : Bool := ((y18_1 x0 x1) && ((y18_2 x0 x1) && (y18_4 x0 x1)))
noncomputable def y18_6 (x0 : List Row) (x1 : List Row) : Nat := (List.length (w18_1 (V18_1.mk (y18_0 x0 x1).b0 (y18_0 x0 x1).b1 (y18_0 x0 x1).s1 (lenI (y18_0 x0 x1).s1) 0)).b1.Bytes)
noncomputable def y18_7 (x0 : List Row) (x1 : List Row) : Nat := (List.length (w18_1 (V18_1.mk (y18_0 x0 x1).b0 (y18_0 x0 x1).b1 (y18_0 x0 x1).s1 (lenI (y18_0 x0 x1).s1) 0)).b1.Log)
noncomputable def y18_8 (x0 : List Row) (x1 : List Row) : Bool := ((eqN (y18_6 x0 x1) (y18_6 x0 x1)) && ((eqN (y18_7 x0 x1) (y18_7 x0 x1)) && true))
noncomputable def T18 (x0 : List Row) (x1 : List Row) : Pt (GBus × Bool) := (.ok true (.ok ((k85 x0) && ((((k85 x1) && true) || (!(g85 x0))) && true)) (.br (bif (bif (bif (!(g85 x0)) then true else (!(g85 x1))) then true else (gtI (lenI x0) 384)) then true else (gtI (lenI x1) 64)) (.ok true (.ok true (.leaf ((GBus.mk [] []), false)))) (.ok true (.ok true (.ok true (.ok true (.ok (i18_0 (V18_0.mk (GBus.mk [] []) (GBus.mk (List.replicate 512 (rowI 0)) []) x1 x0 (lenI x0) 0)) (.ok true (.ok ((((y18_3 x0 x1) && ((y18_4 x0 x1) && (y18_5 x0 x1))) && true) && ((y18_3 x0 x1) && ((y18_4 x0 x1) && true))) (.ok (y18_5 x0 x1) (.ok (i18_1 (V18_1.mk (y18_0 x0 x1).b0 (y18_0 x0 x1).b1 (y18_0 x0 x1).s1 (lenI (y18_0 x0 x1).s1) 0)) (.ok true (.ok ((y18_8 x0 x1) && ((y18_8 x0 x1) && true)) (.leaf ((w18_1 (V18_1.mk (y18_0 x0 x1).b0 (y18_0 x0 x1).b1 (y18_0 x0 x1).s1 (lenI (y18_0 x0 x1).s1) 0)).b1, true))))))))))))))))
noncomputable def g18 (x0 : List Row) (x1 : List Row) : GBus × Bool := hid (T18 x0 x1).val
noncomputable def k18 (x0 : List Row) (x1 : List Row) : Bool := hid (T18 x0 x1).okv
noncomputable def n18 (x0 : List Row) (x1 : List Row) (r : GBus × Bool) : SV × List Blk := ((.tup [(.agg [.sl 0 0 (List.length r.1.Bytes), .sl 1 0 (List.length r.1.Log)]), (.one (.lit (.bool r.2)))]), [.lst 1 r.1.Bytes, .lst 5 r.1.Log])
theorem e18 (x0 : List Row) (x1 : List Row) : fnP Q85 [(37, [.int .i64]), (38, [.int .i64]), (40, [.imm 1]), (43, [.int .i64]), (50, [.int .i64]), (51, [.int .i64]), (53, [.imm 1]), (57, [.int .i64]), (59, [.imm 1, .imm 5]), (1000003, [])] [] true lq18_1 2097152 F18 [(.one (.imm false 1 x0)), (.one (.imm false 1 x1))] [] = some ((T18 x0 x1).map (n18 x0 x1)) := by kernel_rfl
noncomputable def q18 : List SV → List Blk → Option ((SV × List Blk) × Bool)
  | [(.one (.imm false 1 c0)), (.one (.imm false 1 c1))], [] => some (n18 c0 c1 (g18 c0 c1), k18 c0 c1)
  | _, _ => none
theorem hL18 : Loops (fun live x => TellsP (lpAt lq18_1 (tagC x)) (evc R 0 2097152 (.loop live x))) F18.body := (loops_of (l := [([1, 4, 6, 32, 33, 34], F18b0), ([4, 6, 45, 46, 47], F18b1)]) (by kernel_rfl) ⟨fun σ σr t h ho hl => lt18_0 σ σr t h ho hl, fun σ σr t h ho hl => lt18_1 σ σr t h ho hl, trivial⟩)
theorem t18 (args : List SV) (hp : List Blk) (r : SV × List Blk) (h : q18 args hp = some (r, true)) : frzR R 18 args hp = some r := by
  unfold q18 at h
  split at h
  · rename_i c0 c1
    obtain ⟨hr, hk⟩ := Prod.mk.inj (Option.some.inj h)
    exact (frz_lo (by decide)).trans (R_fn at18 2097152 (fnP_c Q85_ok hL18 (e18 c0 c1) hr hk))
  · simp at h
noncomputable def Q18 : Qt := qcons 18 q18 Q85
theorem Q18_ok : QOk (frzR R) Q18 := qcons_ok t18 Q85_ok
/-! (*spec.l1Cur).among -/
noncomputable def T91 (x1 : List Row) (x0 : Gl1Cur) : Pt (Gl1Cur × Int) := (.ok true (.ok ((k73 (lenI x1) x0) && ((inRow [.int .i64] x1 (g73 (lenI x1) x0).2) && true)) (.ok true (.leaf ((g73 (lenI x1) x0).1, (intAt x1 (Int.toNat (g73 (lenI x1) x0).2) 0))))))
noncomputable def g91 (x1 : List Row) (x0 : Gl1Cur) : Gl1Cur × Int := hid (T91 x1 x0).val
noncomputable def k91 (x1 : List Row) (x0 : Gl1Cur) : Bool := hid (T91 x1 x0).okv
noncomputable def n91 (x1 : List Row) (x0 : Gl1Cur) (r : Gl1Cur × Int) : SV × List Blk := ((.one (.lit (.int .i64 r.2))), [.box [.imm true 1 r.1.fcode, .lit (.int .i64 r.1.fat), .lit (.int .u64 r.1.fseed)]])
theorem e91 (x1 : List Row) (x0 : Gl1Cur) : fnP Q18 [(10, [.int .i64]), (11, [.int .i64])] [] true [] 2097152 F91 [(.one (.ptr 0 0 0)), (.one (.imm false 1 x1))] [.box [.imm true 1 x0.fcode, .lit (.int .i64 x0.fat), .lit (.int .u64 x0.fseed)]] = some ((T91 x1 x0).map (n91 x1 x0)) := by kernel_rfl
noncomputable def q91 : List SV → List Blk → Option ((SV × List Blk) × Bool)
  | [(.one (.ptr 0 0 0)), (.one (.imm false 1 c0))], [.box [.imm true 1 c1, .lit (.int .i64 c2), .lit (.int .u64 c3)]] => some (n91 c0 (Gl1Cur.mk c1 c2 c3) (g91 c0 (Gl1Cur.mk c1 c2 c3)), k91 c0 (Gl1Cur.mk c1 c2 c3))
  | _, _ => none
theorem t91 (args : List SV) (hp : List Blk) (r : SV × List Blk) (h : q91 args hp = some (r, true)) : frzR R 91 args hp = some r := by
  unfold q91 at h
  split at h
  · rename_i c0 c1 c2 c3
    obtain ⟨hr, hk⟩ := Prod.mk.inj (Option.some.inj h)
    exact (frz_lo (by decide)).trans (R_fn at91 2097152 (fnP_c Q18_ok (loops_of (l := []) rfl trivial) (e91 c0 (Gl1Cur.mk c1 c2 c3)) hr hk))
  · simp at h
noncomputable def Q91 : Qt := qcons 91 q91 Q18
theorem Q91_ok : QOk (frzR R) Q91 := qcons_ok t91 Q18_ok
/-! (*spec.l1Cur).addr -/
noncomputable def y79_0 (x0 : Gl1Cur) : Gl1Cur × Int := (g91 [(rowI 0), (rowI 1), (rowI 2), (rowI 100), (rowI 383), (rowI 384), (rowI 446), (rowI 447), (rowI 448), (rowI 494), (rowI 495), (rowI 496), (rowI 510), (rowI 511), (rowI 512), (rowI 65535), (rowI (-1)), (rowI 65536), (rowI 20), (rowI 30)] x0)
noncomputable def T79 (x0 : Gl1Cur) : Pt (Gl1Cur × Int) := (.ok true (.ok ((k91 [(rowI 0), (rowI 1), (rowI 2), (rowI 100), (rowI 383), (rowI 384), (rowI 446), (rowI 447), (rowI 448), (rowI 494), (rowI 495), (rowI 496), (rowI 510), (rowI 511), (rowI 512), (rowI 65535), (rowI (-1)), (rowI 65536), (rowI 20), (rowI 30)] x0) && true) (.ok true (.leaf ((y79_0 x0).1, (y79_0 x0).2)))))
noncomputable def g79 (x0 : Gl1Cur) : Gl1Cur × Int := hid (T79 x0).val
noncomputable def k79 (x0 : Gl1Cur) : Bool := hid (T79 x0).okv
noncomputable def n79 (x0 : Gl1Cur) (r : Gl1Cur × Int) : SV × List Blk := ((.one (.lit (.int .i64 r.2))), [.box [.imm true 1 r.1.fcode, .lit (.int .i64 r.1.fat), .lit (.int .u64 r.1.fseed)]])
theorem e79 (x0 : Gl1Cur) : fnP Q91 [] [] true [] 2097152 F79 [(.one (.ptr 0 0 0))] [.box [.imm true 1 x0.fcode, .lit (.int .i64 x0.fat), .lit (.int .u64 x0.fseed)]] = some ((T79 x0).map (n79 x0)) := by kernel_rfl
noncomputable def q79 : List SV → List Blk → Option ((SV × List Blk) × Bool)
  | [(.one (.ptr 0 0 0))], [.box [.imm true 1 c0, .lit (.int .i64 c1), .lit (.int .u64 c2)]] => some (n79 (Gl1Cur.mk c0 c1 c2) (g79 (Gl1Cur.mk c0 c1 c2)), k79 (Gl1Cur.mk c0 c1 c2))
  | _, _ => none
theorem t79 (args : List SV) (hp : List Blk) (r : SV × List Blk) (h : q79 args hp = some (r, true)) : frzR R 79 args hp = some r := by
  unfold q79 at h
  split at h
  · rename_i c0 c1 c2
    obtain ⟨hr, hk⟩ := Prod.mk.inj (Option.some.inj h)
    exact (frz_lo (by decide)).trans (R_fn at79 2097152 (fnP_c Q91_ok (loops_of (l := []) rfl trivial) (e79 (Gl1Cur.mk c0 c1 c2)) hr hk))
  · simp at h
noncomputable def Q79 : Qt := qcons 79 q79 Q91
theorem Q79_ok : QOk (frzR R) Q79 := qcons_ok t79 Q91_ok
/-! spec.l1Size -/
noncomputable def T155 (x0 : Int) : Pt (Bool) := (.ok true (.ok true (.ok true (.ok true (.leaf (bif (eqI x0 1) then true else (eqI x0 2)))))))
noncomputable def g155 (x0 : Int) : Bool := hid (T155 x0).val
noncomputable def k155 (x0 : Int) : Bool := hid (T155 x0).okv
noncomputable def n155 (x0 : Int) (r : Bool) : SV × List Blk := ((.one (.lit (.bool r))), [])
theorem e155 (x0 : Int) : fnZ Q79 [] [] true [] 2097152 F155 [(.one (.lit (.int .i64 x0)))] = some ((T155 x0).map (n155 x0)) := by kernel_rfl
noncomputable def q155 : List SV → List Blk → Option ((SV × List Blk) × Bool)
  | [(.one (.lit (.int .i64 c0)))], [] => some (n155 c0 (g155 c0), k155 c0)
  | _, _ => none
theorem t155 (args : List SV) (hp : List Blk) (r : SV × List Blk) (h : q155 args hp = some (r, true)) : frzR R 100155 args hp = some r := by
  unfold q155 at h
  split at h
  · rename_i c0
    obtain ⟨hr, hk⟩ := Prod.mk.inj (Option.some.inj h)
    exact fnZ_c (f := 155) Q79_ok (loops_of (l := []) rfl trivial) (e155 c0) hr hk (fun r h => R_fn at155 2097152 h)
  · simp at h
noncomputable def Q155 : Qt := qcons 100155 q155 Q79
theorem Q155_ok : QOk (frzR R) Q155 := qcons_ok t155 Q79_ok
/-! spec.l1Top -/
noncomputable def T156 (x0 : Int) : Pt (Int) := (.ok true (.ok ((leI 0 (wrapK .u64 (mulI 8 x0))) && true) (.ok true (.ok true (.leaf (shlI 1 (wrapK .u64 (mulI 8 x0))))))))
noncomputable def g156 (x0 : Int) : Int := hid (T156 x0).val
noncomputable def k156 (x0 : Int) : Bool := hid (T156 x0).okv
noncomputable def n156 (x0 : Int) (r : Int) : SV × List Blk := ((.one (.lit (.int .i64 r))), [])
theorem e156 (x0 : Int) : fnZ Q155 [] [] true [] 2097152 F156 [(.one (.lit (.int .i64 x0)))] = some ((T156 x0).map (n156 x0)) := by kernel_rfl
noncomputable def q156 : List SV → List Blk → Option ((SV × List Blk) × Bool)
  | [(.one (.lit (.int .i64 c0)))], [] => some (n156 c0 (g156 c0), k156 c0)
  | _, _ => none
theorem t156 (args : List SV) (hp : List Blk) (r : SV × List Blk) (h : q156 args hp = some (r, true)) : frzR R 100156 args hp = some r := by
  unfold q156 at h
  split at h
  · rename_i c0
    obtain ⟨hr, hk⟩ := Prod.mk.inj (Option.some.inj h)
    exact fnZ_c (f := 156) Q155_ok (loops_of (l := []) rfl trivial) (e156 c0) hr hk (fun r h => R_fn at156 2097152 h)
  · simp at h
noncomputable def Q156 : Qt := qcons 100156 q156 Q155
theorem Q156_ok : QOk (frzR R) Q156 := qcons_ok t156 Q155_ok
/-! spec.l1Value -/
noncomputable def T98 (x0 : Int) (x1 : Int) : Pt (Bool) := (.ok true (.ok ((k155 x0) && ((((k156 x0) && ((k78 x1 0 (subI (g156 x0) 1)) && true)) || (!(g155 x0))) && true)) (.ok true (.ok true (.leaf (bif (g155 x0) then (g78 x1 0 (subI (g156 x0) 1)) else false))))))
noncomputable def g98 (x0 : Int) (x1 : Int) : Bool := hid (T98 x0 x1).val
noncomputable def k98 (x0 : Int) (x1 : Int) : Bool := hid (T98 x0 x1).okv
noncomputable def n98 (x0 : Int) (x1 : Int) (r : Bool) : SV × List Blk := ((.one (.lit (.bool r))), [])
theorem e98 (x0 : Int) (x1 : Int) : fnZ Q156 [] [] true [] 2097152 F98 [(.one (.lit (.int .i64 x0))), (.one (.lit (.int .i64 x1)))] = some ((T98 x0 x1).map (n98 x0 x1)) := by kernel_rfl
noncomputable def q98 : List SV → List Blk → Option ((SV × List Blk) × Bool)
  | [(.one (.lit (.int .i64 c0))), (.one (.lit (.int .i64 c1)))], [] => some (n98 c0 c1 (g98 c0 c1), k98 c0 c1)
  | _, _ => none
theorem t98 (args : List SV) (hp : List Blk) (r : SV × List Blk) (h : q98 args hp = some (r, true)) : frzR R 100098 args hp = some r := by
  unfold q98 at h
  split at h
  · rename_i c0 c1
    obtain ⟨hr, hk⟩ := Prod.mk.inj (Option.some.inj h)
    exact fnZ_c (f := 98) Q156_ok (loops_of (l := []) rfl trivial) (e98 c0 c1) hr hk (fun r h => R_fn at98 2097152 h)
  · simp at h
noncomputable def Q98 : Qt := qcons 100098 q98 Q156
theorem Q98_ok : QOk (frzR R) Q98 := qcons_ok t98 Q156_ok
/-! spec.l4Addr -/
noncomputable def T99 (x0 : Int) : Pt (Bool) := (.ok true (.ok ((k78 x0 0 65535) && true) (.ok true (.ok true (.leaf (g78 x0 0 65535))))))
noncomputable def g99 (x0 : Int) : Bool := hid (T99 x0).val
noncomputable def k99 (x0 : Int) : Bool := hid (T99 x0).okv
noncomputable def n99 (x0 : Int) (r : Bool) : SV × List Blk := ((.one (.lit (.bool r))), [])
theorem e99 (x0 : Int) : fnZ Q98 [] [] true [] 2097152 F99 [(.one (.lit (.int .i64 x0)))] = some ((T99 x0).map (n99 x0)) := by kernel_rfl
noncomputable def q99 : List SV → List Blk → Option ((SV × List Blk) × Bool)
  | [(.one (.lit (.int .i64 c0)))], [] => some (n99 c0 (g99 c0), k99 c0)
  | _, _ => none
theorem t99 (args : List SV) (hp : List Blk) (r : SV × List Blk) (h : q99 args hp = some (r, true)) : frzR R 100099 args hp = some r := by
  unfold q99 at h
  split at h
  · rename_i c0
    obtain ⟨hr, hk⟩ := Prod.mk.inj (Option.some.inj h)
    exact fnZ_c (f := 99) Q98_ok (loops_of (l := []) rfl trivial) (e99 c0) hr hk (fun r h => R_fn at99 2097152 h)
  · simp at h
noncomputable def Q99 : Qt := qcons 100099 q99 Q98
theorem Q99_ok : QOk (frzR R) Q99 := qcons_ok t99 Q98_ok
/-! spec.l4Access -/
noncomputable def y102_0 (x0 : GAccess) : Bool := (bif (!(g78 x0.Kind 1 3)) then true else (!(g98 x0.Size x0.Value)))
noncomputable def y102_1 (x0 : GAccess) : Bool := (bif (y102_0 x0) then true else (!(g99 x0.Addr)))
noncomputable def T102 (x0 : GAccess) : Pt (Bool) := (.ok true (.ok ((k78 x0.Kind 1 3) && ((((k98 x0.Size x0.Value) && true) || (!(g78 x0.Kind 1 3))) && ((((k99 x0.Addr) && true) || (y102_0 x0)) && ((((k78 x0.Code 0 3) && true) || (y102_1 x0)) && true)))) (.br (bif (y102_1 x0) then true else (!(g78 x0.Code 0 3))) (.ok true (.ok true (.ok true (.leaf false)))) (.ok true (.ok true (.ok true (.leaf (bif (neI x0.Kind 3) then true else (neI x0.Code 0)))))))))
noncomputable def g102 (x0 : GAccess) : Bool := hid (T102 x0).val
noncomputable def k102 (x0 : GAccess) : Bool := hid (T102 x0).okv
noncomputable def n102 (x0 : GAccess) (r : Bool) : SV × List Blk := ((.one (.lit (.bool r))), [])
theorem e102 (x0 : GAccess) : fnZ Q99 [(4, [.int .i64]), (9, [.int .i64]), (11, [.int .i64]), (17, [.int .i64]), (23, [.int .i64]), (28, [.int .i64]), (32, [.int .i64])] [] true [] 2097152 F102 [(.agg [.lit (.int .i64 x0.Kind), .lit (.int .i64 x0.Size), .lit (.int .i64 x0.Addr), .lit (.int .i64 x0.Value), .lit (.int .i64 x0.Code)])] = some ((T102 x0).map (n102 x0)) := by kernel_rfl
noncomputable def q102 : List SV → List Blk → Option ((SV × List Blk) × Bool)
  | [(.agg [.lit (.int .i64 c0), .lit (.int .i64 c1), .lit (.int .i64 c2), .lit (.int .i64 c3), .lit (.int .i64 c4)])], [] => some (n102 (GAccess.mk c0 c1 c2 c3 c4) (g102 (GAccess.mk c0 c1 c2 c3 c4)), k102 (GAccess.mk c0 c1 c2 c3 c4))
  | _, _ => none
theorem t102 (args : List SV) (hp : List Blk) (r : SV × List Blk) (h : q102 args hp = some (r, true)) : frzR R 100102 args hp = some r := by
  unfold q102 at h
  split at h
  · rename_i c0 c1 c2 c3 c4
    obtain ⟨hr, hk⟩ := Prod.mk.inj (Option.some.inj h)
    exact fnZ_c (f := 102) Q99_ok (loops_of (l := []) rfl trivial) (e102 (GAccess.mk c0 c1 c2 c3 c4)) hr hk (fun r h => R_fn at102 2097152 h)
  · simp at h
noncomputable def Q102 : Qt := qcons 100102 q102 Q99
theorem Q102_ok : QOk (frzR R) Q102 := qcons_ok t102 Q99_ok
/-! spec.GoodBus -/
structure V25_0 where
  mk ::
  (b0 : GBus)
  (s6 : List Row)
  (s7 : Int)
  (s8 : Int)
noncomputable def N25_0 (v : V25_0) : Pt (Option V25_0) := (.ok true (.br (ltI v.s8 v.s7) (.ok ((inRow [.int .i64, .int .i64, .int .i64, .int .i64, .int .i64] v.s6 v.s8) && true) (.ok ((k102 (GAccess.at v.s6 (Int.toNat v.s8) 0)) && true) (.br (!(g102 (GAccess.at v.s6 (Int.toNat v.s8) 0))) (.ok true (.leaf none)) (.ok true (.ok true (.leaf (some { v with s8 := (addI v.s8 1) }))))))) (.leaf none)))
noncomputable def s25_0 (v : V25_0) : St := ⟨[(1, (.one (.ptr 0 0 0))), (6, (.one (.imm false 5 v.s6))), (7, (.one (.lit (.int .i64 v.s7)))), (8, (.one (.lit (.int .i64 v.s8))))], [.box [.imm false 1 v.b0.Bytes, .imm false 5 v.b0.Log]]⟩
def u25_0 : St → Option (V25_0 × Bool)
  | ⟨[(1, (.one (.ptr 0 0 0))), (6, (.one (.imm false 5 c2))), (7, (.one (.lit (.int .i64 c3)))), (8, (.one (.lit (.int .i64 c4))))], [.box [.imm false 1 c0, .imm false 5 c1]]⟩ => some ((V25_0.mk (GBus.mk c0 c1) c2 c3 c4), true)
  | _ => none
theorem hN25_0 (v : V25_0) : ((evp Q102 [(6, [.imm 5]), (10, [.int .i64, .int .i64, .int .i64, .int .i64, .int .i64]), (11, [.int .i64, .int .i64, .int .i64, .int .i64, .int .i64]), (12, [.int .i64, .int .i64, .int .i64, .int .i64, .int .i64]), (17, [.imm 1]), (22, [.imm 1]), (27, [.imm 5])] [] true [] 0 2097152 F25b0 (s25_0 v)).bind (stpT true false 0 [1, 6, 7, 8])) = some ((N25_0 v).map (Option.map s25_0)) := by kernel_rfl
theorem hu25_0 (σ : St) (v : V25_0) (h : u25_0 σ = some (v, true)) : σ = s25_0 v := by
  unfold u25_0 at h
  split at h
  · obtain ⟨hr, hk⟩ := Prod.mk.inj (Option.some.inj h)
    rw [← hr]
    rfl
  · simp at h
theorem lt25_0 : TellsP (lqP true false 0 [1, 6, 7, 8] (evp Q102 [(6, [.imm 5]), (10, [.int .i64, .int .i64, .int .i64, .int .i64, .int .i64]), (11, [.int .i64, .int .i64, .int .i64, .int .i64, .int .i64]), (12, [.int .i64, .int .i64, .int .i64, .int .i64, .int .i64]), (17, [.imm 1]), (22, [.imm 1]), (27, [.imm 5])] [] true [] 0 2097152 F25b0) u25_0 s25_0 N25_0 2097152) (evc R 0 2097152 (.loop [1, 6, 7, 8] F25b0)) := lqP_tells (evp_tells Q102_ok (loops_of (l := []) (by kernel_rfl) trivial)) hu25_0 hN25_0
noncomputable def lq25_0 : Lp := (9, lqP true false 0 [1, 6, 7, 8] (evp Q102 [(6, [.imm 5]), (10, [.int .i64, .int .i64, .int .i64, .int .i64, .int .i64]), (11, [.int .i64, .int .i64, .int .i64, .int .i64, .int .i64]), (12, [.int .i64, .int .i64, .int .i64, .int .i64, .int .i64]), (17, [.imm 1]), (22, [.imm 1]), (27, [.imm 5])] [] true [] 0 2097152 F25b0) u25_0 s25_0 N25_0 2097152) :: []
noncomputable def w25_0 (v : V25_0) : V25_0 := (hid (loopV N25_0 2097152 v)).getD v
noncomputable def i25_0 (v : V25_0) : Bool := (hid (loopV N25_0 2097152 v)).isSome
noncomputable def y25_0 (x0 : GBus) : V25_0 := (w25_0 (V25_0.mk x0 x0.Log (lenI x0.Log) 0))
noncomputable def T25 (x0 : GBus) : Pt (Bool) := (.ok true (.ok true (.ok true (.ok true (.ok (i25_0 (V25_0.mk x0 x0.Log (lenI x0.Log) 0)) (.br (ltI (y25_0 x0).s8 (y25_0 x0).s7) (.ok true (.ok true (.leaf false))) (.ok ((((k85 (y25_0 x0).b0.Bytes) && true) || (!(eqI (lenI (y25_0 x0).b0.Bytes) 512))) && true) (.ok true (.ok true (.leaf (bif (bif (eqI (lenI (y25_0 x0).b0.Bytes) 512) then (g85 (y25_0 x0).b0.Bytes) else false) then (leI (lenI (y25_0 x0).b0.Log) 400) else false)))))))))))
noncomputable def g25 (x0 : GBus) : Bool := hid (T25 x0).val
noncomputable def k25 (x0 : GBus) : Bool := hid (T25 x0).okv
noncomputable def n25 (x0 : GBus) (r : Bool) : SV × List Blk := ((.one (.lit (.bool r))), [])
theorem e25 (x0 : GBus) : fnZ Q102 [(6, [.imm 5]), (10, [.int .i64, .int .i64, .int .i64, .int .i64, .int .i64]), (11, [.int .i64, .int .i64, .int .i64, .int .i64, .int .i64]), (12, [.int .i64, .int .i64, .int .i64, .int .i64, .int .i64]), (17, [.imm 1]), (22, [.imm 1]), (27, [.imm 5])] [] true lq25_0 2097152 F25 [(.agg [.imm false 1 x0.Bytes, .imm false 5 x0.Log])] = some ((T25 x0).map (n25 x0)) := by kernel_rfl
noncomputable def q25 : List SV → List Blk → Option ((SV × List Blk) × Bool)
  | [(.agg [.imm false 1 c0, .imm false 5 c1])], [] => some (n25 (GBus.mk c0 c1) (g25 (GBus.mk c0 c1)), k25 (GBus.mk c0 c1))
  | _, _ => none
theorem hL25 : Loops (fun live x => TellsP (lpAt lq25_0 (tagC x)) (evc R 0 2097152 (.loop live x))) F25.body := (loops_of (l := [([1, 6, 7, 8], F25b0)]) (by kernel_rfl) ⟨fun σ σr t h ho hl => lt25_0 σ σr t h ho hl, trivial⟩)
theorem t25 (args : List SV) (hp : List Blk) (r : SV × List Blk) (h : q25 args hp = some (r, true)) : frzR R 100025 args hp = some r := by
  unfold q25 at h
  split at h
  · rename_i c0 c1
    obtain ⟨hr, hk⟩ := Prod.mk.inj (Option.some.inj h)
    exact fnZ_c (f := 25) Q102_ok hL25 (e25 (GBus.mk c0 c1)) hr hk (fun r h => R_fn at25 2097152 h)
  · simp at h
noncomputable def Q25 : Qt := qcons 100025 q25 Q102
theorem Q25_ok : QOk (frzR R) Q25 := qcons_ok t25 Q102_ok
/-! spec.l4Own -/
noncomputable def y100_0 (x0 : GBus) : Bool := ((eqN (List.length x0.Bytes) (List.length x0.Bytes)) && ((eqN (List.length x0.Log) (List.length x0.Log)) && true))
noncomputable def y100_1 (x0 : GBus) : Bool := ((((leN (mulN (0 + (List.length x0.Bytes)) 8) 140737488355328) && (leN (0 + (List.length x0.Bytes)) 140737488355328)) && (((leN (mulN (0 + (List.length x0.Log)) 40) 140737488355328) && (leN (0 + (List.length x0.Log)) 140737488355328)) && true)) && (((y100_0 x0) && (y100_0 x0)) && true))
noncomputable def y100_2 (x0 : GBus) : Bool := (((same (α := Nat) (List.length x0.Bytes) (List.length x0.Bytes)) && ((same (α := Nat) (List.length x0.Log) (List.length x0.Log)) && true)) && ((sameR x0.Bytes x0.Bytes) && ((sameR x0.Log x0.Log) && true)))
noncomputable def y100_3 (x0 : GBus) : Bool := (((y100_1 x0) && (((y100_1 x0) && (((y100_1 x0) && (((y100_1 x0) && (((y100_1 x0) && (((y100_1 x0) && (((y100_1 x0) && (((y100_1 x0) && (((y100_1 x0) && (((y100_1 x0) && (((y100_1 x0) && ((y100_1 x0) && (y100_2 x0))) && (y100_2 x0))) && (y100_2 x0))) && (y100_2 x0))) && (y100_2 x0))) && (y100_2 x0))) && (y100_2 x0))) && (y100_2 x0))) && (y100_2 x0))) && (y100_2 x0))) && (y100_2 x0))) && (y100_2 x0))
noncomputable def y100_4 (x0 : GBus) : Bool := ((y100_1 x0) && (((y100_1 x0) && (((y100_1 x0) && (((y100_1 x0) && (((y100_1 x0) && (((y100_1 x0) && (((y100_1 x0) && (((y100_1 x0) && (((y100_1 x0) && (((y100_1 x0) && (((y100_1 x0) && (((y100_1 x0) && (y100_3 x0)) && (y100_2 x0))) && (y100_2 x0))) && (y100_2 x0))) && (y100_2 x0))) && (y100_2 x0))) && (y100_2 x0))) && (y100_2 x0))) && (y100_2 x0))) && (y100_2 x0))) && (y100_2 x0))) && (y100_2 x0)))
noncomputable def y100_5 (x0 : GBus) : Bool := (((y100_1 x0) && (((y100_1 x0) && (((y100_1 x0) && (((y100_1 x0) && (((y100_1 x0) && (((y100_1 x0) && (((y100_1 x0) && (((y100_1 x0) && (((y100_1 x0) && (((y100_1 x0) && (((y100_1 x0) && ((y100_4 x0) && (y100_2 x0))) && (y100_2 x0))) && (y100_2 x0))) && (y100_2 x0))) && (y100_2 x0))) && (y100_2 x0))) && (y100_2 x0))) && (y100_2 x0))) && (y100_2 x0))) && (y100_2 x0))) && (y100_2 x0))) && (y100_2 x0))
noncomputable def T100 (x0 : GBus) : Pt (GBus) := (.ok true (.ok ((y100_1 x0) && (((y100_1 x0) && (((y100_1 x0) && (y100_5 x0)) && (y100_2 x0))) && (y100_2 x0))) (.ok ((y100_0 x0) && ((y100_0 x0) && true)) (.leaf x0))))
noncomputable def g100 (x0 : GBus) : GBus := hid (T100 x0).val
noncomputable def k100 (x0 : GBus) : Bool := hid (T100 x0).okv
noncomputable def n100 (x0 : GBus) (r : GBus) : SV × List Blk := ((.agg [.sl 0 0 (List.length r.Bytes), .sl 1 0 (List.length r.Log)]), [.lst 1 r.Bytes, .lst 5 r.Log])
theorem e100 (x0 : GBus) (p0 : Bool) (p1 : Bool) : fnP Q25 [(5, [.imm 1]), (9, [.imm 5])] [] true [] 2097152 F100 [(.agg [.imm p0 1 x0.Bytes, .imm p1 5 x0.Log])] [] = some ((T100 x0).map (n100 x0)) := by kernel_rfl
noncomputable def q100 : List SV → List Blk → Option ((SV × List Blk) × Bool)
  | [(.agg [.imm p0 1 c0, .imm p1 5 c1])], [] => some (n100 (GBus.mk c0 c1) (g100 (GBus.mk c0 c1)), k100 (GBus.mk c0 c1))
  | _, _ => none
theorem t100 (args : List SV) (hp : List Blk) (r : SV × List Blk) (h : q100 args hp = some (r, true)) : frzR R 100 args hp = some r := by
  unfold q100 at h
  split at h
  · rename_i p0 c0 p1 c1
    obtain ⟨hr, hk⟩ := Prod.mk.inj (Option.some.inj h)
    exact (frz_lo (by decide)).trans (R_fn at100 2097152 (fnP_c Q25_ok (loops_of (l := []) rfl trivial) (e100 (GBus.mk c0 c1) p0 p1) hr hk))
  · simp at h
noncomputable def Q100 : Qt := qcons 100 q100 Q25
theorem Q100_ok : QOk (frzR R) Q100 := qcons_ok t100 Q25_ok
/-! spec.l4Kind -/
noncomputable def T107 (x0 : Int) : Pt (Int) := (.ok true (.ok true (.ok (((k78 x0 448 495) && true) || (geI x0 512)) (.br (bif (geI x0 512) then (geI x0 512) else (g78 x0 448 495)) (.ok true (.ok true (.ok true (.leaf 1)))) (.ok ((k78 x0 384 447) && true) (.br (g78 x0 384 447) (.ok true (.ok true (.ok true (.leaf 3)))) (.ok true (.ok true (.ok true (.leaf 0))))))))))
noncomputable def g107 (x0 : Int) : Int := hid (T107 x0).val
noncomputable def k107 (x0 : Int) : Bool := hid (T107 x0).okv
noncomputable def n107 (x0 : Int) (r : Int) : SV × List Blk := ((.one (.lit (.int .i64 r))), [])
theorem e107 (x0 : Int) : fnZ Q100 [] [] true [] 2097152 F107 [(.one (.lit (.int .i64 x0)))] = some ((T107 x0).map (n107 x0)) := by kernel_rfl
noncomputable def q107 : List SV → List Blk → Option ((SV × List Blk) × Bool)
  | [(.one (.lit (.int .i64 c0)))], [] => some (n107 c0 (g107 c0), k107 c0)
  | _, _ => none
theorem t107 (args : List SV) (hp : List Blk) (r : SV × List Blk) (h : q107 args hp = some (r, true)) : frzR R 100107 args hp = some r := by
  unfold q107 at h
  split at h
  · rename_i c0
    obtain ⟨hr, hk⟩ := Prod.mk.inj (Option.some.inj h)
    exact fnZ_c (f := 107) Q100_ok (loops_of (l := []) rfl trivial) (e107 c0) hr hk (fun r h => R_fn at107 2097152 h)
  · simp at h
noncomputable def Q107 : Qt := qcons 100107 q107 Q100
theorem Q107_ok : QOk (frzR R) Q107 := qcons_ok t107 Q100_ok
/-! spec.l4Code -/
noncomputable def y105_0 (x1 : Int) (x2 : Int) : Int := (g107 (subI (addI x2 x1) 1))
noncomputable def T105 (x0 : Int) (x1 : Int) (x2 : Int) : Pt (Int) := (.ok true (.ok true (.ok true (.br (bif (eqI x1 2) then (eqI (andI x2 1) 1) else false) (.ok true (.ok true (.ok true (.leaf 2)))) (.ok ((k107 x2) && ((((k107 (subI (addI x2 x1) 1)) && true) || (eqI (g107 x2) 1)) && true)) (.br (bif (eqI (g107 x2) 1) then true else (eqI (y105_0 x1 x2) 1)) (.ok true (.ok true (.ok true (.leaf 1)))) (.ok ((((k107 x2) && ((((k107 (subI (addI x2 x1) 1)) && true) || (eqI (g107 x2) 3)) && true)) || (!(eqI x0 2))) && true) (.br (bif (eqI x0 2) then (bif (eqI (g107 x2) 3) then true else (eqI (y105_0 x1 x2) 3)) else false) (.ok true (.ok true (.ok true (.leaf 3)))) (.ok true (.ok true (.ok true (.leaf 0))))))))))))
noncomputable def g105 (x0 : Int) (x1 : Int) (x2 : Int) : Int := hid (T105 x0 x1 x2).val
noncomputable def k105 (x0 : Int) (x1 : Int) (x2 : Int) : Bool := hid (T105 x0 x1 x2).okv
noncomputable def n105 (x0 : Int) (x1 : Int) (x2 : Int) (r : Int) : SV × List Blk := ((.one (.lit (.int .i64 r))), [])
theorem e105 (x0 : Int) (x1 : Int) (x2 : Int) : fnZ Q107 [] [] true [] 2097152 F105 [(.one (.lit (.int .i64 x0))), (.one (.lit (.int .i64 x1))), (.one (.lit (.int .i64 x2)))] = some ((T105 x0 x1 x2).map (n105 x0 x1 x2)) := by kernel_rfl
noncomputable def q105 : List SV → List Blk → Option ((SV × List Blk) × Bool)
  | [(.one (.lit (.int .i64 c0))), (.one (.lit (.int .i64 c1))), (.one (.lit (.int .i64 c2)))], [] => some (n105 c0 c1 c2 (g105 c0 c1 c2), k105 c0 c1 c2)
  | _, _ => none
theorem t105 (args : List SV) (hp : List Blk) (r : SV × List Blk) (h : q105 args hp = some (r, true)) : frzR R 100105 args hp = some r := by
  unfold q105 at h
  split at h
  · rename_i c0 c1 c2
    obtain ⟨hr, hk⟩ := Prod.mk.inj (Option.some.inj h)
    exact fnZ_c (f := 105) Q107_ok (loops_of (l := []) rfl trivial) (e105 c0 c1 c2) hr hk (fun r h => R_fn at105 2097152 h)
  · simp at h
noncomputable def Q105 : Qt := qcons 100105 q105 Q107
theorem Q105_ok : QOk (frzR R) Q105 := qcons_ok t105 Q107_ok
/-! spec.l4Touch -/
structure V101_0 where
  mk ::
  (b0 : GBus)
  (s1 : Int)
  (s2 : Int)
  (s3 : Int)
  (s4 : Int)
  (s12 : Int)
  (s13 : Int)
  (s14 : Int)
noncomputable def y101_0_l_0 (v : V101_0) : Int := (wrapK .u64 (mulI 8 (subI (subI v.s2 1) v.s14)))
noncomputable def y101_0_l_1 (v : V101_0) : Bool := ((leI 0 (addI v.s3 v.s14)) && (ltI (addI v.s3 v.s14) (lenI v.b0.Bytes)))
noncomputable def y101_0_l_2 (v : V101_0) : Bool := ((eqN (List.length v.b0.Log) (List.length v.b0.Log)) && true)
noncomputable def y101_0_l_3 (v : V101_0) : Bool := ((eqN (List.length v.b0.Bytes) (List.length v.b0.Bytes)) && (y101_0_l_2 v))
noncomputable def y101_0_l_4 (v : V101_0) : List Row := (List.set v.b0.Bytes (0 + (Int.toNat (addI v.s3 v.s14))) (rowI (andI (shrI v.s4 (y101_0_l_0 v)) 255)))
noncomputable def y101_0_l_5 (v : V101_0) : Bool := ((eqN (List.length v.b0.Bytes) (List.length (y101_0_l_4 v))) && (y101_0_l_2 v))
noncomputable def N101_0 (v : V101_0) : Pt (Option V101_0) := (.ok true (.br (ltI v.s14 v.s2) (.ok true (.br (eqI v.s1 2) (.ok ((leI 0 (y101_0_l_0 v)) && ((y101_0_l_1 v) && (((blt (0 + (Int.toNat (addI v.s3 v.s14))) (List.length v.b0.Bytes)) && (beqN (rlen v.b0.Bytes (0 + (Int.toNat (addI v.s3 v.s14)))) 1)) && true))) (.ok true (.ok ((((y101_0_l_3 v) && (y101_0_l_5 v)) && true) && ((y101_0_l_5 v) && true)) (.leaf (some { v with b0 := { v.b0 with Bytes := (y101_0_l_4 v) }, s14 := (addI v.s14 1) }))))) (.ok ((y101_0_l_1 v) && ((hasRow [.int .i64] v.b0.Bytes (0 + (Int.toNat (addI v.s3 v.s14))) 0) && true)) (.ok true (.ok ((((y101_0_l_3 v) && (y101_0_l_3 v)) && true) && ((y101_0_l_3 v) && true)) (.leaf (some { v with s13 := (orI (shlI v.s13 8) (intAt v.b0.Bytes (0 + (Int.toNat (addI v.s3 v.s14))) 0)), s14 := (addI v.s14 1) }))))))) (.leaf none)))
noncomputable def s101_0 (v : V101_0) : St := ⟨[(0, (.one (.ptr 0 0 0))), (1, (.one (.lit (.int .i64 v.s1)))), (2, (.one (.lit (.int .i64 v.s2)))), (3, (.one (.lit (.int .i64 v.s3)))), (4, (.one (.lit (.int .i64 v.s4)))), (12, (.one (.lit (.int .i64 v.s12)))), (13, (.one (.lit (.int .i64 v.s13)))), (14, (.one (.lit (.int .i64 v.s14))))], [.box [.sl 1 0 (List.length v.b0.Bytes), .sl 2 0 (List.length v.b0.Log)], .lst 1 v.b0.Bytes, .lst 5 v.b0.Log]⟩
def u101_0 : St → Option (V101_0 × Bool)
  | ⟨[(0, (.one (.ptr 0 0 0))), (1, (.one (.lit (.int .i64 c0)))), (2, (.one (.lit (.int .i64 c1)))), (3, (.one (.lit (.int .i64 c2)))), (4, (.one (.lit (.int .i64 c3)))), (12, (.one (.lit (.int .i64 c4)))), (13, (.one (.lit (.int .i64 c5)))), (14, (.one (.lit (.int .i64 c6))))], [.box [.sl 1 0 l1, .sl 2 0 l2], .lst 1 c_1, .lst 5 c_2]⟩ => some ((V101_0.mk (GBus.mk c_1 c_2) c0 c1 c2 c3 c4 c5 c6), eqN l1 (List.length c_1) && (eqN l2 (List.length c_2) && (true)))
  | _ => none
theorem hN101_0 (v : V101_0) : ((evp Q105 [(34, [.imm 1]), (47, [.int .i64]), (53, [.imm 1]), (57, [.int .i64]), (58, [.int .i64]), (63, [.imm 5]), (78, [.imm 5]), (1000003, [])] [] true [] 1 2097152 F101b0 (s101_0 v)).bind (stpT true true 1 [0, 1, 2, 3, 4, 12, 13, 14])) = some ((N101_0 v).map (Option.map s101_0)) := by kernel_rfl
theorem hu101_0 (σ : St) (v : V101_0) (h : u101_0 σ = some (v, true)) : σ = s101_0 v := by
  unfold u101_0 at h
  split at h
  · obtain ⟨hr, hk⟩ := Prod.mk.inj (Option.some.inj h)
    obtain ⟨d0, hk0⟩ := and_t hk
    obtain ⟨d1, hk1⟩ := and_t hk0
    obtain rfl := of_decide_eq_true d0
    obtain rfl := of_decide_eq_true d1
    rw [← hr]
    rfl
  · simp at h
theorem lt101_0 : TellsP (lqP true true 1 [0, 1, 2, 3, 4, 12, 13, 14] (evp Q105 [(34, [.imm 1]), (47, [.int .i64]), (53, [.imm 1]), (57, [.int .i64]), (58, [.int .i64]), (63, [.imm 5]), (78, [.imm 5]), (1000003, [])] [] true [] 1 2097152 F101b0) u101_0 s101_0 N101_0 2097152) (evc R 1 2097152 (.loop [0, 1, 2, 3, 4, 12, 13, 14] F101b0)) := lqP_tells (evp_tells Q105_ok (loops_of (l := []) (by kernel_rfl) trivial)) hu101_0 hN101_0
noncomputable def lq101_0 : Lp := (24, lqP true true 1 [0, 1, 2, 3, 4, 12, 13, 14] (evp Q105 [(34, [.imm 1]), (47, [.int .i64]), (53, [.imm 1]), (57, [.int .i64]), (58, [.int .i64]), (63, [.imm 5]), (78, [.imm 5]), (1000003, [])] [] true [] 1 2097152 F101b0) u101_0 s101_0 N101_0 2097152) :: []
noncomputable def w101_0 (v : V101_0) : V101_0 := (hid (loopV N101_0 2097152 v)).getD v
noncomputable def i101_0 (v : V101_0) : Bool := (hid (loopV N101_0 2097152 v)).isSome
noncomputable def y101_0 (x0 : GBus) : Bool := (eqN (List.length x0.Bytes) (List.length x0.Bytes))
noncomputable def y101_1 (x0 : GBus) : Bool := (eqN (List.length x0.Log) (List.length x0.Log))
noncomputable def y101_2 (x0 : GBus) : Bool := ((((y101_0 x0) && ((y101_1 x0) && true)) && ((y101_0 x0) && ((y101_1 x0) && true))) && true)
noncomputable def y101_3 (x1 : Int) (x2 : Int) (x3 : Int) (x4 : Int) (x0 : GBus) : V101_0 := (w101_0 (V101_0.mk x0 x1 x2 x3 x4 (g105 x1 x2 x3) (bif (neI x1 2) then 0 else x4) 0))
noncomputable def y101_4 (x1 : Int) (x2 : Int) (x3 : Int) (x4 : Int) (x0 : GBus) : Nat := (List.length (y101_3 x1 x2 x3 x4 x0).b0.Log)
noncomputable def y101_5 (x1 : Int) (x2 : Int) (x3 : Int) (x4 : Int) (x0 : GBus) : Bool := (eqN (y101_4 x1 x2 x3 x4 x0) (y101_4 x1 x2 x3 x4 x0))
noncomputable def y101_6 (x1 : Int) (x2 : Int) (x3 : Int) (x4 : Int) (x0 : GBus) : Nat := (List.length (y101_3 x1 x2 x3 x4 x0).b0.Bytes)
noncomputable def y101_7 (x1 : Int) (x2 : Int) (x3 : Int) (x4 : Int) (x0 : GBus) : Bool := (eqN (y101_6 x1 x2 x3 x4 x0) (y101_6 x1 x2 x3 x4 x0))
noncomputable def y101_8 (x1 : Int) (x2 : Int) (x3 : Int) (x4 : Int) (x0 : GBus) : List Row := ((y101_3 x1 x2 x3 x4 x0).b0.Log ++ [(GAccess.row (GAccess.mk (y101_3 x1 x2 x3 x4 x0).s1 (y101_3 x1 x2 x3 x4 x0).s2 (y101_3 x1 x2 x3 x4 x0).s3 (y101_3 x1 x2 x3 x4 x0).s13 (y101_3 x1 x2 x3 x4 x0).s12))])
noncomputable def y101_9 (x1 : Int) (x2 : Int) (x3 : Int) (x4 : Int) (x0 : GBus) : Bool := ((y101_7 x1 x2 x3 x4 x0) && ((eqN (List.length (y101_8 x1 x2 x3 x4 x0)) (List.length (y101_8 x1 x2 x3 x4 x0))) && true))
noncomputable def y101_10 (x1 : Int) (x2 : Int) (x3 : Int) (x4 : Int) (x0 : GBus) : Bool := ((y101_7 x1 x2 x3 x4 x0) && ((y101_5 x1 x2 x3 x4 x0) && true))
noncomputable def y101_11 (x1 : Int) (x2 : Int) (x3 : Int) (x4 : Int) (x0 : GBus) : List Row := (x0.Log ++ [(GAccess.row (GAccess.mk x1 x2 x3 (bif (neI x1 2) then 0 else x4) (g105 x1 x2 x3)))])
noncomputable def y101_12 (x1 : Int) (x2 : Int) (x3 : Int) (x4 : Int) (x0 : GBus) : Bool := ((y101_0 x0) && ((eqN (List.length (y101_11 x1 x2 x3 x4 x0)) (List.length (y101_11 x1 x2 x3 x4 x0))) && true))
noncomputable def T101 (x1 : Int) (x2 : Int) (x3 : Int) (x4 : Int) (x0 : GBus) : Pt (GBus × Int × Int) := (.ok true (.ok ((k105 x1 x2 x3) && true) (.ok true (.ok true (.ok true (.ok true (.br (eqI (g105 x1 x2 x3) 0) (.ok true (.ok ((y101_2 x0) && (((y101_0 x0) && ((y101_1 x0) && true)) && true)) (.ok ((y101_0 x0) && ((y101_1 x0) && true)) (.ok (i101_0 (V101_0.mk x0 x1 x2 x3 x4 (g105 x1 x2 x3) (bif (neI x1 2) then 0 else x4) 0)) (.ok ((leN (0 + (y101_4 x1 x2 x3 x4 x0)) (y101_4 x1 x2 x3 x4 x0)) && true) (.br (bif (ltI (lenI (y101_3 x1 x2 x3 x4 x0).b0.Log) 400) then (bif (neI (y101_3 x1 x2 x3 x4 x0).s1 3) then true else (neI (y101_3 x1 x2 x3 x4 x0).s12 0)) else false) (.ok (((y101_5 x1 x2 x3 x4 x0) && ((eqN (0 + (y101_4 x1 x2 x3 x4 x0)) (y101_4 x1 x2 x3 x4 x0)) && ((leN (mulN ((y101_4 x1 x2 x3 x4 x0) + 1) 40) 140737488355328) && (leN ((y101_4 x1 x2 x3 x4 x0) + 1) 140737488355328)))) && true) (.ok true (.ok (((y101_9 x1 x2 x3 x4 x0) && (y101_9 x1 x2 x3 x4 x0)) && true) (.leaf ({ (y101_3 x1 x2 x3 x4 x0).b0 with Log := (y101_8 x1 x2 x3 x4 x0) }, (y101_3 x1 x2 x3 x4 x0).s13, (y101_3 x1 x2 x3 x4 x0).s12))))) (.ok true (.ok (((y101_10 x1 x2 x3 x4 x0) && (y101_10 x1 x2 x3 x4 x0)) && true) (.leaf ((y101_3 x1 x2 x3 x4 x0).b0, (y101_3 x1 x2 x3 x4 x0).s13, (y101_3 x1 x2 x3 x4 x0).s12)))))))))) (.ok ((leN (0 + (List.length x0.Log)) (List.length x0.Log)) && true) (.br (bif (ltI (lenI x0.Log) 400) then (bif (neI x1 3) then true else (neI (g105 x1 x2 x3) 0)) else false) (.ok (((y101_1 x0) && ((eqN (0 + (List.length x0.Log)) (List.length x0.Log)) && ((leN (mulN ((List.length x0.Log) + 1) 40) 140737488355328) && (leN ((List.length x0.Log) + 1) 140737488355328)))) && true) (.ok true (.ok (((y101_12 x1 x2 x3 x4 x0) && (y101_12 x1 x2 x3 x4 x0)) && true) (.leaf ({ x0 with Log := (y101_11 x1 x2 x3 x4 x0) }, (bif (neI x1 2) then 0 else x4), (g105 x1 x2 x3)))))) (.ok true (.ok (y101_2 x0) (.leaf (x0, (bif (neI x1 2) then 0 else x4), (g105 x1 x2 x3))))))))))))))
noncomputable def g101 (x1 : Int) (x2 : Int) (x3 : Int) (x4 : Int) (x0 : GBus) : GBus × Int × Int := hid (T101 x1 x2 x3 x4 x0).val
noncomputable def k101 (x1 : Int) (x2 : Int) (x3 : Int) (x4 : Int) (x0 : GBus) : Bool := hid (T101 x1 x2 x3 x4 x0).okv
noncomputable def n101 (x1 : Int) (x2 : Int) (x3 : Int) (x4 : Int) (x0 : GBus) (r : GBus × Int × Int) : SV × List Blk := ((.tup [(.one (.lit (.int .i64 r.2.1))), (.one (.lit (.int .i64 r.2.2)))]), [.box [.sl 1 0 (List.length r.1.Bytes), .sl 2 0 (List.length r.1.Log)], .lst 1 r.1.Bytes, .lst 5 r.1.Log])
theorem e101 (x1 : Int) (x2 : Int) (x3 : Int) (x4 : Int) (x0 : GBus) : fnP Q105 [(34, [.imm 1]), (47, [.int .i64]), (53, [.imm 1]), (57, [.int .i64]), (58, [.int .i64]), (63, [.imm 5]), (78, [.imm 5]), (1000003, [])] [] true lq101_0 2097152 F101 [(.one (.ptr 0 0 0)), (.one (.lit (.int .i64 x1))), (.one (.lit (.int .i64 x2))), (.one (.lit (.int .i64 x3))), (.one (.lit (.int .i64 x4)))] [.box [.sl 1 0 (List.length x0.Bytes), .sl 2 0 (List.length x0.Log)], .lst 1 x0.Bytes, .lst 5 x0.Log] = some ((T101 x1 x2 x3 x4 x0).map (n101 x1 x2 x3 x4 x0)) := by kernel_rfl
noncomputable def q101 : List SV → List Blk → Option ((SV × List Blk) × Bool)
  | [(.one (.ptr 0 0 0)), (.one (.lit (.int .i64 c0))), (.one (.lit (.int .i64 c1))), (.one (.lit (.int .i64 c2))), (.one (.lit (.int .i64 c3)))], [.box [.sl 1 0 l1, .sl 2 0 l2], .lst 1 c_1, .lst 5 c_2] => some (n101 c0 c1 c2 c3 (GBus.mk c_1 c_2) (g101 c0 c1 c2 c3 (GBus.mk c_1 c_2)), eqN l1 (List.length c_1) && (eqN l2 (List.length c_2) && (k101 c0 c1 c2 c3 (GBus.mk c_1 c_2))))
  | _, _ => none
theorem hL101 : Loops (fun live x => TellsP (lpAt lq101_0 (tagC x)) (evc R 1 2097152 (.loop live x))) F101.body := (loops_of (l := [([0, 1, 2, 3, 4, 12, 13, 14], F101b0)]) (by kernel_rfl) ⟨fun σ σr t h ho hl => lt101_0 σ σr t h ho hl, trivial⟩)
theorem t101 (args : List SV) (hp : List Blk) (r : SV × List Blk) (h : q101 args hp = some (r, true)) : frzR R 101 args hp = some r := by
  unfold q101 at h
  split at h
  · rename_i c0 c1 c2 c3 l1 l2 c_1 c_2
    obtain ⟨hr, hk⟩ := Prod.mk.inj (Option.some.inj h)
    obtain ⟨d0, hk0⟩ := and_t hk
    obtain ⟨d1, hk1⟩ := and_t hk0
    obtain rfl := of_decide_eq_true d0
    obtain rfl := of_decide_eq_true d1
    exact (frz_lo (by decide)).trans (R_fn at101 2097152 (fnP_c Q105_ok hL101 (e101 c0 c1 c2 c3 (GBus.mk c_1 c_2)) hr hk1))
  · simp at h
noncomputable def Q101 : Qt := qcons 101 q101 Q105
theorem Q101_ok : QOk (frzR R) Q101 := qcons_ok t101 Q105_ok
/-! spec.Touch -/
noncomputable def y24_0 (x0 : GBus) (x1 : Int) : Bool := (bif (!(g25 x0)) then true else (!(g78 x1 1 3)))
noncomputable def y24_1 (x0 : GBus) (x1 : Int) (x2 : Int) (x4 : Int) : Bool := (bif (y24_0 x0 x1) then true else (!(g98 x2 x4)))
noncomputable def y24_2 (x0 : GBus) : Bool := (eqN (List.length (g100 x0).Bytes) (List.length (g100 x0).Bytes))
noncomputable def y24_3 (x0 : GBus) : Bool := (eqN (List.length (g100 x0).Log) (List.length (g100 x0).Log))
noncomputable def y24_4 (x0 : GBus) (x1 : Int) (x2 : Int) (x3 : Int) (x4 : Int) : GBus × Int × Int := (g101 x1 x2 x3 x4 (g100 x0))
noncomputable def y24_5 (x0 : GBus) (x1 : Int) (x2 : Int) (x3 : Int) (x4 : Int) : Nat := (List.length (y24_4 x0 x1 x2 x3 x4).1.Bytes)
noncomputable def y24_6 (x0 : GBus) (x1 : Int) (x2 : Int) (x3 : Int) (x4 : Int) : Nat := (List.length (y24_4 x0 x1 x2 x3 x4).1.Log)
noncomputable def y24_7 (x0 : GBus) (x1 : Int) (x2 : Int) (x3 : Int) (x4 : Int) : GBus := (g100 (y24_4 x0 x1 x2 x3 x4).1)
noncomputable def y24_8 (x0 : GBus) (x1 : Int) (x2 : Int) (x3 : Int) (x4 : Int) : Nat := (List.length (y24_7 x0 x1 x2 x3 x4).Bytes)
noncomputable def y24_9 (x0 : GBus) (x1 : Int) (x2 : Int) (x3 : Int) (x4 : Int) : Bool := ((eqN (y24_8 x0 x1 x2 x3 x4) (y24_8 x0 x1 x2 x3 x4)) && ((eqN (List.length (y24_7 x0 x1 x2 x3 x4).Log) (List.length (y24_7 x0 x1 x2 x3 x4).Log)) && true))
noncomputable def T24 (x0 : GBus) (x1 : Int) (x2 : Int) (x3 : Int) (x4 : Int) : Pt (GBus × Int × Int × Bool) := (.ok true (.ok ((k25 x0) && ((((k78 x1 1 3) && true) || (!(g25 x0))) && ((((k98 x2 x4) && true) || (y24_0 x0 x1)) && ((((k99 x3) && true) || (y24_1 x0 x1 x2 x4)) && true)))) (.br (bif (bif (y24_1 x0 x1 x2 x4) then true else (!(g99 x3))) then true else (bif (neI x1 2) then (neI x4 0) else false)) (.ok true (.ok true (.leaf ((GBus.mk [] []), 0, 0, false)))) (.ok ((k100 x0) && true) (.ok ((((((y24_2 x0) && ((y24_3 x0) && true)) && ((y24_2 x0) && ((y24_3 x0) && true))) && true) && ((y24_2 x0) && ((y24_3 x0) && (k101 x1 x2 x3 x4 (g100 x0))))) && true) (.ok true (.ok true (.ok (((((eqN (y24_5 x0 x1 x2 x3 x4) (y24_5 x0 x1 x2 x3 x4)) && ((eqN (y24_6 x0 x1 x2 x3 x4) (y24_6 x0 x1 x2 x3 x4)) && true)) && true) && (k100 (y24_4 x0 x1 x2 x3 x4).1)) && true) (.ok ((y24_9 x0 x1 x2 x3 x4) && ((y24_9 x0 x1 x2 x3 x4) && true)) (.leaf ((y24_7 x0 x1 x2 x3 x4), (bif (eqI x1 2) then 0 else (y24_4 x0 x1 x2 x3 x4).2.1), (y24_4 x0 x1 x2 x3 x4).2.2, true)))))))))))
noncomputable def g24 (x0 : GBus) (x1 : Int) (x2 : Int) (x3 : Int) (x4 : Int) : GBus × Int × Int × Bool := hid (T24 x0 x1 x2 x3 x4).val
noncomputable def k24 (x0 : GBus) (x1 : Int) (x2 : Int) (x3 : Int) (x4 : Int) : Bool := hid (T24 x0 x1 x2 x3 x4).okv
noncomputable def n24 (x0 : GBus) (x1 : Int) (x2 : Int) (x3 : Int) (x4 : Int) (r : GBus × Int × Int × Bool) : SV × List Blk := ((.tup [(.agg [.sl 0 0 (List.length r.1.Bytes), .sl 1 0 (List.length r.1.Log)]), (.one (.lit (.int .i64 r.2.1))), (.one (.lit (.int .i64 r.2.2.1))), (.one (.lit (.bool r.2.2.2)))]), [.lst 1 r.1.Bytes, .lst 5 r.1.Log])
theorem e24 (x0 : GBus) (x1 : Int) (x2 : Int) (x3 : Int) (x4 : Int) : fnP Q101 [(17, [.imm 1, .imm 5]), (45, [.imm 1, .imm 5]), (57, [.imm 1, .imm 5])] [] true [] 2097152 F24 [(.agg [.imm false 1 x0.Bytes, .imm false 5 x0.Log]), (.one (.lit (.int .i64 x1))), (.one (.lit (.int .i64 x2))), (.one (.lit (.int .i64 x3))), (.one (.lit (.int .i64 x4)))] [] = some ((T24 x0 x1 x2 x3 x4).map (n24 x0 x1 x2 x3 x4)) := by kernel_rfl
noncomputable def q24 : List SV → List Blk → Option ((SV × List Blk) × Bool)
  | [(.agg [.imm false 1 c0, .imm false 5 c1]), (.one (.lit (.int .i64 c2))), (.one (.lit (.int .i64 c3))), (.one (.lit (.int .i64 c4))), (.one (.lit (.int .i64 c5)))], [] => some (n24 (GBus.mk c0 c1) c2 c3 c4 c5 (g24 (GBus.mk c0 c1) c2 c3 c4 c5), k24 (GBus.mk c0 c1) c2 c3 c4 c5)
  | _, _ => none
theorem t24 (args : List SV) (hp : List Blk) (r : SV × List Blk) (h : q24 args hp = some (r, true)) : frzR R 24 args hp = some r := by
  unfold q24 at h
  split at h
  · rename_i c0 c1 c2 c3 c4 c5
    obtain ⟨hr, hk⟩ := Prod.mk.inj (Option.some.inj h)
    exact (frz_lo (by decide)).trans (R_fn at24 2097152 (fnP_c Q101_ok (loops_of (l := []) rfl trivial) (e24 (GBus.mk c0 c1) c2 c3 c4 c5) hr hk))
  · simp at h
noncomputable def Q24 : Qt := qcons 24 q24 Q101
theorem Q24_ok : QOk (frzR R) Q24 := qcons_ok t24 Q101_ok
/-! (*spec.l1Cur).bus -/
structure V72_0 where
  mk ::
  (b0 : Gl1Cur)
  (b1 : GBus)
  (b2 : GBus)
  (s5 : Int)
noncomputable def y72_0_l_0 (v : V72_0) : Bool := (eqN (List.length v.b2.Bytes) (List.length v.b2.Bytes))
noncomputable def y72_0_l_1 (v : V72_0) : Bool := (eqN (List.length v.b2.Log) (List.length v.b2.Log))
noncomputable def y72_0_l_2 (v : V72_0) : Bool := ((y72_0_l_0 v) && ((y72_0_l_1 v) && true))
noncomputable def y72_0_l_3 (v : V72_0) : Gl1Cur × Int := (g79 (g73 2 (g73 2 v.b0).1).1)
noncomputable def y72_0_l_4 (v : V72_0) : Bool := (eqN (List.length v.b1.Bytes) (List.length v.b1.Bytes))
noncomputable def y72_0_l_5 (v : V72_0) : Bool := (eqN (List.length v.b1.Log) (List.length v.b1.Log))
noncomputable def y72_0_l_6 (v : V72_0) : Bool := ((y72_0_l_4 v) && ((y72_0_l_5 v) && true))
noncomputable def y72_0_l_7 (v : V72_0) : GBus × Int × Int × Bool := (g24 v.b2 (addI 1 (g73 2 v.b0).2) (addI 1 (g73 2 (g73 2 v.b0).1).2) (y72_0_l_3 v).2 0)
noncomputable def y72_0_l_8 (v : V72_0) : Bool := ((eqN (List.length (y72_0_l_7 v).1.Bytes) (List.length (y72_0_l_7 v).1.Bytes)) && ((eqN (List.length (y72_0_l_7 v).1.Log) (List.length (y72_0_l_7 v).1.Log)) && true))
noncomputable def y72_0_l_9 (v : V72_0) : Bool := (((k73 2 v.b0) && ((k73 2 (g73 2 v.b0).1) && ((k79 (g73 2 (g73 2 v.b0).1).1) && ((((y72_0_l_2 v) && true) && (k24 v.b2 (addI 1 (g73 2 v.b0).2) (addI 1 (g73 2 (g73 2 v.b0).1).2) (y72_0_l_3 v).2 0)) && true)))) && (((y72_0_l_6 v) && ((y72_0_l_2 v) && ((y72_0_l_8 v) && ((y72_0_l_4 v) && ((y72_0_l_5 v) && ((y72_0_l_0 v) && ((y72_0_l_1 v) && (y72_0_l_8 v)))))))) && true))
noncomputable def y72_0_l_10 (v : V72_0) : Bool := (((same (α := Nat) (List.length (y72_0_l_7 v).1.Bytes) (List.length (y72_0_l_7 v).1.Bytes)) && ((same (α := Nat) (List.length (y72_0_l_7 v).1.Log) (List.length (y72_0_l_7 v).1.Log)) && true)) && ((sameR v.b1.Bytes v.b1.Bytes) && ((sameR v.b1.Log v.b1.Log) && ((sameR v.b2.Bytes v.b2.Bytes) && ((sameR v.b2.Log v.b2.Log) && ((sameR (y72_0_l_7 v).1.Bytes (y72_0_l_7 v).1.Bytes) && ((sameR (y72_0_l_7 v).1.Log (y72_0_l_7 v).1.Log) && true)))))))
noncomputable def y72_0_l_11 (v : V72_0) : Bool := ((((same (α := Bool) true true) && (sameR (y72_0_l_3 v).1.fcode (y72_0_l_3 v).1.fcode)) && ((same (α := Int) (y72_0_l_3 v).1.fat (y72_0_l_3 v).1.fat) && ((same (α := Int) (y72_0_l_3 v).1.fseed (y72_0_l_3 v).1.fseed) && true))) && (((same (α := Nat) (List.length v.b1.Bytes) (List.length v.b1.Bytes)) && ((same (α := Nat) (List.length v.b1.Log) (List.length v.b1.Log)) && true)) && (((same (α := Nat) (List.length v.b2.Bytes) (List.length v.b2.Bytes)) && ((same (α := Nat) (List.length v.b2.Log) (List.length v.b2.Log)) && true)) && (y72_0_l_10 v))))
noncomputable def y72_0_l_12 (v : V72_0) : Bool := (((same (α := Int) v.s5 v.s5) && ((same (α := Bool) (y72_0_l_7 v).2.2.2 (y72_0_l_7 v).2.2.2) && true)) && (y72_0_l_11 v))
noncomputable def y72_0_l_13 (v : V72_0) : Bool := ((y72_0_l_9 v) && (((y72_0_l_9 v) && (((y72_0_l_9 v) && (((y72_0_l_9 v) && (((y72_0_l_9 v) && (((y72_0_l_9 v) && (((y72_0_l_9 v) && (((y72_0_l_9 v) && (((y72_0_l_9 v) && (((y72_0_l_9 v) && ((y72_0_l_9 v) && (y72_0_l_12 v))) && (y72_0_l_12 v))) && (y72_0_l_12 v))) && (y72_0_l_12 v))) && (y72_0_l_12 v))) && (y72_0_l_12 v))) && (y72_0_l_12 v))) && (y72_0_l_12 v))) && (y72_0_l_12 v))) && (y72_0_l_12 v)))
noncomputable def y72_0_l_14 (v : V72_0) : Bool := ((y72_0_l_9 v) && (((y72_0_l_9 v) && (((y72_0_l_9 v) && (((y72_0_l_9 v) && (((y72_0_l_9 v) && (((y72_0_l_9 v) && (((y72_0_l_9 v) && (((y72_0_l_9 v) && (((y72_0_l_9 v) && (((y72_0_l_9 v) && ((y72_0_l_13 v) && (y72_0_l_12 v))) && (y72_0_l_12 v))) && (y72_0_l_12 v))) && (y72_0_l_12 v))) && (y72_0_l_12 v))) && (y72_0_l_12 v))) && (y72_0_l_12 v))) && (y72_0_l_12 v))) && (y72_0_l_12 v))) && (y72_0_l_12 v)))
noncomputable def N72_0 (v : V72_0) : Pt (Option V72_0) := (.ok true (.br (gtI v.s5 0) (.ok ((y72_0_l_9 v) && (((y72_0_l_9 v) && (((y72_0_l_9 v) && ((y72_0_l_14 v) && (y72_0_l_12 v))) && (y72_0_l_12 v))) && (y72_0_l_12 v))) (.ok true (.br (y72_0_l_7 v).2.2.2 (.ok true (.ok true (.ok (((y72_0_l_6 v) && ((y72_0_l_8 v) && ((y72_0_l_4 v) && ((y72_0_l_5 v) && (y72_0_l_8 v))))) && true) (.leaf (some (V72_0.mk (y72_0_l_3 v).1 v.b1 (y72_0_l_7 v).1 (subI v.s5 1))))))) (.ok true (.ok (((y72_0_l_6 v) && ((y72_0_l_2 v) && ((y72_0_l_4 v) && ((y72_0_l_5 v) && (y72_0_l_2 v))))) && true) (.leaf (some { v with b0 := (y72_0_l_3 v).1, s5 := (subI v.s5 1) }))))))) (.leaf none)))
noncomputable def s72_0 (v : V72_0) : St := ⟨[(0, (.one (.ptr 0 0 0))), (2, (.one (.ptr 1 0 0))), (3, (.one (.ptr 2 0 0))), (5, (.one (.lit (.int .i64 v.s5))))], [.box [.imm true 1 v.b0.fcode, .lit (.int .i64 v.b0.fat), .lit (.int .u64 v.b0.fseed)], .box [.sl 3 0 (List.length v.b1.Bytes), .sl 4 0 (List.length v.b1.Log)], .box [.sl 5 0 (List.length v.b2.Bytes), .sl 6 0 (List.length v.b2.Log)], .lst 1 v.b1.Bytes, .lst 5 v.b1.Log, .lst 1 v.b2.Bytes, .lst 5 v.b2.Log]⟩
def u72_0 : St → Option (V72_0 × Bool)
  | ⟨[(0, (.one (.ptr 0 0 0))), (2, (.one (.ptr 1 0 0))), (3, (.one (.ptr 2 0 0))), (5, (.one (.lit (.int .i64 c3))))], [.box [.imm true 1 c0, .lit (.int .i64 c1), .lit (.int .u64 c2)], .box [.sl 3 0 l3, .sl 4 0 l4], .box [.sl 5 0 l5, .sl 6 0 l6], .lst 1 c_3, .lst 5 c_4, .lst 1 c_5, .lst 5 c_6]⟩ => some ((V72_0.mk (Gl1Cur.mk c0 c1 c2) (GBus.mk c_3 c_4) (GBus.mk c_5 c_6) c3), eqN l3 (List.length c_3) && (eqN l4 (List.length c_4) && (eqN l5 (List.length c_5) && (eqN l6 (List.length c_6) && (true)))))
  | _ => none
theorem hN72_0 (v : V72_0) : ((evp Q24 [(29, [.imm 1, .imm 5]), (44, [.imm 1, .imm 5]), (50, [.imm 1]), (51, [.int .i64]), (55, [.imm 1]), (58, [.imm 1, .imm 5]), (1000000, [])] [] true [] 1 2097152 F72b0 (s72_0 v)).bind (stpT true false 1 [0, 2, 3, 5])) = some ((N72_0 v).map (Option.map s72_0)) := by kernel_rfl
theorem hu72_0 (σ : St) (v : V72_0) (h : u72_0 σ = some (v, true)) : σ = s72_0 v := by
  unfold u72_0 at h
  split at h
  · obtain ⟨hr, hk⟩ := Prod.mk.inj (Option.some.inj h)
    obtain ⟨d0, hk0⟩ := and_t hk
    obtain ⟨d1, hk1⟩ := and_t hk0
    obtain ⟨d2, hk2⟩ := and_t hk1
    obtain ⟨d3, hk3⟩ := and_t hk2
    obtain rfl := of_decide_eq_true d0
    obtain rfl := of_decide_eq_true d1
    obtain rfl := of_decide_eq_true d2
    obtain rfl := of_decide_eq_true d3
    rw [← hr]
    rfl
  · simp at h
theorem lt72_0 : TellsP (lqP true false 1 [0, 2, 3, 5] (evp Q24 [(29, [.imm 1, .imm 5]), (44, [.imm 1, .imm 5]), (50, [.imm 1]), (51, [.int .i64]), (55, [.imm 1]), (58, [.imm 1, .imm 5]), (1000000, [])] [] true [] 1 2097152 F72b0) u72_0 s72_0 N72_0 2097152) (evc R 1 2097152 (.loop [0, 2, 3, 5] F72b0)) := lqP_tells (evp_tells Q24_ok (loops_of (l := []) (by kernel_rfl) trivial)) hu72_0 hN72_0
noncomputable def lq72_0 : Lp := (24, lqP true false 1 [0, 2, 3, 5] (evp Q24 [(29, [.imm 1, .imm 5]), (44, [.imm 1, .imm 5]), (50, [.imm 1]), (51, [.int .i64]), (55, [.imm 1]), (58, [.imm 1, .imm 5]), (1000000, [])] [] true [] 1 2097152 F72b0) u72_0 s72_0 N72_0 2097152) :: []
noncomputable def w72_0 (v : V72_0) : V72_0 := (hid (loopV N72_0 2097152 v)).getD v
noncomputable def i72_0 (v : V72_0) : Bool := (hid (loopV N72_0 2097152 v)).isSome
noncomputable def y72_0 (x0 : Gl1Cur) : Gl1Cur × List Row := (g82 (g73 40 x0).2 (g73 40 x0).1)
noncomputable def y72_1 (x0 : Gl1Cur) : Gl1Cur × List Row := (g82 (g73 20 (y72_0 x0).1).2 (g73 20 (y72_0 x0).1).1)
noncomputable def y72_2 (x0 : Gl1Cur) : Nat := (List.length (g18 (y72_0 x0).2 (y72_1 x0).2).1.Bytes)
noncomputable def y72_3 (x0 : Gl1Cur) : Nat := (List.length (g18 (y72_0 x0).2 (y72_1 x0).2).1.Log)
noncomputable def y72_4 (x0 : Gl1Cur) : Bool := ((eqN (y72_2 x0) (y72_2 x0)) && ((eqN (y72_3 x0) (y72_3 x0)) && true))
noncomputable def y72_5 (x0 : Gl1Cur) : V72_0 := (w72_0 (V72_0.mk (g73 6 (y72_1 x0).1).1 (GBus.mk [] []) (g18 (y72_0 x0).2 (y72_1 x0).2).1 (g73 6 (y72_1 x0).1).2))
noncomputable def y72_6 (x0 : Gl1Cur) : List Row := (List.set (y72_5 x0).b2.Bytes 3 (rowI 256))
noncomputable def y72_7 (x0 : Gl1Cur) : Bool := ((leN (0 + (List.length (y72_5 x0).b2.Log)) (List.length (y72_5 x0).b2.Log)) && true)
noncomputable def y72_8 (x0 : Gl1Cur) : Bool := ((eqN (List.length (y72_5 x0).b2.Log) (List.length (y72_5 x0).b2.Log)) && true)
noncomputable def y72_9 (x0 : Gl1Cur) : Bool := (((eqN (List.length (y72_5 x0).b2.Bytes) (List.length (y72_5 x0).b2.Bytes)) && (y72_8 x0)) && true)
noncomputable def y72_10 (x0 : Gl1Cur) : List Row := (List.take (List.length (y72_5 x0).b2.Bytes) (y72_6 x0))
noncomputable def y72_11 (x0 : Gl1Cur) : List Row := (List.take (List.length (y72_5 x0).b2.Log) (y72_5 x0).b2.Log)
noncomputable def y72_12 (x0 : Gl1Cur) : Bool := ((eqN (List.length (y72_5 x0).b2.Log) (List.length (y72_11 x0))) && true)
noncomputable def y72_13 (x0 : Gl1Cur) : Bool := (leN (0 + (List.length (y72_5 x0).b2.Bytes)) (List.length (y72_5 x0).b2.Bytes))
noncomputable def y72_14 (x0 : Gl1Cur) : List Row := (List.take (List.length (y72_5 x0).b2.Bytes) (y72_5 x0).b2.Bytes)
noncomputable def T72 (x0 : Gl1Cur) : Pt (Gl1Cur × GBus) := (.ok true (.ok ((k73 40 x0) && ((k82 (g73 40 x0).2 (g73 40 x0).1) && ((k73 20 (y72_0 x0).1) && ((k82 (g73 20 (y72_0 x0).1).2 (g73 20 (y72_0 x0).1).1) && ((((eqN (List.length (y72_0 x0).2) (List.length (y72_0 x0).2)) && ((eqN (List.length (y72_1 x0).2) (List.length (y72_1 x0).2)) && true)) && (k18 (y72_0 x0).2 (y72_1 x0).2)) && true))))) (.ok ((k73 6 (y72_1 x0).1) && true) (.ok (((y72_4 x0) && (y72_4 x0)) && true) (.ok (y72_4 x0) (.ok (i72_0 (V72_0.mk (g73 6 (y72_1 x0).1).1 (GBus.mk [] []) (g18 (y72_0 x0).2 (y72_1 x0).2).1 (g73 6 (y72_1 x0).1).2)) (.ok ((k73 40 (y72_5 x0).b0) && true) (.ok true (.br (eqI (g73 40 (y72_5 x0).b0).2 0) (.ok ((ltI 3 (lenI (y72_5 x0).b2.Bytes)) && (((blt 3 (List.length (y72_5 x0).b2.Bytes)) && (beqN (rlen (y72_5 x0).b2.Bytes 3) 1)) && true)) (.ok true (.ok ((((leN (0 + (List.length (y72_5 x0).b2.Bytes)) (List.length (y72_6 x0))) && (y72_7 x0)) && (y72_9 x0)) && (((eqN (List.length (y72_5 x0).b2.Bytes) (List.length (y72_10 x0))) && (y72_12 x0)) && true)) (.leaf ((g73 40 (y72_5 x0).b0).1, (GBus.mk (y72_10 x0) (y72_11 x0))))))) (.ok true (.br (eqI (g73 40 (y72_5 x0).b0).2 1) (.ok (((y72_13 x0) && (leI 500 (lenI (y72_5 x0).b2.Bytes))) && true) (.ok true (.ok ((((leN 500 (List.length (y72_5 x0).b2.Bytes)) && (y72_7 x0)) && ((y72_8 x0) && true)) && (((eqN 500 (List.length (List.take 500 (y72_5 x0).b2.Bytes))) && (y72_12 x0)) && true)) (.leaf ((g73 40 (y72_5 x0).b0).1, (GBus.mk (List.take 500 (y72_5 x0).b2.Bytes) (y72_11 x0))))))) (.ok true (.ok ((((y72_13 x0) && (y72_7 x0)) && (y72_9 x0)) && (((eqN (List.length (y72_5 x0).b2.Bytes) (List.length (y72_14 x0))) && (y72_12 x0)) && true)) (.leaf ((g73 40 (y72_5 x0).b0).1, (GBus.mk (y72_14 x0) (y72_11 x0)))))))))))))))))
noncomputable def g72 (x0 : Gl1Cur) : Gl1Cur × GBus := hid (T72 x0).val
noncomputable def k72 (x0 : Gl1Cur) : Bool := hid (T72 x0).okv
noncomputable def n72 (x0 : Gl1Cur) (r : Gl1Cur × GBus) : SV × List Blk := ((.agg [.sl 1 0 (List.length r.2.Bytes), .sl 2 0 (List.length r.2.Log)]), [.box [.imm true 1 r.1.fcode, .lit (.int .i64 r.1.fat), .lit (.int .u64 r.1.fseed)], .lst 1 r.2.Bytes, .lst 5 r.2.Log])
theorem e72 (x0 : Gl1Cur) : fnP Q24 [(29, [.imm 1, .imm 5]), (44, [.imm 1, .imm 5]), (50, [.imm 1]), (51, [.int .i64]), (55, [.imm 1]), (58, [.imm 1, .imm 5]), (1000000, [])] [] true lq72_0 2097152 F72 [(.one (.ptr 0 0 0))] [.box [.imm true 1 x0.fcode, .lit (.int .i64 x0.fat), .lit (.int .u64 x0.fseed)]] = some ((T72 x0).map (n72 x0)) := by kernel_rfl
noncomputable def q72 : List SV → List Blk → Option ((SV × List Blk) × Bool)
  | [(.one (.ptr 0 0 0))], [.box [.imm true 1 c0, .lit (.int .i64 c1), .lit (.int .u64 c2)]] => some (n72 (Gl1Cur.mk c0 c1 c2) (g72 (Gl1Cur.mk c0 c1 c2)), k72 (Gl1Cur.mk c0 c1 c2))
  | _, _ => none
theorem hL72 : Loops (fun live x => TellsP (lpAt lq72_0 (tagC x)) (evc R 1 2097152 (.loop live x))) F72.body := (loops_of (l := [([0, 2, 3, 5], F72b0)]) (by kernel_rfl) ⟨fun σ σr t h ho hl => lt72_0 σ σr t h ho hl, trivial⟩)
theorem t72 (args : List SV) (hp : List Blk) (r : SV × List Blk) (h : q72 args hp = some (r, true)) : frzR R 72 args hp = some r := by
  unfold q72 at h
  split at h
  · rename_i c0 c1 c2
    obtain ⟨hr, hk⟩ := Prod.mk.inj (Option.some.inj h)
    exact (frz_lo (by decide)).trans (R_fn at72 2097152 (fnP_c Q24_ok hL72 (e72 (Gl1Cur.mk c0 c1 c2)) hr hk))
  · simp at h
noncomputable def Q72 : Qt := qcons 72 q72 Q24
theorem Q72_ok : QOk (frzR R) Q72 := qcons_ok t72 Q24_ok
/-! (*spec.l1Cur).size -/
noncomputable def y92_0 (x0 : Gl1Cur) : Gl1Cur × Int := (g91 [(rowI 1), (rowI 2), (rowI 2), (rowI 1), (rowI 1), (rowI 2), (rowI 2), (rowI 2), (rowI 0), (rowI 3)] x0)
noncomputable def T92 (x0 : Gl1Cur) : Pt (Gl1Cur × Int) := (.ok true (.ok ((k91 [(rowI 1), (rowI 2), (rowI 2), (rowI 1), (rowI 1), (rowI 2), (rowI 2), (rowI 2), (rowI 0), (rowI 3)] x0) && true) (.ok true (.leaf ((y92_0 x0).1, (y92_0 x0).2)))))
noncomputable def g92 (x0 : Gl1Cur) : Gl1Cur × Int := hid (T92 x0).val
noncomputable def k92 (x0 : Gl1Cur) : Bool := hid (T92 x0).okv
noncomputable def n92 (x0 : Gl1Cur) (r : Gl1Cur × Int) : SV × List Blk := ((.one (.lit (.int .i64 r.2))), [.box [.imm true 1 r.1.fcode, .lit (.int .i64 r.1.fat), .lit (.int .u64 r.1.fseed)]])
theorem e92 (x0 : Gl1Cur) : fnP Q72 [] [] true [] 2097152 F92 [(.one (.ptr 0 0 0))] [.box [.imm true 1 x0.fcode, .lit (.int .i64 x0.fat), .lit (.int .u64 x0.fseed)]] = some ((T92 x0).map (n92 x0)) := by kernel_rfl
noncomputable def q92 : List SV → List Blk → Option ((SV × List Blk) × Bool)
  | [(.one (.ptr 0 0 0))], [.box [.imm true 1 c0, .lit (.int .i64 c1), .lit (.int .u64 c2)]] => some (n92 (Gl1Cur.mk c0 c1 c2) (g92 (Gl1Cur.mk c0 c1 c2)), k92 (Gl1Cur.mk c0 c1 c2))
  | _, _ => none
theorem t92 (args : List SV) (hp : List Blk) (r : SV × List Blk) (h : q92 args hp = some (r, true)) : frzR R 92 args hp = some r := by
  unfold q92 at h
  split at h
  · rename_i c0 c1 c2
    obtain ⟨hr, hk⟩ := Prod.mk.inj (Option.some.inj h)
    exact (frz_lo (by decide)).trans (R_fn at92 2097152 (fnP_c Q72_ok (loops_of (l := []) rfl trivial) (e92 (Gl1Cur.mk c0 c1 c2)) hr hk))
  · simp at h
noncomputable def Q92 : Qt := qcons 92 q92 Q72
theorem Q92_ok : QOk (frzR R) Q92 := qcons_ok t92 Q72_ok
/-! (*spec.l1Cur).one -/
noncomputable def T83 (x1 : Int) (x0 : Gl1Cur) : Pt (Gl1Cur × Bool) := (.ok true (.ok ((k73 x1 x0) && true) (.ok true (.leaf ((g73 x1 x0).1, (eqI (g73 x1 x0).2 0))))))
noncomputable def g83 (x1 : Int) (x0 : Gl1Cur) : Gl1Cur × Bool := hid (T83 x1 x0).val
noncomputable def k83 (x1 : Int) (x0 : Gl1Cur) : Bool := hid (T83 x1 x0).okv
noncomputable def n83 (x1 : Int) (x0 : Gl1Cur) (r : Gl1Cur × Bool) : SV × List Blk := ((.one (.lit (.bool r.2))), [.box [.imm true 1 r.1.fcode, .lit (.int .i64 r.1.fat), .lit (.int .u64 r.1.fseed)]])
theorem e83 (x1 : Int) (x0 : Gl1Cur) : fnP Q92 [] [] true [] 2097152 F83 [(.one (.ptr 0 0 0)), (.one (.lit (.int .i64 x1)))] [.box [.imm true 1 x0.fcode, .lit (.int .i64 x0.fat), .lit (.int .u64 x0.fseed)]] = some ((T83 x1 x0).map (n83 x1 x0)) := by kernel_rfl
noncomputable def q83 : List SV → List Blk → Option ((SV × List Blk) × Bool)
  | [(.one (.ptr 0 0 0)), (.one (.lit (.int .i64 c0)))], [.box [.imm true 1 c1, .lit (.int .i64 c2), .lit (.int .u64 c3)]] => some (n83 c0 (Gl1Cur.mk c1 c2 c3) (g83 c0 (Gl1Cur.mk c1 c2 c3)), k83 c0 (Gl1Cur.mk c1 c2 c3))
  | _, _ => none
theorem t83 (args : List SV) (hp : List Blk) (r : SV × List Blk) (h : q83 args hp = some (r, true)) : frzR R 83 args hp = some r := by
  unfold q83 at h
  split at h
  · rename_i c0 c1 c2 c3
    obtain ⟨hr, hk⟩ := Prod.mk.inj (Option.some.inj h)
    exact (frz_lo (by decide)).trans (R_fn at83 2097152 (fnP_c Q92_ok (loops_of (l := []) rfl trivial) (e83 c0 (Gl1Cur.mk c1 c2 c3)) hr hk))
  · simp at h
noncomputable def Q83 : Qt := qcons 83 q83 Q92
theorem Q83_ok : QOk (frzR R) Q83 := qcons_ok t83 Q92_ok
/-! (*spec.l1Cur).value -/
noncomputable def y150_0 (x0 : Gl1Cur) : Gl1Cur × Int := (g91 [(rowI 0), (rowI 1), (rowI 127), (rowI 128), (rowI 255), (rowI 256), (rowI 32767), (rowI 32768), (rowI 65535), (rowI 65536), (rowI (-1))] (g83 2 x0).1)
noncomputable def y150_1 (x0 : Gl1Cur) : Gl1Cur × Int := (g73 2 (g73 256 (g83 2 x0).1).1)
noncomputable def T150 (x0 : Gl1Cur) : Pt (Gl1Cur × Int) := (.ok true (.ok ((k83 2 x0) && true) (.br (g83 2 x0).2 (.ok ((k91 [(rowI 0), (rowI 1), (rowI 127), (rowI 128), (rowI 255), (rowI 256), (rowI 32767), (rowI 32768), (rowI 65535), (rowI 65536), (rowI (-1))] (g83 2 x0).1) && true) (.ok true (.leaf ((y150_0 x0).1, (y150_0 x0).2)))) (.ok ((k73 256 (g83 2 x0).1) && ((k73 2 (g73 256 (g83 2 x0).1).1) && ((k73 256 (y150_1 x0).1) && true))) (.ok true (.leaf ((g73 256 (y150_1 x0).1).1, (addI (mulI (mulI (g73 256 (g83 2 x0).1).2 (y150_1 x0).2) 256) (g73 256 (y150_1 x0).1).2))))))))
noncomputable def g150 (x0 : Gl1Cur) : Gl1Cur × Int := hid (T150 x0).val
noncomputable def k150 (x0 : Gl1Cur) : Bool := hid (T150 x0).okv
noncomputable def n150 (x0 : Gl1Cur) (r : Gl1Cur × Int) : SV × List Blk := ((.one (.lit (.int .i64 r.2))), [.box [.imm true 1 r.1.fcode, .lit (.int .i64 r.1.fat), .lit (.int .u64 r.1.fseed)]])
theorem e150 (x0 : Gl1Cur) : fnP Q83 [] [] true [] 2097152 F150 [(.one (.ptr 0 0 0))] [.box [.imm true 1 x0.fcode, .lit (.int .i64 x0.fat), .lit (.int .u64 x0.fseed)]] = some ((T150 x0).map (n150 x0)) := by kernel_rfl
noncomputable def q150 : List SV → List Blk → Option ((SV × List Blk) × Bool)
  | [(.one (.ptr 0 0 0))], [.box [.imm true 1 c0, .lit (.int .i64 c1), .lit (.int .u64 c2)]] => some (n150 (Gl1Cur.mk c0 c1 c2) (g150 (Gl1Cur.mk c0 c1 c2)), k150 (Gl1Cur.mk c0 c1 c2))
  | _, _ => none
theorem t150 (args : List SV) (hp : List Blk) (r : SV × List Blk) (h : q150 args hp = some (r, true)) : frzR R 150 args hp = some r := by
  unfold q150 at h
  split at h
  · rename_i c0 c1 c2
    obtain ⟨hr, hk⟩ := Prod.mk.inj (Option.some.inj h)
    exact (frz_lo (by decide)).trans (R_fn at150 2097152 (fnP_c Q83_ok (loops_of (l := []) rfl trivial) (e150 (Gl1Cur.mk c0 c1 c2)) hr hk))
  · simp at h
noncomputable def Q150 : Qt := qcons 150 q150 Q83
theorem Q150_ok : QOk (frzR R) Q150 := qcons_ok t150 Q83_ok
/-! (*spec.l1Cur).fit -/
noncomputable def T93 (x1 : Int) (x0 : Gl1Cur) : Pt (Gl1Cur × Int) := (.ok true (.ok ((k150 x0) && true) (.ok ((((k83 20 (g150 x0).1) && true) || (!(eqI x1 1))) && true) (.ok true (.ok true (.ok true (.leaf ((Gl1Cur.mk (bif (eqI x1 1) then (g83 20 (g150 x0).1).1.fcode else (g150 x0).1.fcode) (bif (eqI x1 1) then (g83 20 (g150 x0).1).1.fat else (g150 x0).1.fat) (bif (eqI x1 1) then (g83 20 (g150 x0).1).1.fseed else (g150 x0).1.fseed)), (bif (bif (eqI x1 1) then (!(g83 20 (g150 x0).1).2) else false) then (andI (g150 x0).2 255) else (g150 x0).2)))))))))
noncomputable def g93 (x1 : Int) (x0 : Gl1Cur) : Gl1Cur × Int := hid (T93 x1 x0).val
noncomputable def k93 (x1 : Int) (x0 : Gl1Cur) : Bool := hid (T93 x1 x0).okv
noncomputable def n93 (x1 : Int) (x0 : Gl1Cur) (r : Gl1Cur × Int) : SV × List Blk := ((.one (.lit (.int .i64 r.2))), [.box [.imm true 1 r.1.fcode, .lit (.int .i64 r.1.fat), .lit (.int .u64 r.1.fseed)]])
theorem e93 (x1 : Int) (x0 : Gl1Cur) : fnP Q150 [] [] true [] 2097152 F93 [(.one (.ptr 0 0 0)), (.one (.lit (.int .i64 x1)))] [.box [.imm true 1 x0.fcode, .lit (.int .i64 x0.fat), .lit (.int .u64 x0.fseed)]] = some ((T93 x1 x0).map (n93 x1 x0)) := by kernel_rfl
noncomputable def q93 : List SV → List Blk → Option ((SV × List Blk) × Bool)
  | [(.one (.ptr 0 0 0)), (.one (.lit (.int .i64 c0)))], [.box [.imm true 1 c1, .lit (.int .i64 c2), .lit (.int .u64 c3)]] => some (n93 c0 (Gl1Cur.mk c1 c2 c3) (g93 c0 (Gl1Cur.mk c1 c2 c3)), k93 c0 (Gl1Cur.mk c1 c2 c3))
  | _, _ => none
theorem t93 (args : List SV) (hp : List Blk) (r : SV × List Blk) (h : q93 args hp = some (r, true)) : frzR R 93 args hp = some r := by
  unfold q93 at h
  split at h
  · rename_i c0 c1 c2 c3
    obtain ⟨hr, hk⟩ := Prod.mk.inj (Option.some.inj h)
    exact (frz_lo (by decide)).trans (R_fn at93 2097152 (fnP_c Q150_ok (loops_of (l := []) rfl trivial) (e93 c0 (Gl1Cur.mk c1 c2 c3)) hr hk))
  · simp at h
noncomputable def Q93 : Qt := qcons 93 q93 Q150
theorem Q93_ok : QOk (frzR R) Q93 := qcons_ok t93 Q150_ok
/-! spec.DrawTouch -/
noncomputable def y22_0 (x0 : List Row) : Gl1Cur × Int := (g91 [(rowI 1), (rowI 2), (rowI 2), (rowI 3), (rowI 4)] (g72 (Gl1Cur.mk x0 0 0)).1)
noncomputable def y22_1 (x0 : List Row) : Gl1Cur × Bool := (g83 20 (g92 (y22_0 x0).1).1)
noncomputable def y22_2 (x0 : List Row) : Gl1Cur := (Gl1Cur.mk (bif (!(eqI (y22_0 x0).2 2)) then (y22_1 x0).1.fcode else (g92 (y22_0 x0).1).1.fcode) (bif (!(eqI (y22_0 x0).2 2)) then (y22_1 x0).1.fat else (g92 (y22_0 x0).1).1.fat) (bif (!(eqI (y22_0 x0).2 2)) then (y22_1 x0).1.fseed else (g92 (y22_0 x0).1).1.fseed))
noncomputable def y22_3 (x0 : List Row) : Gl1Cur × Int := (g93 (g92 (y22_0 x0).1).2 (y22_2 x0))
noncomputable def y22_4 (x0 : List Row) : Bool := (same (α := Int) (y22_0 x0).2 (y22_0 x0).2)
noncomputable def y22_5 (x0 : List Row) : Bool := (same (α := Int) (g92 (y22_0 x0).1).2 (g92 (y22_0 x0).1).2)
noncomputable def y22_6 (x0 : List Row) : Nat := (List.length (g72 (Gl1Cur.mk x0 0 0)).2.Bytes)
noncomputable def y22_7 (x0 : List Row) : Nat := (bif (!(eqI (y22_0 x0).2 2)) then (y22_6 x0) else (y22_6 x0))
noncomputable def y22_8 (x0 : List Row) : Nat := (List.length (g72 (Gl1Cur.mk x0 0 0)).2.Log)
noncomputable def y22_9 (x0 : List Row) : Nat := (bif (!(eqI (y22_0 x0).2 2)) then (y22_8 x0) else (y22_8 x0))
noncomputable def y22_10 (x0 : List Row) : Bool := ((same (α := Nat) (y22_7 x0) (y22_7 x0)) && ((same (α := Nat) (y22_9 x0) (y22_9 x0)) && true))
noncomputable def y22_11 (x0 : List Row) : List Row := (bif (!(eqI (y22_0 x0).2 2)) then (g72 (Gl1Cur.mk x0 0 0)).2.Bytes else (g72 (Gl1Cur.mk x0 0 0)).2.Bytes)
noncomputable def y22_12 (x0 : List Row) : List Row := (bif (!(eqI (y22_0 x0).2 2)) then (g72 (Gl1Cur.mk x0 0 0)).2.Log else (g72 (Gl1Cur.mk x0 0 0)).2.Log)
noncomputable def y22_13 (x0 : List Row) : List Row := (bif (!(eqI (y22_0 x0).2 2)) then [(rowI 1), (rowI 2), (rowI 2), (rowI 3), (rowI 4)] else [(rowI 1), (rowI 2), (rowI 2), (rowI 3), (rowI 4)])
noncomputable def y22_14 (x0 : List Row) : Bool := ((sameR (y22_11 x0) (y22_11 x0)) && ((sameR (y22_12 x0) (y22_12 x0)) && ((y22_10 x0) && ((sameR (y22_13 x0) (y22_13 x0)) && true))))
noncomputable def y22_15 (x0 : List Row) : Bool := (((y22_4 x0) && ((y22_5 x0) && ((same (α := Int) (g79 (y22_3 x0).1).2 (g79 (y22_3 x0).1).2) && ((same (α := Int) (y22_3 x0).2 (y22_3 x0).2) && true)))) && ((y22_10 x0) && ((((same (α := Bool) true true) && (sameR (g79 (y22_3 x0).1).1.fcode (g79 (y22_3 x0).1).1.fcode)) && ((same (α := Int) (g79 (y22_3 x0).1).1.fat (g79 (y22_3 x0).1).1.fat) && ((same (α := Int) (g79 (y22_3 x0).1).1.fseed (g79 (y22_3 x0).1).1.fseed) && true))) && (y22_14 x0))))
noncomputable def y22_16 (x0 : List Row) : Nat := (List.length (List.take (y22_7 x0) (y22_11 x0)))
noncomputable def y22_17 (x0 : List Row) : Nat := (List.length (List.take (y22_9 x0) (y22_12 x0)))
noncomputable def y22_18 (x0 : List Row) : Bool := ((((leN (0 + (y22_7 x0)) (List.length (y22_11 x0))) && ((leN (0 + (y22_9 x0)) (List.length (y22_12 x0))) && true)) && (((eqN (y22_7 x0) (y22_7 x0)) && ((eqN (y22_9 x0) (y22_9 x0)) && true)) && true)) && ((((eqN (y22_7 x0) (y22_16 x0)) && ((eqN (y22_9 x0) (y22_17 x0)) && true)) && true) && true))
noncomputable def y22_19 (x0 : List Row) : Bool := (((eqN (y22_16 x0) (y22_16 x0)) && ((eqN (y22_17 x0) (y22_17 x0)) && true)) && true)
noncomputable def y22_20 (x0 : List Row) : Bool := (((y22_4 x0) && ((y22_5 x0) && ((same (α := Int) (g79 (y22_2 x0)).2 (g79 (y22_2 x0)).2) && ((same (α := Int) 0 0) && true)))) && ((y22_10 x0) && ((((same (α := Bool) true true) && (sameR (g79 (y22_2 x0)).1.fcode (g79 (y22_2 x0)).1.fcode)) && ((same (α := Int) (g79 (y22_2 x0)).1.fat (g79 (y22_2 x0)).1.fat) && ((same (α := Int) (g79 (y22_2 x0)).1.fseed (g79 (y22_2 x0)).1.fseed) && true))) && (y22_14 x0))))
noncomputable def T22 (x0 : List Row) : Pt (GBus × Int × Int × Int × Int) := (.ok true (.ok true (.ok ((k72 (Gl1Cur.mk x0 0 0)) && true) (.ok ((k91 [(rowI 1), (rowI 2), (rowI 2), (rowI 3), (rowI 4)] (g72 (Gl1Cur.mk x0 0 0)).1) && true) (.ok ((k92 (y22_0 x0).1) && true) (.ok true (.ok ((((k83 20 (g92 (y22_0 x0).1).1) && true) || (eqI (y22_0 x0).2 2)) && true) (.br (bif (eqI (y22_0 x0).2 2) then true else (y22_1 x0).2) (.ok ((k93 (g92 (y22_0 x0).1).2 (y22_2 x0)) && true) (.ok ((((k79 (y22_3 x0).1) && true) && true) && ((((k79 (y22_3 x0).1) && true) && true) && (y22_15 x0))) (.ok (y22_18 x0) (.ok (y22_19 x0) (.leaf ((GBus.mk (List.take (y22_7 x0) (y22_11 x0)) (List.take (y22_9 x0) (y22_12 x0))), (y22_0 x0).2, (g92 (y22_0 x0).1).2, (g79 (y22_3 x0).1).2, (y22_3 x0).2)))))) (.ok ((((k79 (y22_2 x0)) && true) && true) && ((((k79 (y22_2 x0)) && true) && true) && (y22_20 x0))) (.ok (y22_18 x0) (.ok (y22_19 x0) (.leaf ((GBus.mk (List.take (y22_7 x0) (y22_11 x0)) (List.take (y22_9 x0) (y22_12 x0))), (y22_0 x0).2, (g92 (y22_0 x0).1).2, (g79 (y22_2 x0)).2, 0)))))))))))))
noncomputable def g22 (x0 : List Row) : GBus × Int × Int × Int × Int := hid (T22 x0).val
noncomputable def k22 (x0 : List Row) : Bool := hid (T22 x0).okv
noncomputable def n22 (x0 : List Row) (r : GBus × Int × Int × Int × Int) : SV × List Blk := ((.tup [(.agg [.imm true 1 r.1.Bytes, .imm true 5 r.1.Log]), (.one (.lit (.int .i64 r.2.1))), (.one (.lit (.int .i64 r.2.2.1))), (.one (.lit (.int .i64 r.2.2.2.1))), (.one (.lit (.int .i64 r.2.2.2.2)))]), [])
theorem e22 (x0 : List Row) : fnZ Q93 [(31, [.imm 1, .imm 5]), (1000000, [])] [] true [] 2097152 F22 [(.one (.imm true 1 x0))] = some ((T22 x0).map (n22 x0)) := by kernel_rfl
noncomputable def q22 : List SV → List Blk → Option ((SV × List Blk) × Bool)
  | [(.one (.imm true 1 c0))], [] => some (n22 c0 (g22 c0), k22 c0)
  | _, _ => none
theorem t22 (args : List SV) (hp : List Blk) (r : SV × List Blk) (h : q22 args hp = some (r, true)) : frzR R 100022 args hp = some r := by
  unfold q22 at h
  split at h
  · rename_i c0
    obtain ⟨hr, hk⟩ := Prod.mk.inj (Option.some.inj h)
    exact fnZ_c (f := 22) Q93_ok (loops_of (l := []) rfl trivial) (e22 c0) hr hk (fun r h => R_fn at22 2097152 h)
  · simp at h
noncomputable def Q22 : Qt := qcons 100022 q22 Q93
theorem Q22_ok : QOk (frzR R) Q22 := qcons_ok t22 Q93_ok
/-! impl.within -/
noncomputable def T74 (x0 : Int) (x1 : Int) (x2 : Int) : Pt (Bool) := (.ok true (.ok true (.ok true (.ok true (.leaf (bif (geI x0 x1) then (leI x0 x2) else false))))))
noncomputable def g74 (x0 : Int) (x1 : Int) (x2 : Int) : Bool := hid (T74 x0 x1 x2).val
noncomputable def k74 (x0 : Int) (x1 : Int) (x2 : Int) : Bool := hid (T74 x0 x1 x2).okv
noncomputable def n74 (x0 : Int) (x1 : Int) (x2 : Int) (r : Bool) : SV × List Blk := ((.one (.lit (.bool r))), [])
theorem e74 (x0 : Int) (x1 : Int) (x2 : Int) : fnZ Q22 [] [] true [] 2097152 F74 [(.one (.lit (.int .i64 x0))), (.one (.lit (.int .i64 x1))), (.one (.lit (.int .i64 x2)))] = some ((T74 x0 x1 x2).map (n74 x0 x1 x2)) := by kernel_rfl
noncomputable def q74 : List SV → List Blk → Option ((SV × List Blk) × Bool)
  | [(.one (.lit (.int .i64 c0))), (.one (.lit (.int .i64 c1))), (.one (.lit (.int .i64 c2)))], [] => some (n74 c0 c1 c2 (g74 c0 c1 c2), k74 c0 c1 c2)
  | _, _ => none
theorem t74 (args : List SV) (hp : List Blk) (r : SV × List Blk) (h : q74 args hp = some (r, true)) : frzR R 100074 args hp = some r := by
  unfold q74 at h
  split at h
  · rename_i c0 c1 c2
    obtain ⟨hr, hk⟩ := Prod.mk.inj (Option.some.inj h)
    exact fnZ_c (f := 74) Q22_ok (loops_of (l := []) rfl trivial) (e74 c0 c1 c2) hr hk (fun r h => R_fn at74 2097152 h)
  · simp at h
noncomputable def Q74 : Qt := qcons 100074 q74 Q22
theorem Q74_ok : QOk (frzR R) Q74 := qcons_ok t74 Q22_ok
/-! impl.GoodBus$1 -/
noncomputable def T87 (x0 : Int) : Pt (Bool) := (.ok true (.ok ((k74 x0 0 255) && true) (.ok true (.leaf (!(g74 x0 0 255))))))
noncomputable def g87 (x0 : Int) : Bool := hid (T87 x0).val
noncomputable def k87 (x0 : Int) : Bool := hid (T87 x0).okv
noncomputable def n87 (x0 : Int) (r : Bool) : SV × List Blk := ((.one (.lit (.bool r))), [])
theorem e87 (x0 : Int) : fnP Q74 [] [] true [] 2097152 F87 [(.one (.lit (.int .i64 x0)))] [] = some ((T87 x0).map (n87 x0)) := by kernel_rfl
noncomputable def q87 : List SV → List Blk → Option ((SV × List Blk) × Bool)
  | [(.one (.lit (.int .i64 c0)))], [] => some (n87 c0 (g87 c0), k87 c0)
  | _, _ => none
theorem t87 (args : List SV) (hp : List Blk) (r : SV × List Blk) (h : q87 args hp = some (r, true)) : frzR R 87 args hp = some r := by
  unfold q87 at h
  split at h
  · rename_i c0
    obtain ⟨hr, hk⟩ := Prod.mk.inj (Option.some.inj h)
    exact (frz_lo (by decide)).trans (R_fn at87 2097152 (fnP_c Q74_ok (loops_of (l := []) rfl trivial) (e87 c0) hr hk))
  · simp at h
noncomputable def Q87 : Qt := qcons 87 q87 Q74
theorem Q87_ok : QOk (frzR R) Q87 := qcons_ok t87 Q74_ok
/-! slices.IndexFunc[[]int,int] -/
structure V149_0 where
  mk ::
  (s0 : List Row)
  (s7 : Int)
  (s8 : Int)
noncomputable def N149_0 (v : V149_0) : Pt (Option V149_0) := (.ok true (.br (ltI v.s8 v.s7) (.ok true (.ok ((inRow [.int .i64] v.s0 v.s8) && ((k87 (intAt v.s0 (Int.toNat v.s8) 0)) && true)) (.br (g87 (intAt v.s0 (Int.toNat v.s8) 0)) (.ok true (.leaf none)) (.ok true (.ok true (.leaf (some { v with s8 := (addI v.s8 1) }))))))) (.leaf none)))
noncomputable def s149_0 (v : V149_0) : St := ⟨[(0, (.one (.imm true 1 v.s0))), (1, (.one (.clo 87 []))), (7, (.one (.lit (.int .i64 v.s7)))), (8, (.one (.lit (.int .i64 v.s8))))], []⟩
def u149_0 : St → Option (V149_0 × Bool)
  | ⟨[(0, (.one (.imm true 1 c0))), (1, (.one (.clo 87 []))), (7, (.one (.lit (.int .i64 c1)))), (8, (.one (.lit (.int .i64 c2))))], []⟩ => some ((V149_0.mk c0 c1 c2), true)
  | _ => none
theorem hN149_0 (v : V149_0) : ((evp Q87 [(14, [.int .i64]), (15, [.int .i64])] [] true [] 0 2097152 F149b0 (s149_0 v)).bind (stpT true false 0 [0, 1, 7, 8])) = some ((N149_0 v).map (Option.map s149_0)) := by kernel_rfl
theorem hu149_0 (σ : St) (v : V149_0) (h : u149_0 σ = some (v, true)) : σ = s149_0 v := by
  unfold u149_0 at h
  split at h
  · obtain ⟨hr, hk⟩ := Prod.mk.inj (Option.some.inj h)
    rw [← hr]
    rfl
  · simp at h
theorem lt149_0 : TellsP (lqP true false 0 [0, 1, 7, 8] (evp Q87 [(14, [.int .i64]), (15, [.int .i64])] [] true [] 0 2097152 F149b0) u149_0 s149_0 N149_0 2097152) (evc R 0 2097152 (.loop [0, 1, 7, 8] F149b0)) := lqP_tells (evp_tells Q87_ok (loops_of (l := []) (by kernel_rfl) trivial)) hu149_0 hN149_0
noncomputable def lq149_0 : Lp := (9, lqP true false 0 [0, 1, 7, 8] (evp Q87 [(14, [.int .i64]), (15, [.int .i64])] [] true [] 0 2097152 F149b0) u149_0 s149_0 N149_0 2097152) :: []
noncomputable def w149_0 (v : V149_0) : V149_0 := (hid (loopV N149_0 2097152 v)).getD v
noncomputable def i149_0 (v : V149_0) : Bool := (hid (loopV N149_0 2097152 v)).isSome
noncomputable def y149_0 (x0 : List Row) : V149_0 := (w149_0 (V149_0.mk x0 (lenI x0) 0))
noncomputable def T149 (x0 : List Row) : Pt (Int) := (.ok true (.ok true (.ok true (.ok true (.ok (i149_0 (V149_0.mk x0 (lenI x0) 0)) (.br (ltI (y149_0 x0).s8 (y149_0 x0).s7) (.ok true (.leaf (y149_0 x0).s8)) (.ok true (.ok true (.leaf (-1))))))))))
noncomputable def g149 (x0 : List Row) : Int := hid (T149 x0).val
noncomputable def k149 (x0 : List Row) : Bool := hid (T149 x0).okv
noncomputable def n149 (x0 : List Row) (r : Int) : SV × List Blk := ((.one (.lit (.int .i64 r))), [])
theorem e149 (x0 : List Row) : fnP Q87 [(14, [.int .i64]), (15, [.int .i64])] [] true lq149_0 2097152 F149 [(.one (.imm true 1 x0)), (.one (.clo 87 []))] [] = some ((T149 x0).map (n149 x0)) := by kernel_rfl
noncomputable def q149 : List SV → List Blk → Option ((SV × List Blk) × Bool)
  | [(.one (.imm true 1 c0)), (.one (.clo 87 []))], [] => some (n149 c0 (g149 c0), k149 c0)
  | _, _ => none
theorem hL149 : Loops (fun live x => TellsP (lpAt lq149_0 (tagC x)) (evc R 0 2097152 (.loop live x))) F149.body := (loops_of (l := [([0, 1, 7, 8], F149b0)]) (by kernel_rfl) ⟨fun σ σr t h ho hl => lt149_0 σ σr t h ho hl, trivial⟩)
theorem t149 (args : List SV) (hp : List Blk) (r : SV × List Blk) (h : q149 args hp = some (r, true)) : frzR R 149 args hp = some r := by
  unfold q149 at h
  split at h
  · rename_i c0
    obtain ⟨hr, hk⟩ := Prod.mk.inj (Option.some.inj h)
    exact (frz_lo (by decide)).trans (R_fn at149 2097152 (fnP_c Q87_ok hL149 (e149 c0) hr hk))
  · simp at h
noncomputable def Q149 : Qt := qcons 149 q149 Q87
theorem Q149_ok : QOk (frzR R) Q149 := qcons_ok t149 Q87_ok
/-! slices.ContainsFunc[[]int,int] -/
noncomputable def T86 (x0 : List Row) : Pt (Bool) := (.ok true (.ok ((k149 x0) && true) (.ok true (.leaf (geI (g149 x0) 0)))))
noncomputable def g86 (x0 : List Row) : Bool := hid (T86 x0).val
noncomputable def k86 (x0 : List Row) : Bool := hid (T86 x0).okv
noncomputable def n86 (x0 : List Row) (r : Bool) : SV × List Blk := ((.one (.lit (.bool r))), [])
theorem e86 (x0 : List Row) : fnP Q149 [] [] true [] 2097152 F86 [(.one (.imm true 1 x0)), (.one (.clo 87 []))] [] = some ((T86 x0).map (n86 x0)) := by kernel_rfl
noncomputable def q86 : List SV → List Blk → Option ((SV × List Blk) × Bool)
  | [(.one (.imm true 1 c0)), (.one (.clo 87 []))], [] => some (n86 c0 (g86 c0), k86 c0)
  | _, _ => none
theorem t86 (args : List SV) (hp : List Blk) (r : SV × List Blk) (h : q86 args hp = some (r, true)) : frzR R 86 args hp = some r := by
  unfold q86 at h
  split at h
  · rename_i c0
    obtain ⟨hr, hk⟩ := Prod.mk.inj (Option.some.inj h)
    exact (frz_lo (by decide)).trans (R_fn at86 2097152 (fnP_c Q149_ok (loops_of (l := []) rfl trivial) (e86 c0) hr hk))
  · simp at h
noncomputable def Q86 : Qt := qcons 86 q86 Q149
theorem Q86_ok : QOk (frzR R) Q86 := qcons_ok t86 Q149_ok
/-! impl.isWord -/
noncomputable def T94 (x0 : Int) : Pt (Bool) := (.ok true (.ok ((k74 x0 0 65535) && true) (.ok true (.ok true (.leaf (g74 x0 0 65535))))))
noncomputable def g94 (x0 : Int) : Bool := hid (T94 x0).val
noncomputable def k94 (x0 : Int) : Bool := hid (T94 x0).okv
noncomputable def n94 (x0 : Int) (r : Bool) : SV × List Blk := ((.one (.lit (.bool r))), [])
theorem e94 (x0 : Int) : fnZ Q86 [] [] true [] 2097152 F94 [(.one (.lit (.int .i64 x0)))] = some ((T94 x0).map (n94 x0)) := by kernel_rfl
noncomputable def q94 : List SV → List Blk → Option ((SV × List Blk) × Bool)
  | [(.one (.lit (.int .i64 c0)))], [] => some (n94 c0 (g94 c0), k94 c0)
  | _, _ => none
theorem t94 (args : List SV) (hp : List Blk) (r : SV × List Blk) (h : q94 args hp = some (r, true)) : frzR R 100094 args hp = some r := by
  unfold q94 at h
  split at h
  · rename_i c0
    obtain ⟨hr, hk⟩ := Prod.mk.inj (Option.some.inj h)
    exact fnZ_c (f := 94) Q86_ok (loops_of (l := []) rfl trivial) (e94 c0) hr hk (fun r h => R_fn at94 2097152 h)
  · simp at h
noncomputable def Q94 : Qt := qcons 100094 q94 Q86
theorem Q94_ok : QOk (frzR R) Q94 := qcons_ok t94 Q86_ok
/-! impl.isSize -/
noncomputable def T151 (x0 : Int) : Pt (Bool) := (.ok true (.ok true (.ok true (.ok true (.leaf (bif (eqI x0 1) then true else (eqI x0 2)))))))
noncomputable def g151 (x0 : Int) : Bool := hid (T151 x0).val
noncomputable def k151 (x0 : Int) : Bool := hid (T151 x0).okv
noncomputable def n151 (x0 : Int) (r : Bool) : SV × List Blk := ((.one (.lit (.bool r))), [])
theorem e151 (x0 : Int) : fnZ Q94 [] [] true [] 2097152 F151 [(.one (.lit (.int .i64 x0)))] = some ((T151 x0).map (n151 x0)) := by kernel_rfl
noncomputable def q151 : List SV → List Blk → Option ((SV × List Blk) × Bool)
  | [(.one (.lit (.int .i64 c0)))], [] => some (n151 c0 (g151 c0), k151 c0)
  | _, _ => none
theorem t151 (args : List SV) (hp : List Blk) (r : SV × List Blk) (h : q151 args hp = some (r, true)) : frzR R 100151 args hp = some r := by
  unfold q151 at h
  split at h
  · rename_i c0
    obtain ⟨hr, hk⟩ := Prod.mk.inj (Option.some.inj h)
    exact fnZ_c (f := 151) Q94_ok (loops_of (l := []) rfl trivial) (e151 c0) hr hk (fun r h => R_fn at151 2097152 h)
  · simp at h
noncomputable def Q151 : Qt := qcons 100151 q151 Q94
theorem Q151_ok : QOk (frzR R) Q151 := qcons_ok t151 Q94_ok
/-! impl.limitOf -/
noncomputable def T152 (x0 : Int) : Pt (Int) := (.ok true (.ok ((leI 0 (mulI 8 x0)) && true) (.ok true (.ok true (.leaf (shlI 1 (mulI 8 x0)))))))
noncomputable def g152 (x0 : Int) : Int := hid (T152 x0).val
noncomputable def k152 (x0 : Int) : Bool := hid (T152 x0).okv
noncomputable def n152 (x0 : Int) (r : Int) : SV × List Blk := ((.one (.lit (.int .i64 r))), [])
theorem e152 (x0 : Int) : fnZ Q151 [] [] true [] 2097152 F152 [(.one (.lit (.int .i64 x0)))] = some ((T152 x0).map (n152 x0)) := by kernel_rfl
noncomputable def q152 : List SV → List Blk → Option ((SV × List Blk) × Bool)
  | [(.one (.lit (.int .i64 c0)))], [] => some (n152 c0 (g152 c0), k152 c0)
  | _, _ => none
theorem t152 (args : List SV) (hp : List Blk) (r : SV × List Blk) (h : q152 args hp = some (r, true)) : frzR R 100152 args hp = some r := by
  unfold q152 at h
  split at h
  · rename_i c0
    obtain ⟨hr, hk⟩ := Prod.mk.inj (Option.some.inj h)
    exact fnZ_c (f := 152) Q151_ok (loops_of (l := []) rfl trivial) (e152 c0) hr hk (fun r h => R_fn at152 2097152 h)
  · simp at h
noncomputable def Q152 : Qt := qcons 100152 q152 Q151
theorem Q152_ok : QOk (frzR R) Q152 := qcons_ok t152 Q151_ok
/-! impl.isValue -/
noncomputable def T95 (x0 : Int) (x1 : Int) : Pt (Bool) := (.ok true (.ok ((k151 x0) && ((((k152 x0) && ((k74 x1 0 (subI (g152 x0) 1)) && true)) || (!(g151 x0))) && true)) (.ok true (.ok true (.leaf (bif (g151 x0) then (g74 x1 0 (subI (g152 x0) 1)) else false))))))
noncomputable def g95 (x0 : Int) (x1 : Int) : Bool := hid (T95 x0 x1).val
noncomputable def k95 (x0 : Int) (x1 : Int) : Bool := hid (T95 x0 x1).okv
noncomputable def n95 (x0 : Int) (x1 : Int) (r : Bool) : SV × List Blk := ((.one (.lit (.bool r))), [])
theorem e95 (x0 : Int) (x1 : Int) : fnZ Q152 [] [] true [] 2097152 F95 [(.one (.lit (.int .i64 x0))), (.one (.lit (.int .i64 x1)))] = some ((T95 x0 x1).map (n95 x0 x1)) := by kernel_rfl
noncomputable def q95 : List SV → List Blk → Option ((SV × List Blk) × Bool)
  | [(.one (.lit (.int .i64 c0))), (.one (.lit (.int .i64 c1)))], [] => some (n95 c0 c1 (g95 c0 c1), k95 c0 c1)
  | _, _ => none
theorem t95 (args : List SV) (hp : List Blk) (r : SV × List Blk) (h : q95 args hp = some (r, true)) : frzR R 100095 args hp = some r := by
  unfold q95 at h
  split at h
  · rename_i c0 c1
    obtain ⟨hr, hk⟩ := Prod.mk.inj (Option.some.inj h)
    exact fnZ_c (f := 95) Q152_ok (loops_of (l := []) rfl trivial) (e95 c0 c1) hr hk (fun r h => R_fn at95 2097152 h)
  · simp at h
noncomputable def Q95 : Qt := qcons 100095 q95 Q152
theorem Q95_ok : QOk (frzR R) Q95 := qcons_ok t95 Q152_ok
/-! impl.isAccess -/
noncomputable def y90_0 (x0 : GAccess) : Bool := (bif (g74 x0.Kind 1 3) then (g94 x0.Addr) else false)
noncomputable def y90_1 (x0 : GAccess) : Bool := (bif (y90_0 x0) then (g95 x0.Size x0.Value) else false)
noncomputable def T90 (x0 : GAccess) : Pt (Bool) := (.ok true (.ok ((k74 x0.Kind 1 3) && ((((k94 x0.Addr) && true) || (!(g74 x0.Kind 1 3))) && ((((k95 x0.Size x0.Value) && true) || (!(y90_0 x0))) && ((((k74 x0.Code 0 3) && true) || (!(y90_1 x0))) && true)))) (.ok true (.ok true (.leaf (bif (bif (y90_1 x0) then (g74 x0.Code 0 3) else false) then (!(bif (eqI x0.Kind 3) then (eqI x0.Code 0) else false)) else false))))))
noncomputable def g90 (x0 : GAccess) : Bool := hid (T90 x0).val
noncomputable def k90 (x0 : GAccess) : Bool := hid (T90 x0).okv
noncomputable def n90 (x0 : GAccess) (r : Bool) : SV × List Blk := ((.one (.lit (.bool r))), [])
theorem e90 (x0 : GAccess) : fnZ Q95 [(4, [.int .i64]), (8, [.int .i64]), (13, [.int .i64]), (15, [.int .i64]), (20, [.int .i64]), (25, [.int .i64]), (29, [.int .i64])] [] true [] 2097152 F90 [(.agg [.lit (.int .i64 x0.Kind), .lit (.int .i64 x0.Size), .lit (.int .i64 x0.Addr), .lit (.int .i64 x0.Value), .lit (.int .i64 x0.Code)])] = some ((T90 x0).map (n90 x0)) := by kernel_rfl
noncomputable def q90 : List SV → List Blk → Option ((SV × List Blk) × Bool)
  | [(.agg [.lit (.int .i64 c0), .lit (.int .i64 c1), .lit (.int .i64 c2), .lit (.int .i64 c3), .lit (.int .i64 c4)])], [] => some (n90 (GAccess.mk c0 c1 c2 c3 c4) (g90 (GAccess.mk c0 c1 c2 c3 c4)), k90 (GAccess.mk c0 c1 c2 c3 c4))
  | _, _ => none
theorem t90 (args : List SV) (hp : List Blk) (r : SV × List Blk) (h : q90 args hp = some (r, true)) : frzR R 100090 args hp = some r := by
  unfold q90 at h
  split at h
  · rename_i c0 c1 c2 c3 c4
    obtain ⟨hr, hk⟩ := Prod.mk.inj (Option.some.inj h)
    exact fnZ_c (f := 90) Q95_ok (loops_of (l := []) rfl trivial) (e90 (GAccess.mk c0 c1 c2 c3 c4)) hr hk (fun r h => R_fn at90 2097152 h)
  · simp at h
noncomputable def Q90 : Qt := qcons 100090 q90 Q95
theorem Q90_ok : QOk (frzR R) Q90 := qcons_ok t90 Q95_ok
/-! impl.GoodBus$2 -/
noncomputable def T89 (x0 : GAccess) : Pt (Bool) := (.ok true (.ok ((k90 x0) && true) (.ok true (.leaf (!(g90 x0))))))
noncomputable def g89 (x0 : GAccess) : Bool := hid (T89 x0).val
noncomputable def k89 (x0 : GAccess) : Bool := hid (T89 x0).okv
noncomputable def n89 (x0 : GAccess) (r : Bool) : SV × List Blk := ((.one (.lit (.bool r))), [])
theorem e89 (x0 : GAccess) : fnP Q90 [(3, [.int .i64, .int .i64, .int .i64, .int .i64, .int .i64])] [] true [] 2097152 F89 [(.agg [.lit (.int .i64 x0.Kind), .lit (.int .i64 x0.Size), .lit (.int .i64 x0.Addr), .lit (.int .i64 x0.Value), .lit (.int .i64 x0.Code)])] [] = some ((T89 x0).map (n89 x0)) := by kernel_rfl
noncomputable def q89 : List SV → List Blk → Option ((SV × List Blk) × Bool)
  | [(.agg [.lit (.int .i64 c0), .lit (.int .i64 c1), .lit (.int .i64 c2), .lit (.int .i64 c3), .lit (.int .i64 c4)])], [] => some (n89 (GAccess.mk c0 c1 c2 c3 c4) (g89 (GAccess.mk c0 c1 c2 c3 c4)), k89 (GAccess.mk c0 c1 c2 c3 c4))
  | _, _ => none
theorem t89 (args : List SV) (hp : List Blk) (r : SV × List Blk) (h : q89 args hp = some (r, true)) : frzR R 89 args hp = some r := by
  unfold q89 at h
  split at h
  · rename_i c0 c1 c2 c3 c4
    obtain ⟨hr, hk⟩ := Prod.mk.inj (Option.some.inj h)
    exact (frz_lo (by decide)).trans (R_fn at89 2097152 (fnP_c Q90_ok (loops_of (l := []) rfl trivial) (e89 (GAccess.mk c0 c1 c2 c3 c4)) hr hk))
  · simp at h
noncomputable def Q89 : Qt := qcons 89 q89 Q90
theorem Q89_ok : QOk (frzR R) Q89 := qcons_ok t89 Q90_ok
/-! slices.IndexFunc[[]impl.Access,impl.Access] -/
structure V147_0 where
  mk ::
  (s0 : List Row)
  (s7 : Int)
  (s8 : Int)
noncomputable def N147_0 (v : V147_0) : Pt (Option V147_0) := (.ok true (.br (ltI v.s8 v.s7) (.ok true (.ok ((inRow [.int .i64, .int .i64, .int .i64, .int .i64, .int .i64] v.s0 v.s8) && ((k89 (GAccess.at v.s0 (Int.toNat v.s8) 0)) && true)) (.br (g89 (GAccess.at v.s0 (Int.toNat v.s8) 0)) (.ok true (.leaf none)) (.ok true (.ok true (.leaf (some { v with s8 := (addI v.s8 1) }))))))) (.leaf none)))
noncomputable def s147_0 (v : V147_0) : St := ⟨[(0, (.one (.imm true 5 v.s0))), (1, (.one (.clo 89 []))), (7, (.one (.lit (.int .i64 v.s7)))), (8, (.one (.lit (.int .i64 v.s8))))], []⟩
def u147_0 : St → Option (V147_0 × Bool)
  | ⟨[(0, (.one (.imm true 5 c0))), (1, (.one (.clo 89 []))), (7, (.one (.lit (.int .i64 c1)))), (8, (.one (.lit (.int .i64 c2))))], []⟩ => some ((V147_0.mk c0 c1 c2), true)
  | _ => none
theorem hN147_0 (v : V147_0) : ((evp Q89 [(14, [.int .i64, .int .i64, .int .i64, .int .i64, .int .i64]), (15, [.int .i64, .int .i64, .int .i64, .int .i64, .int .i64])] [] true [] 0 2097152 F147b0 (s147_0 v)).bind (stpT true false 0 [0, 1, 7, 8])) = some ((N147_0 v).map (Option.map s147_0)) := by kernel_rfl
theorem hu147_0 (σ : St) (v : V147_0) (h : u147_0 σ = some (v, true)) : σ = s147_0 v := by
  unfold u147_0 at h
  split at h
  · obtain ⟨hr, hk⟩ := Prod.mk.inj (Option.some.inj h)
    rw [← hr]
    rfl
  · simp at h
theorem lt147_0 : TellsP (lqP true false 0 [0, 1, 7, 8] (evp Q89 [(14, [.int .i64, .int .i64, .int .i64, .int .i64, .int .i64]), (15, [.int .i64, .int .i64, .int .i64, .int .i64, .int .i64])] [] true [] 0 2097152 F147b0) u147_0 s147_0 N147_0 2097152) (evc R 0 2097152 (.loop [0, 1, 7, 8] F147b0)) := lqP_tells (evp_tells Q89_ok (loops_of (l := []) (by kernel_rfl) trivial)) hu147_0 hN147_0
noncomputable def lq147_0 : Lp := (9, lqP true false 0 [0, 1, 7, 8] (evp Q89 [(14, [.int .i64, .int .i64, .int .i64, .int .i64, .int .i64]), (15, [.int .i64, .int .i64, .int .i64, .int .i64, .int .i64])] [] true [] 0 2097152 F147b0) u147_0 s147_0 N147_0 2097152) :: []
noncomputable def w147_0 (v : V147_0) : V147_0 := (hid (loopV N147_0 2097152 v)).getD v
noncomputable def i147_0 (v : V147_0) : Bool := (hid (loopV N147_0 2097152 v)).isSome
noncomputable def y147_0 (x0 : List Row) : V147_0 := (w147_0 (V147_0.mk x0 (lenI x0) 0))
noncomputable def T147 (x0 : List Row) : Pt (Int) := (.ok true (.ok true (.ok true (.ok true (.ok (i147_0 (V147_0.mk x0 (lenI x0) 0)) (.br (ltI (y147_0 x0).s8 (y147_0 x0).s7) (.ok true (.leaf (y147_0 x0).s8)) (.ok true (.ok true (.leaf (-1))))))))))
noncomputable def g147 (x0 : List Row) : Int := hid (T147 x0).val
noncomputable def k147 (x0 : List Row) : Bool := hid (T147 x0).okv
noncomputable def n147 (x0 : List Row) (r : Int) : SV × List Blk := ((.one (.lit (.int .i64 r))), [])
theorem e147 (x0 : List Row) : fnP Q89 [(14, [.int .i64, .int .i64, .int .i64, .int .i64, .int .i64]), (15, [.int .i64, .int .i64, .int .i64, .int .i64, .int .i64])] [] true lq147_0 2097152 F147 [(.one (.imm true 5 x0)), (.one (.clo 89 []))] [] = some ((T147 x0).map (n147 x0)) := by kernel_rfl
noncomputable def q147 : List SV → List Blk → Option ((SV × List Blk) × Bool)
  | [(.one (.imm true 5 c0)), (.one (.clo 89 []))], [] => some (n147 c0 (g147 c0), k147 c0)
  | _, _ => none
theorem hL147 : Loops (fun live x => TellsP (lpAt lq147_0 (tagC x)) (evc R 0 2097152 (.loop live x))) F147.body := (loops_of (l := [([0, 1, 7, 8], F147b0)]) (by kernel_rfl) ⟨fun σ σr t h ho hl => lt147_0 σ σr t h ho hl, trivial⟩)
theorem t147 (args : List SV) (hp : List Blk) (r : SV × List Blk) (h : q147 args hp = some (r, true)) : frzR R 147 args hp = some r := by
  unfold q147 at h
  split at h
  · rename_i c0
    obtain ⟨hr, hk⟩ := Prod.mk.inj (Option.some.inj h)
    exact (frz_lo (by decide)).trans (R_fn at147 2097152 (fnP_c Q89_ok hL147 (e147 c0) hr hk))
  · simp at h
noncomputable def Q147 : Qt := qcons 147 q147 Q89
theorem Q147_ok : QOk (frzR R) Q147 := qcons_ok t147 Q89_ok
/-! slices.ContainsFunc[[]impl.Access,impl.Access] -/
noncomputable def T88 (x0 : List Row) : Pt (Bool) := (.ok true (.ok ((k147 x0) && true) (.ok true (.leaf (geI (g147 x0) 0)))))
noncomputable def g88 (x0 : List Row) : Bool := hid (T88 x0).val
noncomputable def k88 (x0 : List Row) : Bool := hid (T88 x0).okv
noncomputable def n88 (x0 : List Row) (r : Bool) : SV × List Blk := ((.one (.lit (.bool r))), [])
theorem e88 (x0 : List Row) : fnP Q147 [] [] true [] 2097152 F88 [(.one (.imm true 5 x0)), (.one (.clo 89 []))] [] = some ((T88 x0).map (n88 x0)) := by kernel_rfl
noncomputable def q88 : List SV → List Blk → Option ((SV × List Blk) × Bool)
  | [(.one (.imm true 5 c0)), (.one (.clo 89 []))], [] => some (n88 c0 (g88 c0), k88 c0)
  | _, _ => none
theorem t88 (args : List SV) (hp : List Blk) (r : SV × List Blk) (h : q88 args hp = some (r, true)) : frzR R 88 args hp = some r := by
  unfold q88 at h
  split at h
  · rename_i c0
    obtain ⟨hr, hk⟩ := Prod.mk.inj (Option.some.inj h)
    exact (frz_lo (by decide)).trans (R_fn at88 2097152 (fnP_c Q147_ok (loops_of (l := []) rfl trivial) (e88 c0) hr hk))
  · simp at h
noncomputable def Q88 : Qt := qcons 88 q88 Q147
theorem Q88_ok : QOk (frzR R) Q88 := qcons_ok t88 Q147_ok
/-! impl.GoodBus -/
noncomputable def y21_0 (x0 : GBus) : Bool := (bif (eqI (lenI x0.Bytes) 512) then (leI (lenI x0.Log) 400) else false)
noncomputable def y21_1 (x0 : GBus) : Bool := (bif (y21_0 x0) then (!(g86 x0.Bytes)) else false)
noncomputable def T21 (x0 : GBus) : Pt (Bool) := (.ok true (.ok ((((k86 x0.Bytes) && true) || (!(y21_0 x0))) && ((((k88 (bif (y21_0 x0) then x0.Log else x0.Log)) && true) || (!(y21_1 x0))) && true)) (.ok true (.ok true (.leaf (bif (y21_1 x0) then (!(g88 (bif (y21_0 x0) then x0.Log else x0.Log))) else false))))))
noncomputable def g21 (x0 : GBus) : Bool := hid (T21 x0).val
noncomputable def k21 (x0 : GBus) : Bool := hid (T21 x0).okv
noncomputable def n21 (x0 : GBus) (r : Bool) : SV × List Blk := ((.one (.lit (.bool r))), [])
theorem e21 (x0 : GBus) : fnZ Q88 [(4, [.imm 1]), (9, [.imm 5]), (15, [.imm 1]), (21, [.imm 5])] [] true [] 2097152 F21 [(.agg [.imm true 1 x0.Bytes, .imm true 5 x0.Log])] = some ((T21 x0).map (n21 x0)) := by kernel_rfl
noncomputable def q21 : List SV → List Blk → Option ((SV × List Blk) × Bool)
  | [(.agg [.imm true 1 c0, .imm true 5 c1])], [] => some (n21 (GBus.mk c0 c1) (g21 (GBus.mk c0 c1)), k21 (GBus.mk c0 c1))
  | _, _ => none
theorem t21 (args : List SV) (hp : List Blk) (r : SV × List Blk) (h : q21 args hp = some (r, true)) : frzR R 100021 args hp = some r := by
  unfold q21 at h
  split at h
  · rename_i c0 c1
    obtain ⟨hr, hk⟩ := Prod.mk.inj (Option.some.inj h)
    exact fnZ_c (f := 21) Q88_ok (loops_of (l := []) rfl trivial) (e21 (GBus.mk c0 c1)) hr hk (fun r h => R_fn at21 2097152 h)
  · simp at h
noncomputable def Q21 : Qt := qcons 100021 q21 Q88
theorem Q21_ok : QOk (frzR R) Q21 := qcons_ok t21 Q88_ok
/-! slices.Clone -/
def q153 : List SV → List Blk → Option ((SV × List Blk) × Bool)
  | [.one (.imm p 1 rows)], [] => some ((SV.one (T.sl 0 0 (List.length rows)), [Blk.lst 1 rows]), decide (List.length rows * 8 ≤ room))
  | _, _ => none
theorem t153 (args : List SV) (hp : List Blk) (r : SV × List Blk) (h : q153 args hp = some (r, true)) : frzR R 153 args hp = some r := by
  rw [frz_lo (by decide)]
  unfold q153 at h
  split at h
  · rename_i p rows
    simp only [Option.some.injEq, Prod.mk.injEq, decide_eq_true_eq] at h
    obtain ⟨rfl, h⟩ := h
    refine run_ext no153 ?_
    have h' : List.length rows ≤ room := by omega
    simp [clones, extOf, cloneE, h, h']
  · simp at h
noncomputable def Q153 : Qt := qcons 153 q153 Q21
theorem Q153_ok : QOk (frzR R) Q153 := qcons_ok t153 Q21_ok
/-! slices.Clone -/
def q76 : List SV → List Blk → Option ((SV × List Blk) × Bool)
  | [.one (.imm p 5 rows)], [] => some ((SV.one (T.sl 0 0 (List.length rows)), [Blk.lst 5 rows]), decide (List.length rows * 40 ≤ room))
  | _, _ => none
theorem t76 (args : List SV) (hp : List Blk) (r : SV × List Blk) (h : q76 args hp = some (r, true)) : frzR R 76 args hp = some r := by
  rw [frz_lo (by decide)]
  unfold q76 at h
  split at h
  · rename_i p rows
    simp only [Option.some.injEq, Prod.mk.injEq, decide_eq_true_eq] at h
    obtain ⟨rfl, h⟩ := h
    refine run_ext no76 ?_
    have h' : List.length rows ≤ room := by omega
    simp [clones, extOf, cloneE, h, h']
  · simp at h
noncomputable def Q76 : Qt := qcons 76 q76 Q153
theorem Q76_ok : QOk (frzR R) Q76 := qcons_ok t76 Q153_ok
/-! impl.ownBus -/
noncomputable def y96_0 (x0 : GBus) : Bool := (((leN (mulN (List.length x0.Bytes) 8) 140737488355328) && ((leN (mulN (List.length x0.Log) 40) 140737488355328) && true)) && true)
noncomputable def y96_1 (x0 : GBus) : Bool := ((eqN (List.length x0.Bytes) (List.length x0.Bytes)) && ((eqN (List.length x0.Log) (List.length x0.Log)) && true))
noncomputable def T96 (x0 : GBus) : Pt (GBus) := (.ok true (.ok ((y96_0 x0) && ((y96_0 x0) && ((((same (α := Bool) true true) && (sameR x0.Bytes x0.Bytes)) && (((same (α := Bool) true true) && (sameR x0.Log x0.Log)) && true)) && (((same (α := Nat) (List.length x0.Bytes) (List.length x0.Bytes)) && ((same (α := Nat) (List.length x0.Log) (List.length x0.Log)) && true)) && ((sameR x0.Bytes x0.Bytes) && ((sameR x0.Log x0.Log) && true)))))) (.ok ((y96_1 x0) && ((y96_1 x0) && true)) (.leaf x0))))
noncomputable def g96 (x0 : GBus) : GBus := hid (T96 x0).val
noncomputable def k96 (x0 : GBus) : Bool := hid (T96 x0).okv
noncomputable def n96 (x0 : GBus) (r : GBus) : SV × List Blk := ((.agg [.sl 0 0 (List.length r.Bytes), .sl 1 0 (List.length r.Log)]), [.lst 1 r.Bytes, .lst 5 r.Log])
theorem e96 (x0 : GBus) : fnP Q76 [(4, [.imm 1]), (7, [.imm 5])] [] true [] 2097152 F96 [(.agg [.imm true 1 x0.Bytes, .imm true 5 x0.Log])] [] = some ((T96 x0).map (n96 x0)) := by kernel_rfl
noncomputable def q96 : List SV → List Blk → Option ((SV × List Blk) × Bool)
  | [(.agg [.imm true 1 c0, .imm true 5 c1])], [] => some (n96 (GBus.mk c0 c1) (g96 (GBus.mk c0 c1)), k96 (GBus.mk c0 c1))
  | _, _ => none
theorem t96 (args : List SV) (hp : List Blk) (r : SV × List Blk) (h : q96 args hp = some (r, true)) : frzR R 96 args hp = some r := by
  unfold q96 at h
  split at h
  · rename_i c0 c1
    obtain ⟨hr, hk⟩ := Prod.mk.inj (Option.some.inj h)
    exact (frz_lo (by decide)).trans (R_fn at96 2097152 (fnP_c Q76_ok (loops_of (l := []) rfl trivial) (e96 (GBus.mk c0 c1)) hr hk))
  · simp at h
noncomputable def Q96 : Qt := qcons 96 q96 Q76
theorem Q96_ok : QOk (frzR R) Q96 := qcons_ok t96 Q76_ok
/-! impl.kindOf -/
noncomputable def T106 (x0 : Int) : Pt (Int) := (.ok true (.ok ((k74 x0 448 495) && true) (.br (bif (g74 x0 448 495) then true else (geI x0 512)) (.ok true (.ok true (.ok true (.leaf 1)))) (.ok ((k74 x0 384 447) && true) (.br (g74 x0 384 447) (.ok true (.ok true (.ok true (.leaf 3)))) (.ok true (.ok true (.ok true (.leaf 0)))))))))
noncomputable def g106 (x0 : Int) : Int := hid (T106 x0).val
noncomputable def k106 (x0 : Int) : Bool := hid (T106 x0).okv
noncomputable def n106 (x0 : Int) (r : Int) : SV × List Blk := ((.one (.lit (.int .i64 r))), [])
theorem e106 (x0 : Int) : fnZ Q96 [] [] true [] 2097152 F106 [(.one (.lit (.int .i64 x0)))] = some ((T106 x0).map (n106 x0)) := by kernel_rfl
noncomputable def q106 : List SV → List Blk → Option ((SV × List Blk) × Bool)
  | [(.one (.lit (.int .i64 c0)))], [] => some (n106 c0 (g106 c0), k106 c0)
  | _, _ => none
theorem t106 (args : List SV) (hp : List Blk) (r : SV × List Blk) (h : q106 args hp = some (r, true)) : frzR R 100106 args hp = some r := by
  unfold q106 at h
  split at h
  · rename_i c0
    obtain ⟨hr, hk⟩ := Prod.mk.inj (Option.some.inj h)
    exact fnZ_c (f := 106) Q96_ok (loops_of (l := []) rfl trivial) (e106 c0) hr hk (fun r h => R_fn at106 2097152 h)
  · simp at h
noncomputable def Q106 : Qt := qcons 100106 q106 Q96
theorem Q106_ok : QOk (frzR R) Q106 := qcons_ok t106 Q96_ok
/-! impl.codeOf -/
noncomputable def y103_0 (x1 : Int) (x2 : Int) : Int := (g106 (subI (addI x2 x1) 1))
noncomputable def T103 (x0 : Int) (x1 : Int) (x2 : Int) : Pt (Int) := (.ok true (.ok true (.br (bif (eqI x1 2) then (eqI (remI x2 2) 1) else false) (.ok true (.ok true (.ok true (.leaf 2)))) (.ok ((k106 x2) && ((k106 (subI (addI x2 x1) 1)) && true)) (.ok true (.br (bif (eqI (g106 x2) 1) then true else (eqI (y103_0 x1 x2) 1)) (.ok true (.ok true (.ok true (.leaf 1)))) (.ok true (.br (bif (eqI x0 2) then (bif (eqI (g106 x2) 3) then true else (eqI (y103_0 x1 x2) 3)) else false) (.ok true (.ok true (.ok true (.leaf 3)))) (.ok true (.ok true (.ok true (.leaf 0))))))))))))
noncomputable def g103 (x0 : Int) (x1 : Int) (x2 : Int) : Int := hid (T103 x0 x1 x2).val
noncomputable def k103 (x0 : Int) (x1 : Int) (x2 : Int) : Bool := hid (T103 x0 x1 x2).okv
noncomputable def n103 (x0 : Int) (x1 : Int) (x2 : Int) (r : Int) : SV × List Blk := ((.one (.lit (.int .i64 r))), [])
theorem e103 (x0 : Int) (x1 : Int) (x2 : Int) : fnZ Q106 [] [] true [] 2097152 F103 [(.one (.lit (.int .i64 x0))), (.one (.lit (.int .i64 x1))), (.one (.lit (.int .i64 x2)))] = some ((T103 x0 x1 x2).map (n103 x0 x1 x2)) := by kernel_rfl
noncomputable def q103 : List SV → List Blk → Option ((SV × List Blk) × Bool)
  | [(.one (.lit (.int .i64 c0))), (.one (.lit (.int .i64 c1))), (.one (.lit (.int .i64 c2)))], [] => some (n103 c0 c1 c2 (g103 c0 c1 c2), k103 c0 c1 c2)
  | _, _ => none
theorem t103 (args : List SV) (hp : List Blk) (r : SV × List Blk) (h : q103 args hp = some (r, true)) : frzR R 100103 args hp = some r := by
  unfold q103 at h
  split at h
  · rename_i c0 c1 c2
    obtain ⟨hr, hk⟩ := Prod.mk.inj (Option.some.inj h)
    exact fnZ_c (f := 103) Q106_ok (loops_of (l := []) rfl trivial) (e103 c0 c1 c2) hr hk (fun r h => R_fn at103 2097152 h)
  · simp at h
noncomputable def Q103 : Qt := qcons 100103 q103 Q106
theorem Q103_ok : QOk (frzR R) Q103 := qcons_ok t103 Q106_ok
/-! (*impl.Bus).put -/
noncomputable def y154_0 (x2 : Int) (x0 : GBus) : Bool := (((leI 0 x2) && (ltI x2 (lenI x0.Bytes))) && (((blt (0 + (Int.toNat x2)) (List.length x0.Bytes)) && (beqN (rlen x0.Bytes (0 + (Int.toNat x2))) 1)) && true))
noncomputable def y154_1 (x2 : Int) (x3 : Int) (x0 : GBus) : List Row := (List.set x0.Bytes (0 + (Int.toNat x2)) (rowI (shrI x3 8)))
noncomputable def y154_2 (x0 : GBus) : Bool := ((eqN (List.length x0.Log) (List.length x0.Log)) && true)
noncomputable def y154_3 (x0 : GBus) : Bool := ((eqN (List.length x0.Bytes) (List.length x0.Bytes)) && (y154_2 x0))
noncomputable def y154_4 (x2 : Int) (x3 : Int) (x0 : GBus) : List Row := (List.set (y154_1 x2 x3 x0) (0 + (Int.toNat (addI x2 1))) (rowI (andI x3 255)))
noncomputable def y154_5 (x2 : Int) (x3 : Int) (x0 : GBus) : Bool := ((eqN (List.length x0.Bytes) (List.length (y154_4 x2 x3 x0))) && (y154_2 x0))
noncomputable def y154_6 (x2 : Int) (x3 : Int) (x0 : GBus) : List Row := (List.set x0.Bytes (0 + (Int.toNat x2)) (rowI (andI x3 255)))
noncomputable def y154_7 (x2 : Int) (x3 : Int) (x0 : GBus) : Bool := ((eqN (List.length x0.Bytes) (List.length (y154_6 x2 x3 x0))) && (y154_2 x0))
noncomputable def T154 (x1 : Int) (x2 : Int) (x3 : Int) (x0 : GBus) : Pt (GBus) := (.ok true (.br (eqI x1 2) (.ok (y154_0 x2 x0) (.ok true (.ok (((leI 0 (addI x2 1)) && (ltI (addI x2 1) (lenI x0.Bytes))) && (((blt (0 + (Int.toNat (addI x2 1))) (List.length (y154_1 x2 x3 x0))) && (beqN (rlen (y154_1 x2 x3 x0) (0 + (Int.toNat (addI x2 1)))) 1)) && true)) (.ok ((((y154_3 x0) && (y154_5 x2 x3 x0)) && true) && ((y154_5 x2 x3 x0) && true)) (.leaf { x0 with Bytes := (y154_4 x2 x3 x0) }))))) (.ok (y154_0 x2 x0) (.ok ((((y154_3 x0) && (y154_7 x2 x3 x0)) && true) && ((y154_7 x2 x3 x0) && true)) (.leaf { x0 with Bytes := (y154_6 x2 x3 x0) })))))
noncomputable def g154 (x1 : Int) (x2 : Int) (x3 : Int) (x0 : GBus) : GBus := hid (T154 x1 x2 x3 x0).val
noncomputable def k154 (x1 : Int) (x2 : Int) (x3 : Int) (x0 : GBus) : Bool := hid (T154 x1 x2 x3 x0).okv
noncomputable def n154 (x1 : Int) (x2 : Int) (x3 : Int) (x0 : GBus) (r : GBus) : SV × List Blk := ((.tup []), [.box [.sl 1 0 (List.length r.Bytes), .sl 2 0 (List.length r.Log)], .lst 1 r.Bytes, .lst 5 r.Log])
theorem e154 (x1 : Int) (x2 : Int) (x3 : Int) (x0 : GBus) : fnP Q103 [(13, [.imm 1]), (17, [.int .i64]), (23, [.imm 1]), (27, [.int .i64]), (1000001, [])] [] true [] 2097152 F154 [(.one (.ptr 0 0 0)), (.one (.lit (.int .i64 x1))), (.one (.lit (.int .i64 x2))), (.one (.lit (.int .i64 x3)))] [.box [.sl 1 0 (List.length x0.Bytes), .sl 2 0 (List.length x0.Log)], .lst 1 x0.Bytes, .lst 5 x0.Log] = some ((T154 x1 x2 x3 x0).map (n154 x1 x2 x3 x0)) := by kernel_rfl
noncomputable def q154 : List SV → List Blk → Option ((SV × List Blk) × Bool)
  | [(.one (.ptr 0 0 0)), (.one (.lit (.int .i64 c0))), (.one (.lit (.int .i64 c1))), (.one (.lit (.int .i64 c2)))], [.box [.sl 1 0 l1, .sl 2 0 l2], .lst 1 c_1, .lst 5 c_2] => some (n154 c0 c1 c2 (GBus.mk c_1 c_2) (g154 c0 c1 c2 (GBus.mk c_1 c_2)), eqN l1 (List.length c_1) && (eqN l2 (List.length c_2) && (k154 c0 c1 c2 (GBus.mk c_1 c_2))))
  | _, _ => none
theorem t154 (args : List SV) (hp : List Blk) (r : SV × List Blk) (h : q154 args hp = some (r, true)) : frzR R 154 args hp = some r := by
  unfold q154 at h
  split at h
  · rename_i c0 c1 c2 l1 l2 c_1 c_2
    obtain ⟨hr, hk⟩ := Prod.mk.inj (Option.some.inj h)
    obtain ⟨d0, hk0⟩ := and_t hk
    obtain ⟨d1, hk1⟩ := and_t hk0
    obtain rfl := of_decide_eq_true d0
    obtain rfl := of_decide_eq_true d1
    exact (frz_lo (by decide)).trans (R_fn at154 2097152 (fnP_c Q103_ok (loops_of (l := []) rfl trivial) (e154 c0 c1 c2 (GBus.mk c_1 c_2)) hr hk1))
  · simp at h
noncomputable def Q154 : Qt := qcons 154 q154 Q103
theorem Q154_ok : QOk (frzR R) Q154 := qcons_ok t154 Q103_ok
/-! (*impl.Bus).at -/
noncomputable def y104_0 (x2 : Int) (x0 : GBus) : Bool := (hasRow [.int .i64] x0.Bytes (0 + (Int.toNat x2)) 0)
noncomputable def y104_1 (x0 : GBus) : Bool := ((eqN (List.length x0.Bytes) (List.length x0.Bytes)) && ((eqN (List.length x0.Log) (List.length x0.Log)) && true))
noncomputable def T104 (x1 : Int) (x2 : Int) (x0 : GBus) : Pt (Int) := (.ok true (.ok true (.br (eqI x1 1) (.ok (((leI 0 x2) && (ltI x2 (lenI x0.Bytes))) && ((y104_0 x2 x0) && true)) (.ok (((y104_1 x0) && (y104_1 x0)) && true) (.leaf (intAt x0.Bytes (0 + (Int.toNat x2)) 0)))) (.ok (((leI 0 x2) && (ltI x2 (lenI x0.Bytes))) && ((y104_0 x2 x0) && (((leI 0 (addI x2 1)) && (ltI (addI x2 1) (lenI x0.Bytes))) && ((hasRow [.int .i64] x0.Bytes (0 + (Int.toNat (addI x2 1))) 0) && true)))) (.ok (((y104_1 x0) && (y104_1 x0)) && true) (.leaf (orI (shlI (intAt x0.Bytes (0 + (Int.toNat x2)) 0) 8) (intAt x0.Bytes (0 + (Int.toNat (addI x2 1))) 0))))))))
noncomputable def g104 (x1 : Int) (x2 : Int) (x0 : GBus) : Int := hid (T104 x1 x2 x0).val
noncomputable def k104 (x1 : Int) (x2 : Int) (x0 : GBus) : Bool := hid (T104 x1 x2 x0).okv
noncomputable def n104 (x1 : Int) (x2 : Int) (x0 : GBus) (r : Int) : SV × List Blk := ((.one (.lit (.int .i64 r))), [.box [.sl 1 0 (List.length x0.Bytes), .sl 2 0 (List.length x0.Log)], .lst 1 x0.Bytes, .lst 5 x0.Log])
theorem e104 (x1 : Int) (x2 : Int) (x0 : GBus) : fnP Q154 [(12, [.imm 1]), (14, [.int .i64]), (15, [.int .i64]), (19, [.imm 1]), (21, [.int .i64]), (22, [.int .i64]), (27, [.imm 1]), (30, [.int .i64]), (31, [.int .i64])] [] true [] 2097152 F104 [(.one (.ptr 0 0 0)), (.one (.lit (.int .i64 x1))), (.one (.lit (.int .i64 x2)))] [.box [.sl 1 0 (List.length x0.Bytes), .sl 2 0 (List.length x0.Log)], .lst 1 x0.Bytes, .lst 5 x0.Log] = some ((T104 x1 x2 x0).map (n104 x1 x2 x0)) := by kernel_rfl
noncomputable def q104 : List SV → List Blk → Option ((SV × List Blk) × Bool)
  | [(.one (.ptr 0 0 0)), (.one (.lit (.int .i64 c0))), (.one (.lit (.int .i64 c1)))], [.box [.sl 1 0 l1, .sl 2 0 l2], .lst 1 c_1, .lst 5 c_2] => some (n104 c0 c1 (GBus.mk c_1 c_2) (g104 c0 c1 (GBus.mk c_1 c_2)), eqN l1 (List.length c_1) && (eqN l2 (List.length c_2) && (k104 c0 c1 (GBus.mk c_1 c_2))))
  | _, _ => none
theorem t104 (args : List SV) (hp : List Blk) (r : SV × List Blk) (h : q104 args hp = some (r, true)) : frzR R 104 args hp = some r := by
  unfold q104 at h
  split at h
  · rename_i c0 c1 l1 l2 c_1 c_2
    obtain ⟨hr, hk⟩ := Prod.mk.inj (Option.some.inj h)
    obtain ⟨d0, hk0⟩ := and_t hk
    obtain ⟨d1, hk1⟩ := and_t hk0
    obtain rfl := of_decide_eq_true d0
    obtain rfl := of_decide_eq_true d1
    exact (frz_lo (by decide)).trans (R_fn at104 2097152 (fnP_c Q154_ok (loops_of (l := []) rfl trivial) (e104 c0 c1 (GBus.mk c_1 c_2)) hr hk1))
  · simp at h
noncomputable def Q104 : Qt := qcons 104 q104 Q154
theorem Q104_ok : QOk (frzR R) Q104 := qcons_ok t104 Q154_ok
/-! (*impl.Bus).touch -/
noncomputable def y97_0 (x0 : GBus) : Bool := ((leN (0 + (List.length x0.Log)) (List.length x0.Log)) && true)
noncomputable def y97_1 (x1 : Int) (x2 : Int) (x3 : Int) : Bool := (!(bif (eqI x1 3) then (eqI (g103 x1 x2 x3) 0) else false))
noncomputable def y97_2 (x1 : Int) (x2 : Int) (x3 : Int) (x0 : GBus) : Bool := (bif (ltI (lenI x0.Log) 400) then (y97_1 x1 x2 x3) else false)
noncomputable def y97_3 (x0 : GBus) : Bool := (eqN (List.length x0.Log) (List.length x0.Log))
noncomputable def y97_4 (x0 : GBus) : Bool := (((y97_3 x0) && ((eqN (0 + (List.length x0.Log)) (List.length x0.Log)) && ((leN (mulN ((List.length x0.Log) + 1) 40) 140737488355328) && (leN ((List.length x0.Log) + 1) 140737488355328)))) && true)
noncomputable def y97_5 (x0 : GBus) : Bool := (eqN (List.length x0.Bytes) (List.length x0.Bytes))
noncomputable def y97_6 (x1 : Int) (x2 : Int) (x3 : Int) (x4 : Int) (x0 : GBus) : List Row := (x0.Log ++ [(GAccess.row (GAccess.mk x1 x2 x3 (bif (neI x1 2) then 0 else x4) (g103 x1 x2 x3)))])
noncomputable def y97_7 (x1 : Int) (x2 : Int) (x3 : Int) (x4 : Int) (x0 : GBus) : Bool := ((y97_5 x0) && ((eqN (List.length (y97_6 x1 x2 x3 x4 x0)) (List.length (y97_6 x1 x2 x3 x4 x0))) && true))
noncomputable def y97_8 (x0 : GBus) : Bool := ((((y97_5 x0) && ((y97_3 x0) && true)) && ((y97_5 x0) && ((y97_3 x0) && true))) && true)
noncomputable def y97_9 (x2 : Int) (x3 : Int) (x4 : Int) (x0 : GBus) : Nat := (0 + (List.length (g154 x2 x3 x4 x0).Log))
noncomputable def y97_10 (x2 : Int) (x3 : Int) (x4 : Int) (x0 : GBus) : Bool := (eqN (List.length (g154 x2 x3 x4 x0).Log) (List.length (g154 x2 x3 x4 x0).Log))
noncomputable def y97_11 (x2 : Int) (x3 : Int) (x4 : Int) (x0 : GBus) : Nat := ((List.length (g154 x2 x3 x4 x0).Log) + 1)
noncomputable def y97_12 (x2 : Int) (x3 : Int) (x4 : Int) (x0 : GBus) : Bool := (eqN (List.length (g154 x2 x3 x4 x0).Bytes) (List.length (g154 x2 x3 x4 x0).Bytes))
noncomputable def y97_13 (x1 : Int) (x2 : Int) (x3 : Int) (x4 : Int) (x0 : GBus) : List Row := ((g154 x2 x3 x4 x0).Log ++ [(GAccess.row (GAccess.mk x1 x2 x3 (bif (neI x1 2) then 0 else x4) (g103 x1 x2 x3)))])
noncomputable def y97_14 (x1 : Int) (x2 : Int) (x3 : Int) (x4 : Int) (x0 : GBus) : Bool := ((y97_12 x2 x3 x4 x0) && ((eqN (List.length (y97_13 x1 x2 x3 x4 x0)) (List.length (y97_13 x1 x2 x3 x4 x0))) && true))
noncomputable def y97_15 (x2 : Int) (x3 : Int) (x4 : Int) (x0 : GBus) : Bool := ((y97_12 x2 x3 x4 x0) && ((y97_10 x2 x3 x4 x0) && true))
noncomputable def y97_16 (x1 : Int) (x2 : Int) (x3 : Int) (x0 : GBus) : List Row := (x0.Log ++ [(GAccess.row (GAccess.mk x1 x2 x3 (g104 x2 x3 x0) (g103 x1 x2 x3)))])
noncomputable def y97_17 (x1 : Int) (x2 : Int) (x3 : Int) (x0 : GBus) : Bool := ((y97_5 x0) && ((eqN (List.length (y97_16 x1 x2 x3 x0)) (List.length (y97_16 x1 x2 x3 x0))) && true))
noncomputable def T97 (x1 : Int) (x2 : Int) (x3 : Int) (x4 : Int) (x0 : GBus) : Pt (GBus × Int × Int) := (.ok true (.ok ((k103 x1 x2 x3) && true) (.ok true (.ok true (.ok true (.ok true (.ok true (.br (neI (g103 x1 x2 x3) 0) (.ok (y97_0 x0) (.br (y97_2 x1 x2 x3 x0) (.ok (y97_4 x0) (.ok true (.ok (((y97_7 x1 x2 x3 x4 x0) && (y97_7 x1 x2 x3 x4 x0)) && true) (.leaf ({ x0 with Log := (y97_6 x1 x2 x3 x4 x0) }, 0, (g103 x1 x2 x3)))))) (.ok true (.ok (y97_8 x0) (.leaf (x0, 0, (g103 x1 x2 x3))))))) (.ok true (.br (eqI x1 2) (.ok (((y97_8 x0) && ((y97_5 x0) && ((y97_3 x0) && (k154 x2 x3 x4 x0)))) && true) (.ok ((leN (y97_9 x2 x3 x4 x0) (List.length (g154 x2 x3 x4 x0).Log)) && true) (.br (bif (ltI (lenI (g154 x2 x3 x4 x0).Log) 400) then (y97_1 x1 x2 x3) else false) (.ok (((y97_10 x2 x3 x4 x0) && ((eqN (y97_9 x2 x3 x4 x0) (List.length (g154 x2 x3 x4 x0).Log)) && ((leN (mulN (y97_11 x2 x3 x4 x0) 40) 140737488355328) && (leN (y97_11 x2 x3 x4 x0) 140737488355328)))) && true) (.ok true (.ok (((y97_14 x1 x2 x3 x4 x0) && (y97_14 x1 x2 x3 x4 x0)) && true) (.leaf ({ (g154 x2 x3 x4 x0) with Log := (y97_13 x1 x2 x3 x4 x0) }, 0, (g103 x1 x2 x3)))))) (.ok true (.ok (((y97_15 x2 x3 x4 x0) && (y97_15 x2 x3 x4 x0)) && true) (.leaf ((g154 x2 x3 x4 x0), 0, (g103 x1 x2 x3)))))))) (.ok (((y97_8 x0) && ((y97_5 x0) && ((y97_3 x0) && (k104 x2 x3 x0)))) && true) (.ok true (.ok (y97_0 x0) (.br (y97_2 x1 x2 x3 x0) (.ok (y97_4 x0) (.ok true (.ok (((y97_17 x1 x2 x3 x0) && (y97_17 x1 x2 x3 x0)) && true) (.leaf ({ x0 with Log := (y97_16 x1 x2 x3 x0) }, (g104 x2 x3 x0), (g103 x1 x2 x3)))))) (.ok true (.ok (y97_8 x0) (.leaf (x0, (g104 x2 x3 x0), (g103 x1 x2 x3)))))))))))))))))))
noncomputable def g97 (x1 : Int) (x2 : Int) (x3 : Int) (x4 : Int) (x0 : GBus) : GBus × Int × Int := hid (T97 x1 x2 x3 x4 x0).val
noncomputable def k97 (x1 : Int) (x2 : Int) (x3 : Int) (x4 : Int) (x0 : GBus) : Bool := hid (T97 x1 x2 x3 x4 x0).okv
noncomputable def n97 (x1 : Int) (x2 : Int) (x3 : Int) (x4 : Int) (x0 : GBus) (r : GBus × Int × Int) : SV × List Blk := ((.tup [(.one (.lit (.int .i64 r.2.1))), (.one (.lit (.int .i64 r.2.2)))]), [.box [.sl 1 0 (List.length r.1.Bytes), .sl 2 0 (List.length r.1.Log)], .lst 1 r.1.Bytes, .lst 5 r.1.Log])
theorem e97 (x1 : Int) (x2 : Int) (x3 : Int) (x4 : Int) (x0 : GBus) : fnP Q104 [(41, [.imm 5]), (57, [.imm 5])] [] true [] 2097152 F97 [(.one (.ptr 0 0 0)), (.one (.lit (.int .i64 x1))), (.one (.lit (.int .i64 x2))), (.one (.lit (.int .i64 x3))), (.one (.lit (.int .i64 x4)))] [.box [.sl 1 0 (List.length x0.Bytes), .sl 2 0 (List.length x0.Log)], .lst 1 x0.Bytes, .lst 5 x0.Log] = some ((T97 x1 x2 x3 x4 x0).map (n97 x1 x2 x3 x4 x0)) := by kernel_rfl
noncomputable def q97 : List SV → List Blk → Option ((SV × List Blk) × Bool)
  | [(.one (.ptr 0 0 0)), (.one (.lit (.int .i64 c0))), (.one (.lit (.int .i64 c1))), (.one (.lit (.int .i64 c2))), (.one (.lit (.int .i64 c3)))], [.box [.sl 1 0 l1, .sl 2 0 l2], .lst 1 c_1, .lst 5 c_2] => some (n97 c0 c1 c2 c3 (GBus.mk c_1 c_2) (g97 c0 c1 c2 c3 (GBus.mk c_1 c_2)), eqN l1 (List.length c_1) && (eqN l2 (List.length c_2) && (k97 c0 c1 c2 c3 (GBus.mk c_1 c_2))))
  | _, _ => none
theorem t97 (args : List SV) (hp : List Blk) (r : SV × List Blk) (h : q97 args hp = some (r, true)) : frzR R 97 args hp = some r := by
  unfold q97 at h
  split at h
  · rename_i c0 c1 c2 c3 l1 l2 c_1 c_2
    obtain ⟨hr, hk⟩ := Prod.mk.inj (Option.some.inj h)
    obtain ⟨d0, hk0⟩ := and_t hk
    obtain ⟨d1, hk1⟩ := and_t hk0
    obtain rfl := of_decide_eq_true d0
    obtain rfl := of_decide_eq_true d1
    exact (frz_lo (by decide)).trans (R_fn at97 2097152 (fnP_c Q104_ok (loops_of (l := []) rfl trivial) (e97 c0 c1 c2 c3 (GBus.mk c_1 c_2)) hr hk1))
  · simp at h
noncomputable def Q97 : Qt := qcons 97 q97 Q104
theorem Q97_ok : QOk (frzR R) Q97 := qcons_ok t97 Q104_ok
/-! impl.Touch -/
noncomputable def y23_0 (x0 : GBus) (x1 : Int) : Bool := (bif (!(g21 x0)) then true else (!(g74 x1 1 3)))
noncomputable def y23_1 (x0 : GBus) (x1 : Int) (x3 : Int) : Bool := (bif (y23_0 x0 x1) then true else (!(g94 x3)))
noncomputable def y23_2 (x0 : GBus) : Bool := (eqN (List.length (g96 x0).Bytes) (List.length (g96 x0).Bytes))
noncomputable def y23_3 (x0 : GBus) : Bool := (eqN (List.length (g96 x0).Log) (List.length (g96 x0).Log))
noncomputable def y23_4 (x0 : GBus) (x1 : Int) (x2 : Int) (x3 : Int) (x4 : Int) : GBus × Int × Int := (g97 x1 x2 x3 x4 (g96 x0))
noncomputable def y23_5 (x0 : GBus) (x1 : Int) (x2 : Int) (x3 : Int) (x4 : Int) : Nat := (List.length (y23_4 x0 x1 x2 x3 x4).1.Bytes)
noncomputable def y23_6 (x0 : GBus) (x1 : Int) (x2 : Int) (x3 : Int) (x4 : Int) : Nat := (List.length (y23_4 x0 x1 x2 x3 x4).1.Log)
noncomputable def y23_7 (x0 : GBus) (x1 : Int) (x2 : Int) (x3 : Int) (x4 : Int) : Bool := ((eqN (y23_5 x0 x1 x2 x3 x4) (y23_5 x0 x1 x2 x3 x4)) && ((eqN (y23_6 x0 x1 x2 x3 x4) (y23_6 x0 x1 x2 x3 x4)) && true))
noncomputable def T23 (x0 : GBus) (x1 : Int) (x2 : Int) (x3 : Int) (x4 : Int) : Pt (GBus × Int × Int × Bool) := (.ok true (.ok ((k21 x0) && ((((k74 x1 1 3) && true) || (!(g21 x0))) && ((((k94 x3) && true) || (y23_0 x0 x1)) && ((((k95 x2 x4) && true) || (y23_1 x0 x1 x3)) && true)))) (.br (bif (bif (y23_1 x0 x1 x3) then true else (!(g95 x2 x4))) then true else (bif (neI x1 2) then (neI x4 0) else false)) (.ok true (.ok true (.ok true (.leaf ((GBus.mk [] []), 0, 0, false))))) (.ok ((k96 x0) && true) (.ok ((((((y23_2 x0) && ((y23_3 x0) && true)) && ((y23_2 x0) && ((y23_3 x0) && true))) && true) && ((y23_2 x0) && ((y23_3 x0) && (k97 x1 x2 x3 x4 (g96 x0))))) && true) (.ok true (.ok ((y23_7 x0 x1 x2 x3 x4) && ((y23_7 x0 x1 x2 x3 x4) && true)) (.ok ((y23_7 x0 x1 x2 x3 x4) && true) (.leaf ((y23_4 x0 x1 x2 x3 x4).1, (y23_4 x0 x1 x2 x3 x4).2.1, (y23_4 x0 x1 x2 x3 x4).2.2, true))))))))))
noncomputable def g23 (x0 : GBus) (x1 : Int) (x2 : Int) (x3 : Int) (x4 : Int) : GBus × Int × Int × Bool := hid (T23 x0 x1 x2 x3 x4).val
noncomputable def k23 (x0 : GBus) (x1 : Int) (x2 : Int) (x3 : Int) (x4 : Int) : Bool := hid (T23 x0 x1 x2 x3 x4).okv
noncomputable def n23 (x0 : GBus) (x1 : Int) (x2 : Int) (x3 : Int) (x4 : Int) (r : GBus × Int × Int × Bool) : SV × List Blk := ((.tup [(.agg [.imm true 1 r.1.Bytes, .imm true 5 r.1.Log]), (.one (.lit (.int .i64 r.2.1))), (.one (.lit (.int .i64 r.2.2.1))), (.one (.lit (.bool r.2.2.2)))]), [])
theorem e23 (x0 : GBus) (x1 : Int) (x2 : Int) (x3 : Int) (x4 : Int) : fnZ Q97 [(17, [.imm 1, .imm 5]), (45, [.imm 1, .imm 5]), (55, [.imm 1, .imm 5])] [] true [] 2097152 F23 [(.agg [.imm true 1 x0.Bytes, .imm true 5 x0.Log]), (.one (.lit (.int .i64 x1))), (.one (.lit (.int .i64 x2))), (.one (.lit (.int .i64 x3))), (.one (.lit (.int .i64 x4)))] = some ((T23 x0 x1 x2 x3 x4).map (n23 x0 x1 x2 x3 x4)) := by kernel_rfl
noncomputable def q23 : List SV → List Blk → Option ((SV × List Blk) × Bool)
  | [(.agg [.imm true 1 c0, .imm true 5 c1]), (.one (.lit (.int .i64 c2))), (.one (.lit (.int .i64 c3))), (.one (.lit (.int .i64 c4))), (.one (.lit (.int .i64 c5)))], [] => some (n23 (GBus.mk c0 c1) c2 c3 c4 c5 (g23 (GBus.mk c0 c1) c2 c3 c4 c5), k23 (GBus.mk c0 c1) c2 c3 c4 c5)
  | _, _ => none
theorem t23 (args : List SV) (hp : List Blk) (r : SV × List Blk) (h : q23 args hp = some (r, true)) : frzR R 100023 args hp = some r := by
  unfold q23 at h
  split at h
  · rename_i c0 c1 c2 c3 c4 c5
    obtain ⟨hr, hk⟩ := Prod.mk.inj (Option.some.inj h)
    exact fnZ_c (f := 23) Q97_ok (loops_of (l := []) rfl trivial) (e23 (GBus.mk c0 c1) c2 c3 c4 c5) hr hk (fun r h => R_fn at23 2097152 h)
  · simp at h
noncomputable def Q23 : Qt := qcons 100023 q23 Q97
theorem Q23_ok : QOk (frzR R) Q23 := qcons_ok t23 Q97_ok
/-! spec.l4Bytes -/
structure V85v1_0 where
  mk ::
  (s5 : List Row)
  (s6 : Int)
  (s7 : Int)
noncomputable def N85v1_0 (v : V85v1_0) : Pt (Option V85v1_0) := (.ok true (.br (ltI v.s7 v.s6) (.ok ((inRow [.int .i64] v.s5 v.s7) && true) (.ok ((k78 (intAt v.s5 (Int.toNat v.s7) 0) 0 255) && true) (.br (!(g78 (intAt v.s5 (Int.toNat v.s7) 0) 0 255)) (.ok true (.leaf none)) (.ok true (.ok true (.leaf (some { v with s7 := (addI v.s7 1) }))))))) (.leaf none)))
noncomputable def s85v1_0 (v : V85v1_0) : St := ⟨[(5, (.one (.imm true 1 v.s5))), (6, (.one (.lit (.int .i64 v.s6)))), (7, (.one (.lit (.int .i64 v.s7))))], []⟩
def u85v1_0 : St → Option (V85v1_0 × Bool)
  | ⟨[(5, (.one (.imm true 1 c0))), (6, (.one (.lit (.int .i64 c1)))), (7, (.one (.lit (.int .i64 c2))))], []⟩ => some ((V85v1_0.mk c0 c1 c2), true)
  | _ => none
theorem hN85v1_0 (v : V85v1_0) : ((evp Q23 [(9, [.int .i64]), (10, [.int .i64])] [] true [] 0 2097152 F85b0 (s85v1_0 v)).bind (stpT true false 0 [5, 6, 7])) = some ((N85v1_0 v).map (Option.map s85v1_0)) := by kernel_rfl
theorem hu85v1_0 (σ : St) (v : V85v1_0) (h : u85v1_0 σ = some (v, true)) : σ = s85v1_0 v := by
  unfold u85v1_0 at h
  split at h
  · obtain ⟨hr, hk⟩ := Prod.mk.inj (Option.some.inj h)
    rw [← hr]
    rfl
  · simp at h
theorem lt85v1_0 : TellsP (lqP true false 0 [5, 6, 7] (evp Q23 [(9, [.int .i64]), (10, [.int .i64])] [] true [] 0 2097152 F85b0) u85v1_0 s85v1_0 N85v1_0 2097152) (evc R 0 2097152 (.loop [5, 6, 7] F85b0)) := lqP_tells (evp_tells Q23_ok (loops_of (l := []) (by kernel_rfl) trivial)) hu85v1_0 hN85v1_0
noncomputable def lq85v1_0 : Lp := (8, lqP true false 0 [5, 6, 7] (evp Q23 [(9, [.int .i64]), (10, [.int .i64])] [] true [] 0 2097152 F85b0) u85v1_0 s85v1_0 N85v1_0 2097152) :: []
noncomputable def w85v1_0 (v : V85v1_0) : V85v1_0 := (hid (loopV N85v1_0 2097152 v)).getD v
noncomputable def i85v1_0 (v : V85v1_0) : Bool := (hid (loopV N85v1_0 2097152 v)).isSome
noncomputable def y85v1_0 (x0 : List Row) : V85v1_0 := (w85v1_0 (V85v1_0.mk x0 (lenI x0) 0))
noncomputable def T85v1 (x0 : List Row) : Pt (Bool) := (.ok true (.ok true (.ok true (.ok true (.ok (i85v1_0 (V85v1_0.mk x0 (lenI x0) 0)) (.br (ltI (y85v1_0 x0).s7 (y85v1_0 x0).s6) (.ok true (.ok true (.leaf false))) (.ok true (.ok true (.ok true (.leaf true))))))))))
noncomputable def g85v1 (x0 : List Row) : Bool := hid (T85v1 x0).val
noncomputable def k85v1 (x0 : List Row) : Bool := hid (T85v1 x0).okv
noncomputable def n85v1 (x0 : List Row) (r : Bool) : SV × List Blk := ((.one (.lit (.bool r))), [])
theorem e85v1 (x0 : List Row) : fnZ Q23 [(9, [.int .i64]), (10, [.int .i64])] [] true lq85v1_0 2097152 F85 [(.one (.imm true 1 x0))] = some ((T85v1 x0).map (n85v1 x0)) := by kernel_rfl
noncomputable def q85v1 : List SV → List Blk → Option ((SV × List Blk) × Bool)
  | [(.one (.imm true 1 c0))], [] => some (n85v1 c0 (g85v1 c0), k85v1 c0)
  | _, _ => none
theorem hL85v1 : Loops (fun live x => TellsP (lpAt lq85v1_0 (tagC x)) (evc R 0 2097152 (.loop live x))) F85.body := (loops_of (l := [([5, 6, 7], F85b0)]) (by kernel_rfl) ⟨fun σ σr t h ho hl => lt85v1_0 σ σr t h ho hl, trivial⟩)
theorem t85v1 (args : List SV) (hp : List Blk) (r : SV × List Blk) (h : q85v1 args hp = some (r, true)) : frzR R 100085 args hp = some r := by
  unfold q85v1 at h
  split at h
  · rename_i c0
    obtain ⟨hr, hk⟩ := Prod.mk.inj (Option.some.inj h)
    exact fnZ_c (f := 85) Q23_ok hL85v1 (e85v1 c0) hr hk (fun r h => R_fn at85 2097152 h)
  · simp at h
noncomputable def Q85v1 : Qt := qcons 100085 q85v1 Q23
theorem Q85v1_ok : QOk (frzR R) Q85v1 := qcons_ok t85v1 Q23_ok
/-! spec.GoodBus -/
structure V25v1_0 where
  mk ::
  (b0 : GBus)
  (s6 : List Row)
  (s7 : Int)
  (s8 : Int)
noncomputable def N25v1_0 (v : V25v1_0) : Pt (Option V25v1_0) := (.ok true (.br (ltI v.s8 v.s7) (.ok ((inRow [.int .i64, .int .i64, .int .i64, .int .i64, .int .i64] v.s6 v.s8) && true) (.ok ((k102 (GAccess.at v.s6 (Int.toNat v.s8) 0)) && true) (.br (!(g102 (GAccess.at v.s6 (Int.toNat v.s8) 0))) (.ok true (.leaf none)) (.ok true (.ok true (.leaf (some { v with s8 := (addI v.s8 1) }))))))) (.leaf none)))
noncomputable def s25v1_0 (v : V25v1_0) : St := ⟨[(1, (.one (.ptr 0 0 0))), (6, (.one (.imm true 5 v.s6))), (7, (.one (.lit (.int .i64 v.s7)))), (8, (.one (.lit (.int .i64 v.s8))))], [.box [.imm true 1 v.b0.Bytes, .imm true 5 v.b0.Log]]⟩
def u25v1_0 : St → Option (V25v1_0 × Bool)
  | ⟨[(1, (.one (.ptr 0 0 0))), (6, (.one (.imm true 5 c2))), (7, (.one (.lit (.int .i64 c3)))), (8, (.one (.lit (.int .i64 c4))))], [.box [.imm true 1 c0, .imm true 5 c1]]⟩ => some ((V25v1_0.mk (GBus.mk c0 c1) c2 c3 c4), true)
  | _ => none
theorem hN25v1_0 (v : V25v1_0) : ((evp Q23 [(6, [.imm 5]), (10, [.int .i64, .int .i64, .int .i64, .int .i64, .int .i64]), (11, [.int .i64, .int .i64, .int .i64, .int .i64, .int .i64]), (12, [.int .i64, .int .i64, .int .i64, .int .i64, .int .i64]), (17, [.imm 1]), (22, [.imm 1]), (27, [.imm 5])] [] true [] 0 2097152 F25b0 (s25v1_0 v)).bind (stpT true false 0 [1, 6, 7, 8])) = some ((N25v1_0 v).map (Option.map s25v1_0)) := by kernel_rfl
theorem hu25v1_0 (σ : St) (v : V25v1_0) (h : u25v1_0 σ = some (v, true)) : σ = s25v1_0 v := by
  unfold u25v1_0 at h
  split at h
  · obtain ⟨hr, hk⟩ := Prod.mk.inj (Option.some.inj h)
    rw [← hr]
    rfl
  · simp at h
theorem lt25v1_0 : TellsP (lqP true false 0 [1, 6, 7, 8] (evp Q23 [(6, [.imm 5]), (10, [.int .i64, .int .i64, .int .i64, .int .i64, .int .i64]), (11, [.int .i64, .int .i64, .int .i64, .int .i64, .int .i64]), (12, [.int .i64, .int .i64, .int .i64, .int .i64, .int .i64]), (17, [.imm 1]), (22, [.imm 1]), (27, [.imm 5])] [] true [] 0 2097152 F25b0) u25v1_0 s25v1_0 N25v1_0 2097152) (evc R 0 2097152 (.loop [1, 6, 7, 8] F25b0)) := lqP_tells (evp_tells Q23_ok (loops_of (l := []) (by kernel_rfl) trivial)) hu25v1_0 hN25v1_0
noncomputable def lq25v1_0 : Lp := (9, lqP true false 0 [1, 6, 7, 8] (evp Q23 [(6, [.imm 5]), (10, [.int .i64, .int .i64, .int .i64, .int .i64, .int .i64]), (11, [.int .i64, .int .i64, .int .i64, .int .i64, .int .i64]), (12, [.int .i64, .int .i64, .int .i64, .int .i64, .int .i64]), (17, [.imm 1]), (22, [.imm 1]), (27, [.imm 5])] [] true [] 0 2097152 F25b0) u25v1_0 s25v1_0 N25v1_0 2097152) :: []
noncomputable def w25v1_0 (v : V25v1_0) : V25v1_0 := (hid (loopV N25v1_0 2097152 v)).getD v
noncomputable def i25v1_0 (v : V25v1_0) : Bool := (hid (loopV N25v1_0 2097152 v)).isSome
noncomputable def y25v1_0 (x0 : GBus) : V25v1_0 := (w25v1_0 (V25v1_0.mk x0 x0.Log (lenI x0.Log) 0))
noncomputable def T25v1 (x0 : GBus) : Pt (Bool) := (.ok true (.ok true (.ok true (.ok true (.ok (i25v1_0 (V25v1_0.mk x0 x0.Log (lenI x0.Log) 0)) (.br (ltI (y25v1_0 x0).s8 (y25v1_0 x0).s7) (.ok true (.ok true (.leaf false))) (.ok ((((k85v1 (y25v1_0 x0).b0.Bytes) && true) || (!(eqI (lenI (y25v1_0 x0).b0.Bytes) 512))) && true) (.ok true (.ok true (.leaf (bif (bif (eqI (lenI (y25v1_0 x0).b0.Bytes) 512) then (g85v1 (y25v1_0 x0).b0.Bytes) else false) then (leI (lenI (y25v1_0 x0).b0.Log) 400) else false)))))))))))
noncomputable def g25v1 (x0 : GBus) : Bool := hid (T25v1 x0).val
noncomputable def k25v1 (x0 : GBus) : Bool := hid (T25v1 x0).okv
noncomputable def n25v1 (x0 : GBus) (r : Bool) : SV × List Blk := ((.one (.lit (.bool r))), [])
theorem e25v1 (x0 : GBus) : fnZ Q85v1 [(6, [.imm 5]), (10, [.int .i64, .int .i64, .int .i64, .int .i64, .int .i64]), (11, [.int .i64, .int .i64, .int .i64, .int .i64, .int .i64]), (12, [.int .i64, .int .i64, .int .i64, .int .i64, .int .i64]), (17, [.imm 1]), (22, [.imm 1]), (27, [.imm 5])] [] true lq25v1_0 2097152 F25 [(.agg [.imm true 1 x0.Bytes, .imm true 5 x0.Log])] = some ((T25v1 x0).map (n25v1 x0)) := by kernel_rfl
noncomputable def q25v1 : List SV → List Blk → Option ((SV × List Blk) × Bool)
  | [(.agg [.imm true 1 c0, .imm true 5 c1])], [] => some (n25v1 (GBus.mk c0 c1) (g25v1 (GBus.mk c0 c1)), k25v1 (GBus.mk c0 c1))
  | _, _ => none
theorem hL25v1 : Loops (fun live x => TellsP (lpAt lq25v1_0 (tagC x)) (evc R 0 2097152 (.loop live x))) F25.body := (loops_of (l := [([1, 6, 7, 8], F25b0)]) (by kernel_rfl) ⟨fun σ σr t h ho hl => lt25v1_0 σ σr t h ho hl, trivial⟩)
theorem t25v1 (args : List SV) (hp : List Blk) (r : SV × List Blk) (h : q25v1 args hp = some (r, true)) : frzR R 100025 args hp = some r := by
  unfold q25v1 at h
  split at h
  · rename_i c0 c1
    obtain ⟨hr, hk⟩ := Prod.mk.inj (Option.some.inj h)
    exact fnZ_c (f := 25) Q85v1_ok hL25v1 (e25v1 (GBus.mk c0 c1)) hr hk (fun r h => R_fn at25 2097152 h)
  · simp at h
noncomputable def Q25v1 : Qt := qcons 100025 q25v1 Q85v1
theorem Q25v1_ok : QOk (frzR R) Q25v1 := qcons_ok t25v1 Q85v1_ok
/-! spec.Touch -/
noncomputable def y24v1_0 (x0 : GBus) (x1 : Int) : Bool := (bif (!(g25v1 x0)) then true else (!(g78 x1 1 3)))
noncomputable def y24v1_1 (x0 : GBus) (x1 : Int) (x2 : Int) (x4 : Int) : Bool := (bif (y24v1_0 x0 x1) then true else (!(g98 x2 x4)))
noncomputable def y24v1_2 (x0 : GBus) : Bool := (eqN (List.length (g100 x0).Bytes) (List.length (g100 x0).Bytes))
noncomputable def y24v1_3 (x0 : GBus) : Bool := (eqN (List.length (g100 x0).Log) (List.length (g100 x0).Log))
noncomputable def y24v1_4 (x0 : GBus) (x1 : Int) (x2 : Int) (x3 : Int) (x4 : Int) : GBus × Int × Int := (g101 x1 x2 x3 x4 (g100 x0))
noncomputable def y24v1_5 (x0 : GBus) (x1 : Int) (x2 : Int) (x3 : Int) (x4 : Int) : Nat := (List.length (y24v1_4 x0 x1 x2 x3 x4).1.Bytes)
noncomputable def y24v1_6 (x0 : GBus) (x1 : Int) (x2 : Int) (x3 : Int) (x4 : Int) : Nat := (List.length (y24v1_4 x0 x1 x2 x3 x4).1.Log)
noncomputable def y24v1_7 (x0 : GBus) (x1 : Int) (x2 : Int) (x3 : Int) (x4 : Int) : GBus := (g100 (y24v1_4 x0 x1 x2 x3 x4).1)
noncomputable def y24v1_8 (x0 : GBus) (x1 : Int) (x2 : Int) (x3 : Int) (x4 : Int) : Nat := (List.length (y24v1_7 x0 x1 x2 x3 x4).Bytes)
noncomputable def y24v1_9 (x0 : GBus) (x1 : Int) (x2 : Int) (x3 : Int) (x4 : Int) : Nat := (List.length (y24v1_7 x0 x1 x2 x3 x4).Log)
noncomputable def y24v1_10 (x0 : GBus) (x1 : Int) (x2 : Int) (x3 : Int) (x4 : Int) : Bool := ((eqN (y24v1_8 x0 x1 x2 x3 x4) (y24v1_8 x0 x1 x2 x3 x4)) && ((eqN (y24v1_9 x0 x1 x2 x3 x4) (y24v1_9 x0 x1 x2 x3 x4)) && true))
noncomputable def T24v1 (x0 : GBus) (x1 : Int) (x2 : Int) (x3 : Int) (x4 : Int) : Pt (GBus × Int × Int × Bool) := (.ok true (.ok ((k25v1 x0) && ((((k78 x1 1 3) && true) || (!(g25v1 x0))) && ((((k98 x2 x4) && true) || (y24v1_0 x0 x1)) && ((((k99 x3) && true) || (y24v1_1 x0 x1 x2 x4)) && true)))) (.br (bif (bif (y24v1_1 x0 x1 x2 x4) then true else (!(g99 x3))) then true else (bif (neI x1 2) then (neI x4 0) else false)) (.ok true (.ok true (.ok true (.leaf ((GBus.mk [] []), 0, 0, false))))) (.ok ((k100 x0) && true) (.ok ((((((y24v1_2 x0) && ((y24v1_3 x0) && true)) && ((y24v1_2 x0) && ((y24v1_3 x0) && true))) && true) && ((y24v1_2 x0) && ((y24v1_3 x0) && (k101 x1 x2 x3 x4 (g100 x0))))) && true) (.ok true (.ok true (.ok (((((eqN (y24v1_5 x0 x1 x2 x3 x4) (y24v1_5 x0 x1 x2 x3 x4)) && ((eqN (y24v1_6 x0 x1 x2 x3 x4) (y24v1_6 x0 x1 x2 x3 x4)) && true)) && true) && (k100 (y24v1_4 x0 x1 x2 x3 x4).1)) && true) (.ok ((y24v1_10 x0 x1 x2 x3 x4) && ((y24v1_10 x0 x1 x2 x3 x4) && true)) (.ok ((y24v1_10 x0 x1 x2 x3 x4) && true) (.leaf ((y24v1_7 x0 x1 x2 x3 x4), (bif (eqI x1 2) then 0 else (y24v1_4 x0 x1 x2 x3 x4).2.1), (y24v1_4 x0 x1 x2 x3 x4).2.2, true))))))))))))
noncomputable def g24v1 (x0 : GBus) (x1 : Int) (x2 : Int) (x3 : Int) (x4 : Int) : GBus × Int × Int × Bool := hid (T24v1 x0 x1 x2 x3 x4).val
noncomputable def k24v1 (x0 : GBus) (x1 : Int) (x2 : Int) (x3 : Int) (x4 : Int) : Bool := hid (T24v1 x0 x1 x2 x3 x4).okv
noncomputable def n24v1 (x0 : GBus) (x1 : Int) (x2 : Int) (x3 : Int) (x4 : Int) (r : GBus × Int × Int × Bool) : SV × List Blk := ((.tup [(.agg [.imm true 1 r.1.Bytes, .imm true 5 r.1.Log]), (.one (.lit (.int .i64 r.2.1))), (.one (.lit (.int .i64 r.2.2.1))), (.one (.lit (.bool r.2.2.2)))]), [])
theorem e24v1 (x0 : GBus) (x1 : Int) (x2 : Int) (x3 : Int) (x4 : Int) : fnZ Q25v1 [(17, [.imm 1, .imm 5]), (45, [.imm 1, .imm 5]), (57, [.imm 1, .imm 5])] [] true [] 2097152 F24 [(.agg [.imm true 1 x0.Bytes, .imm true 5 x0.Log]), (.one (.lit (.int .i64 x1))), (.one (.lit (.int .i64 x2))), (.one (.lit (.int .i64 x3))), (.one (.lit (.int .i64 x4)))] = some ((T24v1 x0 x1 x2 x3 x4).map (n24v1 x0 x1 x2 x3 x4)) := by kernel_rfl
noncomputable def q24v1 : List SV → List Blk → Option ((SV × List Blk) × Bool)
  | [(.agg [.imm true 1 c0, .imm true 5 c1]), (.one (.lit (.int .i64 c2))), (.one (.lit (.int .i64 c3))), (.one (.lit (.int .i64 c4))), (.one (.lit (.int .i64 c5)))], [] => some (n24v1 (GBus.mk c0 c1) c2 c3 c4 c5 (g24v1 (GBus.mk c0 c1) c2 c3 c4 c5), k24v1 (GBus.mk c0 c1) c2 c3 c4 c5)
  | _, _ => none
theorem t24v1 (args : List SV) (hp : List Blk) (r : SV × List Blk) (h : q24v1 args hp = some (r, true)) : frzR R 100024 args hp = some r := by
  unfold q24v1 at h
  split at h
  · rename_i c0 c1 c2 c3 c4 c5
    obtain ⟨hr, hk⟩ := Prod.mk.inj (Option.some.inj h)
    exact fnZ_c (f := 24) Q25v1_ok (loops_of (l := []) rfl trivial) (e24v1 (GBus.mk c0 c1) c2 c3 c4 c5) hr hk (fun r h => R_fn at24 2097152 h)
  · simp at h
noncomputable def Q24v1 : Qt := qcons 100024 q24v1 Q25v1
theorem Q24v1_ok : QOk (frzR R) Q24v1 := qcons_ok t24v1 Q25v1_ok
/-! laws.sameInts -/
structure V20_0 where
  mk ::
  (s0 : List Row)
  (s1 : List Row)
  (s12 : Int)
  (s13 : Int)
noncomputable def N20_0 (v : V20_0) : Pt (Option V20_0) := (.ok true (.br (ltI v.s13 v.s12) (.ok true (.ok ((inRow [.int .i64] v.s0 v.s13) && ((inRow [.int .i64] v.s1 v.s13) && true)) (.br (neI (intAt v.s0 (Int.toNat v.s13) 0) (intAt v.s1 (Int.toNat v.s13) 0)) (.ok true (.leaf none)) (.ok true (.ok true (.leaf (some { v with s13 := (addI v.s13 1) }))))))) (.leaf none)))
noncomputable def s20_0 (v : V20_0) : St := ⟨[(0, (.one (.imm true 1 v.s0))), (1, (.one (.imm true 1 v.s1))), (12, (.one (.lit (.int .i64 v.s12)))), (13, (.one (.lit (.int .i64 v.s13))))], []⟩
def u20_0 : St → Option (V20_0 × Bool)
  | ⟨[(0, (.one (.imm true 1 c0))), (1, (.one (.imm true 1 c1))), (12, (.one (.lit (.int .i64 c2)))), (13, (.one (.lit (.int .i64 c3))))], []⟩ => some ((V20_0.mk c0 c1 c2 c3), true)
  | _ => none
theorem hN20_0 (v : V20_0) : ((evp Q24v1 [(18, [.int .i64]), (19, [.int .i64]), (22, [.int .i64]), (23, [.int .i64])] [] true [] 0 2097152 F20b0 (s20_0 v)).bind (stpT true false 0 [0, 1, 12, 13])) = some ((N20_0 v).map (Option.map s20_0)) := by kernel_rfl
theorem hu20_0 (σ : St) (v : V20_0) (h : u20_0 σ = some (v, true)) : σ = s20_0 v := by
  unfold u20_0 at h
  split at h
  · obtain ⟨hr, hk⟩ := Prod.mk.inj (Option.some.inj h)
    rw [← hr]
    rfl
  · simp at h
theorem lt20_0 : TellsP (lqP true false 0 [0, 1, 12, 13] (evp Q24v1 [(18, [.int .i64]), (19, [.int .i64]), (22, [.int .i64]), (23, [.int .i64])] [] true [] 0 2097152 F20b0) u20_0 s20_0 N20_0 2097152) (evc R 0 2097152 (.loop [0, 1, 12, 13] F20b0)) := lqP_tells (evp_tells Q24v1_ok (loops_of (l := []) (by kernel_rfl) trivial)) hu20_0 hN20_0
noncomputable def lq20_0 : Lp := (14, lqP true false 0 [0, 1, 12, 13] (evp Q24v1 [(18, [.int .i64]), (19, [.int .i64]), (22, [.int .i64]), (23, [.int .i64])] [] true [] 0 2097152 F20b0) u20_0 s20_0 N20_0 2097152) :: []
noncomputable def w20_0 (v : V20_0) : V20_0 := (hid (loopV N20_0 2097152 v)).getD v
noncomputable def i20_0 (v : V20_0) : Bool := (hid (loopV N20_0 2097152 v)).isSome
noncomputable def y20_0 (x0 : List Row) (x1 : List Row) : V20_0 := (w20_0 (V20_0.mk x0 x1 (lenI x0) 0))
noncomputable def T20 (x0 : List Row) (x1 : List Row) : Pt (Bool) := (.ok true (.ok true (.br (neI (lenI x0) (lenI x1)) (.ok true (.ok true (.ok true (.leaf false)))) (.ok true (.ok true (.ok true (.ok (i20_0 (V20_0.mk x0 x1 (lenI x0) 0)) (.br (ltI (y20_0 x0 x1).s13 (y20_0 x0 x1).s12) (.ok true (.ok true (.leaf false))) (.ok true (.ok true (.ok true (.leaf true))))))))))))
noncomputable def g20 (x0 : List Row) (x1 : List Row) : Bool := hid (T20 x0 x1).val
noncomputable def k20 (x0 : List Row) (x1 : List Row) : Bool := hid (T20 x0 x1).okv
noncomputable def n20 (x0 : List Row) (x1 : List Row) (r : Bool) : SV × List Blk := ((.one (.lit (.bool r))), [])
theorem e20 (x0 : List Row) (x1 : List Row) : fnZ Q24v1 [(18, [.int .i64]), (19, [.int .i64]), (22, [.int .i64]), (23, [.int .i64])] [] true lq20_0 2097152 F20 [(.one (.imm true 1 x0)), (.one (.imm true 1 x1))] = some ((T20 x0 x1).map (n20 x0 x1)) := by kernel_rfl
noncomputable def q20 : List SV → List Blk → Option ((SV × List Blk) × Bool)
  | [(.one (.imm true 1 c0)), (.one (.imm true 1 c1))], [] => some (n20 c0 c1 (g20 c0 c1), k20 c0 c1)
  | _, _ => none
theorem hL20 : Loops (fun live x => TellsP (lpAt lq20_0 (tagC x)) (evc R 0 2097152 (.loop live x))) F20.body := (loops_of (l := [([0, 1, 12, 13], F20b0)]) (by kernel_rfl) ⟨fun σ σr t h ho hl => lt20_0 σ σr t h ho hl, trivial⟩)
theorem t20 (args : List SV) (hp : List Blk) (r : SV × List Blk) (h : q20 args hp = some (r, true)) : frzR R 100020 args hp = some r := by
  unfold q20 at h
  split at h
  · rename_i c0 c1
    obtain ⟨hr, hk⟩ := Prod.mk.inj (Option.some.inj h)
    exact fnZ_c (f := 20) Q24v1_ok hL20 (e20 c0 c1) hr hk (fun r h => R_fn at20 2097152 h)
  · simp at h
noncomputable def Q20 : Qt := qcons 100020 q20 Q24v1
theorem Q20_ok : QOk (frzR R) Q20 := qcons_ok t20 Q24v1_ok
/-! laws.sameAccesses -/
structure V12_0 where
  mk ::
  (s0 : List Row)
  (s1 : List Row)
  (s12 : Int)
  (s13 : Int)
noncomputable def N12_0 (v : V12_0) : Pt (Option V12_0) := (.ok true (.br (ltI v.s13 v.s12) (.ok true (.ok ((inRow [.int .i64, .int .i64, .int .i64, .int .i64, .int .i64] v.s0 v.s13) && ((inRow [.int .i64, .int .i64, .int .i64, .int .i64, .int .i64] v.s1 v.s13) && true)) (.br (!((eqI (intAt v.s0 (Int.toNat v.s13) 0) (intAt v.s1 (Int.toNat v.s13) 0)) && ((eqI (intAt v.s0 (Int.toNat v.s13) 1) (intAt v.s1 (Int.toNat v.s13) 1)) && ((eqI (intAt v.s0 (Int.toNat v.s13) 2) (intAt v.s1 (Int.toNat v.s13) 2)) && ((eqI (intAt v.s0 (Int.toNat v.s13) 3) (intAt v.s1 (Int.toNat v.s13) 3)) && ((eqI (intAt v.s0 (Int.toNat v.s13) 4) (intAt v.s1 (Int.toNat v.s13) 4)) && true)))))) (.ok true (.leaf none)) (.ok true (.ok true (.leaf (some { v with s13 := (addI v.s13 1) }))))))) (.leaf none)))
noncomputable def s12_0 (v : V12_0) : St := ⟨[(0, (.one (.imm true 5 v.s0))), (1, (.one (.imm true 5 v.s1))), (12, (.one (.lit (.int .i64 v.s12)))), (13, (.one (.lit (.int .i64 v.s13))))], []⟩
def u12_0 : St → Option (V12_0 × Bool)
  | ⟨[(0, (.one (.imm true 5 c0))), (1, (.one (.imm true 5 c1))), (12, (.one (.lit (.int .i64 c2)))), (13, (.one (.lit (.int .i64 c3))))], []⟩ => some ((V12_0.mk c0 c1 c2 c3), true)
  | _ => none
theorem hN12_0 (v : V12_0) : ((evp Q20 [(18, [.int .i64, .int .i64, .int .i64, .int .i64, .int .i64]), (19, [.int .i64, .int .i64, .int .i64, .int .i64, .int .i64]), (22, [.int .i64, .int .i64, .int .i64, .int .i64, .int .i64]), (23, [.int .i64, .int .i64, .int .i64, .int .i64, .int .i64])] [] true [] 0 2097152 F12b0 (s12_0 v)).bind (stpT true false 0 [0, 1, 12, 13])) = some ((N12_0 v).map (Option.map s12_0)) := by kernel_rfl
theorem hu12_0 (σ : St) (v : V12_0) (h : u12_0 σ = some (v, true)) : σ = s12_0 v := by
  unfold u12_0 at h
  split at h
  · obtain ⟨hr, hk⟩ := Prod.mk.inj (Option.some.inj h)
    rw [← hr]
    rfl
  · simp at h
theorem lt12_0 : TellsP (lqP true false 0 [0, 1, 12, 13] (evp Q20 [(18, [.int .i64, .int .i64, .int .i64, .int .i64, .int .i64]), (19, [.int .i64, .int .i64, .int .i64, .int .i64, .int .i64]), (22, [.int .i64, .int .i64, .int .i64, .int .i64, .int .i64]), (23, [.int .i64, .int .i64, .int .i64, .int .i64, .int .i64])] [] true [] 0 2097152 F12b0) u12_0 s12_0 N12_0 2097152) (evc R 0 2097152 (.loop [0, 1, 12, 13] F12b0)) := lqP_tells (evp_tells Q20_ok (loops_of (l := []) (by kernel_rfl) trivial)) hu12_0 hN12_0
noncomputable def lq12_0 : Lp := (14, lqP true false 0 [0, 1, 12, 13] (evp Q20 [(18, [.int .i64, .int .i64, .int .i64, .int .i64, .int .i64]), (19, [.int .i64, .int .i64, .int .i64, .int .i64, .int .i64]), (22, [.int .i64, .int .i64, .int .i64, .int .i64, .int .i64]), (23, [.int .i64, .int .i64, .int .i64, .int .i64, .int .i64])] [] true [] 0 2097152 F12b0) u12_0 s12_0 N12_0 2097152) :: []
noncomputable def w12_0 (v : V12_0) : V12_0 := (hid (loopV N12_0 2097152 v)).getD v
noncomputable def i12_0 (v : V12_0) : Bool := (hid (loopV N12_0 2097152 v)).isSome
noncomputable def y12_0 (x0 : List Row) (x1 : List Row) : V12_0 := (w12_0 (V12_0.mk x0 x1 (lenI x0) 0))
noncomputable def T12 (x0 : List Row) (x1 : List Row) : Pt (Bool) := (.ok true (.ok true (.br (neI (lenI x0) (lenI x1)) (.ok true (.ok true (.ok true (.leaf false)))) (.ok true (.ok true (.ok true (.ok (i12_0 (V12_0.mk x0 x1 (lenI x0) 0)) (.br (ltI (y12_0 x0 x1).s13 (y12_0 x0 x1).s12) (.ok true (.ok true (.leaf false))) (.ok true (.ok true (.ok true (.leaf true))))))))))))
noncomputable def g12 (x0 : List Row) (x1 : List Row) : Bool := hid (T12 x0 x1).val
noncomputable def k12 (x0 : List Row) (x1 : List Row) : Bool := hid (T12 x0 x1).okv
noncomputable def n12 (x0 : List Row) (x1 : List Row) (r : Bool) : SV × List Blk := ((.one (.lit (.bool r))), [])
theorem e12 (x0 : List Row) (x1 : List Row) : fnZ Q20 [(18, [.int .i64, .int .i64, .int .i64, .int .i64, .int .i64]), (19, [.int .i64, .int .i64, .int .i64, .int .i64, .int .i64]), (22, [.int .i64, .int .i64, .int .i64, .int .i64, .int .i64]), (23, [.int .i64, .int .i64, .int .i64, .int .i64, .int .i64])] [] true lq12_0 2097152 F12 [(.one (.imm true 5 x0)), (.one (.imm true 5 x1))] = some ((T12 x0 x1).map (n12 x0 x1)) := by kernel_rfl
noncomputable def q12 : List SV → List Blk → Option ((SV × List Blk) × Bool)
  | [(.one (.imm true 5 c0)), (.one (.imm true 5 c1))], [] => some (n12 c0 c1 (g12 c0 c1), k12 c0 c1)
  | _, _ => none
theorem hL12 : Loops (fun live x => TellsP (lpAt lq12_0 (tagC x)) (evc R 0 2097152 (.loop live x))) F12.body := (loops_of (l := [([0, 1, 12, 13], F12b0)]) (by kernel_rfl) ⟨fun σ σr t h ho hl => lt12_0 σ σr t h ho hl, trivial⟩)
theorem t12 (args : List SV) (hp : List Blk) (r : SV × List Blk) (h : q12 args hp = some (r, true)) : frzR R 100012 args hp = some r := by
  unfold q12 at h
  split at h
  · rename_i c0 c1
    obtain ⟨hr, hk⟩ := Prod.mk.inj (Option.some.inj h)
    exact fnZ_c (f := 12) Q20_ok hL12 (e12 c0 c1) hr hk (fun r h => R_fn at12 2097152 h)
  · simp at h
noncomputable def Q12 : Qt := qcons 100012 q12 Q20
theorem Q12_ok : QOk (frzR R) Q12 := qcons_ok t12 Q20_ok
/-! laws.sameBuses -/
noncomputable def T19 (x0 : GBus) (x1 : GBus) : Pt (Bool) := (.ok true (.ok ((k20 x0.Bytes x1.Bytes) && ((((k12 x0.Log x1.Log) && true) || (!(g20 x0.Bytes x1.Bytes))) && true)) (.ok true (.ok true (.leaf (bif (g20 x0.Bytes x1.Bytes) then (g12 x0.Log x1.Log) else false))))))
noncomputable def g19 (x0 : GBus) (x1 : GBus) : Bool := hid (T19 x0 x1).val
noncomputable def k19 (x0 : GBus) (x1 : GBus) : Bool := hid (T19 x0 x1).okv
noncomputable def n19 (x0 : GBus) (x1 : GBus) (r : Bool) : SV × List Blk := ((.one (.lit (.bool r))), [])
theorem e19 (x0 : GBus) (x1 : GBus) : fnZ Q12 [(6, [.imm 1]), (8, [.imm 1]), (12, [.imm 5]), (14, [.imm 5])] [] true [] 2097152 F19 [(.agg [.imm true 1 x0.Bytes, .imm true 5 x0.Log]), (.agg [.imm true 1 x1.Bytes, .imm true 5 x1.Log])] = some ((T19 x0 x1).map (n19 x0 x1)) := by kernel_rfl
noncomputable def q19 : List SV → List Blk → Option ((SV × List Blk) × Bool)
  | [(.agg [.imm true 1 c0, .imm true 5 c1]), (.agg [.imm true 1 c2, .imm true 5 c3])], [] => some (n19 (GBus.mk c0 c1) (GBus.mk c2 c3) (g19 (GBus.mk c0 c1) (GBus.mk c2 c3)), k19 (GBus.mk c0 c1) (GBus.mk c2 c3))
  | _, _ => none
theorem t19 (args : List SV) (hp : List Blk) (r : SV × List Blk) (h : q19 args hp = some (r, true)) : frzR R 100019 args hp = some r := by
  unfold q19 at h
  split at h
  · rename_i c0 c1 c2 c3
    obtain ⟨hr, hk⟩ := Prod.mk.inj (Option.some.inj h)
    exact fnZ_c (f := 19) Q12_ok (loops_of (l := []) rfl trivial) (e19 (GBus.mk c0 c1) (GBus.mk c2 c3)) hr hk (fun r h => R_fn at19 2097152 h)
  · simp at h
noncomputable def Q19 : Qt := qcons 100019 q19 Q12
theorem Q19_ok : QOk (frzR R) Q19 := qcons_ok t19 Q12_ok
/-! spec.DrawPeekWord -/
noncomputable def y26_0 (x0 : List Row) : Nat := (List.length (g72 (Gl1Cur.mk x0 0 0)).2.Bytes)
noncomputable def y26_1 (x0 : List Row) : Nat := (List.length (g72 (Gl1Cur.mk x0 0 0)).2.Log)
noncomputable def y26_2 (x0 : List Row) : Bool := ((eqN (y26_0 x0) (y26_0 x0)) && ((eqN (y26_1 x0) (y26_1 x0)) && true))
noncomputable def T26 (x0 : List Row) : Pt (GBus × Int) := (.ok true (.ok true (.ok ((k72 (Gl1Cur.mk x0 0 0)) && ((k79 (g72 (Gl1Cur.mk x0 0 0)).1) && true)) (.ok ((y26_2 x0) && ((y26_2 x0) && true)) (.ok ((y26_2 x0) && true) (.leaf ((g72 (Gl1Cur.mk x0 0 0)).2, (g79 (g72 (Gl1Cur.mk x0 0 0)).1).2)))))))
noncomputable def g26 (x0 : List Row) : GBus × Int := hid (T26 x0).val
noncomputable def k26 (x0 : List Row) : Bool := hid (T26 x0).okv
noncomputable def n26 (x0 : List Row) (r : GBus × Int) : SV × List Blk := ((.tup [(.agg [.imm true 1 r.1.Bytes, .imm true 5 r.1.Log]), (.one (.lit (.int .i64 r.2)))]), [])
theorem e26 (x0 : List Row) : fnZ Q19 [] [] true [] 2097152 F26 [(.one (.imm true 1 x0))] = some ((T26 x0).map (n26 x0)) := by kernel_rfl
noncomputable def q26 : List SV → List Blk → Option ((SV × List Blk) × Bool)
  | [(.one (.imm true 1 c0))], [] => some (n26 c0 (g26 c0), k26 c0)
  | _, _ => none
theorem t26 (args : List SV) (hp : List Blk) (r : SV × List Blk) (h : q26 args hp = some (r, true)) : frzR R 100026 args hp = some r := by
  unfold q26 at h
  split at h
  · rename_i c0
    obtain ⟨hr, hk⟩ := Prod.mk.inj (Option.some.inj h)
    exact fnZ_c (f := 26) Q19_ok (loops_of (l := []) rfl trivial) (e26 c0) hr hk (fun r h => R_fn at26 2097152 h)
  · simp at h
noncomputable def Q26 : Qt := qcons 100026 q26 Q19
theorem Q26_ok : QOk (frzR R) Q26 := qcons_ok t26 Q19_ok
/-! (*impl.Bus).at -/
noncomputable def T104v1 (x1 : Int) (x2 : Int) (x0 : GBus) : Pt (Int) := (.ok true (.ok true (.br (eqI x1 1) (.ok ((inRow [.int .i64] x0.Bytes x2) && true) (.ok true (.leaf (intAt x0.Bytes (Int.toNat x2) 0)))) (.ok ((inRow [.int .i64] x0.Bytes x2) && ((inRow [.int .i64] x0.Bytes (addI x2 1)) && true)) (.ok true (.leaf (orI (shlI (intAt x0.Bytes (Int.toNat x2) 0) 8) (intAt x0.Bytes (Int.toNat (addI x2 1)) 0))))))))
noncomputable def g104v1 (x1 : Int) (x2 : Int) (x0 : GBus) : Int := hid (T104v1 x1 x2 x0).val
noncomputable def k104v1 (x1 : Int) (x2 : Int) (x0 : GBus) : Bool := hid (T104v1 x1 x2 x0).okv
noncomputable def n104v1 (x1 : Int) (x2 : Int) (x0 : GBus) (r : Int) : SV × List Blk := ((.one (.lit (.int .i64 r))), [.box [.imm true 1 x0.Bytes, .imm true 5 x0.Log]])
theorem e104v1 (x1 : Int) (x2 : Int) (x0 : GBus) : fnP Q26 [(12, [.imm 1]), (14, [.int .i64]), (15, [.int .i64]), (19, [.imm 1]), (21, [.int .i64]), (22, [.int .i64]), (27, [.imm 1]), (30, [.int .i64]), (31, [.int .i64])] [] true [] 2097152 F104 [(.one (.ptr 0 0 0)), (.one (.lit (.int .i64 x1))), (.one (.lit (.int .i64 x2)))] [.box [.imm true 1 x0.Bytes, .imm true 5 x0.Log]] = some ((T104v1 x1 x2 x0).map (n104v1 x1 x2 x0)) := by kernel_rfl
noncomputable def q104v1 : List SV → List Blk → Option ((SV × List Blk) × Bool)
  | [(.one (.ptr 0 0 0)), (.one (.lit (.int .i64 c0))), (.one (.lit (.int .i64 c1)))], [.box [.imm true 1 c2, .imm true 5 c3]] => some (n104v1 c0 c1 (GBus.mk c2 c3) (g104v1 c0 c1 (GBus.mk c2 c3)), k104v1 c0 c1 (GBus.mk c2 c3))
  | _, _ => none
theorem t104v1 (args : List SV) (hp : List Blk) (r : SV × List Blk) (h : q104v1 args hp = some (r, true)) : frzR R 104 args hp = some r := by
  unfold q104v1 at h
  split at h
  · rename_i c0 c1 c2 c3
    obtain ⟨hr, hk⟩ := Prod.mk.inj (Option.some.inj h)
    exact (frz_lo (by decide)).trans (R_fn at104 2097152 (fnP_c Q26_ok (loops_of (l := []) rfl trivial) (e104v1 c0 c1 (GBus.mk c2 c3)) hr hk))
  · simp at h
noncomputable def Q104v1 : Qt := qcons 104 q104v1 Q26
theorem Q104v1_ok : QOk (frzR R) Q104v1 := qcons_ok t104v1 Q26_ok
/-! impl.PeekWord -/
noncomputable def y27_0 (x0 : GBus) (x1 : Int) : Bool := (bif (!(g21 x0)) then true else (!(g94 x1)))
noncomputable def T27 (x0 : GBus) (x1 : Int) : Pt (Int × Bool) := (.ok true (.ok ((k21 x0) && ((((k94 x1) && true) || (!(g21 x0))) && ((((k103 1 2 x1) && true) || (y27_0 x0 x1)) && true))) (.br (bif (y27_0 x0 x1) then true else (neI (g103 1 2 x1) 0)) (.ok true (.ok true (.ok true (.leaf (0, false))))) (.ok ((k104v1 2 x1 x0) && true) (.ok true (.ok true (.leaf ((g104v1 2 x1 x0), true))))))))
noncomputable def g27 (x0 : GBus) (x1 : Int) : Int × Bool := hid (T27 x0 x1).val
noncomputable def k27 (x0 : GBus) (x1 : Int) : Bool := hid (T27 x0 x1).okv
noncomputable def n27 (x0 : GBus) (x1 : Int) (r : Int × Bool) : SV × List Blk := ((.tup [(.one (.lit (.int .i64 r.1))), (.one (.lit (.bool r.2)))]), [])
theorem e27 (x0 : GBus) (x1 : Int) : fnZ Q104v1 [(6, [.imm 1, .imm 5])] [] true [] 2097152 F27 [(.agg [.imm true 1 x0.Bytes, .imm true 5 x0.Log]), (.one (.lit (.int .i64 x1)))] = some ((T27 x0 x1).map (n27 x0 x1)) := by kernel_rfl
noncomputable def q27 : List SV → List Blk → Option ((SV × List Blk) × Bool)
  | [(.agg [.imm true 1 c0, .imm true 5 c1]), (.one (.lit (.int .i64 c2)))], [] => some (n27 (GBus.mk c0 c1) c2 (g27 (GBus.mk c0 c1) c2), k27 (GBus.mk c0 c1) c2)
  | _, _ => none
theorem t27 (args : List SV) (hp : List Blk) (r : SV × List Blk) (h : q27 args hp = some (r, true)) : frzR R 100027 args hp = some r := by
  unfold q27 at h
  split at h
  · rename_i c0 c1 c2
    obtain ⟨hr, hk⟩ := Prod.mk.inj (Option.some.inj h)
    exact fnZ_c (f := 27) Q104v1_ok (loops_of (l := []) rfl trivial) (e27 (GBus.mk c0 c1) c2) hr hk (fun r h => R_fn at27 2097152 h)
  · simp at h
noncomputable def Q27 : Qt := qcons 100027 q27 Q104v1
theorem Q27_ok : QOk (frzR R) Q27 := qcons_ok t27 Q104v1_ok
/-! spec.PeekWord -/
noncomputable def y28_0 (x0 : GBus) (x1 : Int) : Bool := (bif (!(g25v1 x0)) then true else (!(g99 x1)))
noncomputable def T28 (x0 : GBus) (x1 : Int) : Pt (Int × Bool) := (.ok true (.ok ((k25v1 x0) && ((((k99 x1) && true) || (!(g25v1 x0))) && ((((k105 1 2 x1) && true) || (y28_0 x0 x1)) && true))) (.br (bif (y28_0 x0 x1) then true else (neI (g105 1 2 x1) 0)) (.ok true (.ok true (.ok true (.leaf (0, false))))) (.ok ((inRow [.int .i64] x0.Bytes x1) && ((inRow [.int .i64] x0.Bytes (addI x1 1)) && true)) (.ok true (.ok true (.leaf ((orI (shlI (intAt x0.Bytes (Int.toNat x1) 0) 8) (intAt x0.Bytes (Int.toNat (addI x1 1)) 0)), true))))))))
noncomputable def g28 (x0 : GBus) (x1 : Int) : Int × Bool := hid (T28 x0 x1).val
noncomputable def k28 (x0 : GBus) (x1 : Int) : Bool := hid (T28 x0 x1).okv
noncomputable def n28 (x0 : GBus) (x1 : Int) (r : Int × Bool) : SV × List Blk := ((.tup [(.one (.lit (.int .i64 r.1))), (.one (.lit (.bool r.2)))]), [])
theorem e28 (x0 : GBus) (x1 : Int) : fnZ Q27 [(6, [.imm 1, .imm 5]), (20, [.imm 1]), (22, [.int .i64]), (23, [.int .i64]), (26, [.imm 1]), (29, [.int .i64]), (30, [.int .i64])] [] true [] 2097152 F28 [(.agg [.imm true 1 x0.Bytes, .imm true 5 x0.Log]), (.one (.lit (.int .i64 x1)))] = some ((T28 x0 x1).map (n28 x0 x1)) := by kernel_rfl
noncomputable def q28 : List SV → List Blk → Option ((SV × List Blk) × Bool)
  | [(.agg [.imm true 1 c0, .imm true 5 c1]), (.one (.lit (.int .i64 c2)))], [] => some (n28 (GBus.mk c0 c1) c2 (g28 (GBus.mk c0 c1) c2), k28 (GBus.mk c0 c1) c2)
  | _, _ => none
theorem t28 (args : List SV) (hp : List Blk) (r : SV × List Blk) (h : q28 args hp = some (r, true)) : frzR R 100028 args hp = some r := by
  unfold q28 at h
  split at h
  · rename_i c0 c1 c2
    obtain ⟨hr, hk⟩ := Prod.mk.inj (Option.some.inj h)
    exact fnZ_c (f := 28) Q27_ok (loops_of (l := []) rfl trivial) (e28 (GBus.mk c0 c1) c2) hr hk (fun r h => R_fn at28 2097152 h)
  · simp at h
noncomputable def Q28 : Qt := qcons 100028 q28 Q27
theorem Q28_ok : QOk (frzR R) Q28 := qcons_ok t28 Q27_ok
/-! spec.DrawKindOf -/
noncomputable def T29 (x0 : List Row) : Pt (Int) := (.ok true (.ok true (.ok ((k79 (Gl1Cur.mk x0 0 0)) && true) (.ok true (.ok true (.leaf (g79 (Gl1Cur.mk x0 0 0)).2))))))
noncomputable def g29 (x0 : List Row) : Int := hid (T29 x0).val
noncomputable def k29 (x0 : List Row) : Bool := hid (T29 x0).okv
noncomputable def n29 (x0 : List Row) (r : Int) : SV × List Blk := ((.one (.lit (.int .i64 r))), [])
theorem e29 (x0 : List Row) : fnZ Q28 [] [] true [] 2097152 F29 [(.one (.imm true 1 x0))] = some ((T29 x0).map (n29 x0)) := by kernel_rfl
noncomputable def q29 : List SV → List Blk → Option ((SV × List Blk) × Bool)
  | [(.one (.imm true 1 c0))], [] => some (n29 c0 (g29 c0), k29 c0)
  | _, _ => none
theorem t29 (args : List SV) (hp : List Blk) (r : SV × List Blk) (h : q29 args hp = some (r, true)) : frzR R 100029 args hp = some r := by
  unfold q29 at h
  split at h
  · rename_i c0
    obtain ⟨hr, hk⟩ := Prod.mk.inj (Option.some.inj h)
    exact fnZ_c (f := 29) Q28_ok (loops_of (l := []) rfl trivial) (e29 c0) hr hk (fun r h => R_fn at29 2097152 h)
  · simp at h
noncomputable def Q29 : Qt := qcons 100029 q29 Q28
theorem Q29_ok : QOk (frzR R) Q29 := qcons_ok t29 Q28_ok
/-! impl.KindOf -/
noncomputable def T30 (x0 : Int) : Pt (Int × Bool) := (.ok true (.ok ((k94 x0) && true) (.br (!(g94 x0)) (.ok true (.ok true (.ok true (.leaf (0, false))))) (.ok ((k106 x0) && true) (.ok true (.ok true (.leaf ((g106 x0), true))))))))
noncomputable def g30 (x0 : Int) : Int × Bool := hid (T30 x0).val
noncomputable def k30 (x0 : Int) : Bool := hid (T30 x0).okv
noncomputable def n30 (x0 : Int) (r : Int × Bool) : SV × List Blk := ((.tup [(.one (.lit (.int .i64 r.1))), (.one (.lit (.bool r.2)))]), [])
theorem e30 (x0 : Int) : fnZ Q29 [] [] true [] 2097152 F30 [(.one (.lit (.int .i64 x0)))] = some ((T30 x0).map (n30 x0)) := by kernel_rfl
noncomputable def q30 : List SV → List Blk → Option ((SV × List Blk) × Bool)
  | [(.one (.lit (.int .i64 c0)))], [] => some (n30 c0 (g30 c0), k30 c0)
  | _, _ => none
theorem t30 (args : List SV) (hp : List Blk) (r : SV × List Blk) (h : q30 args hp = some (r, true)) : frzR R 100030 args hp = some r := by
  unfold q30 at h
  split at h
  · rename_i c0
    obtain ⟨hr, hk⟩ := Prod.mk.inj (Option.some.inj h)
    exact fnZ_c (f := 30) Q29_ok (loops_of (l := []) rfl trivial) (e30 c0) hr hk (fun r h => R_fn at30 2097152 h)
  · simp at h
noncomputable def Q30 : Qt := qcons 100030 q30 Q29
theorem Q30_ok : QOk (frzR R) Q30 := qcons_ok t30 Q29_ok
/-! spec.KindOf -/
noncomputable def T31 (x0 : Int) : Pt (Int × Bool) := (.ok true (.ok ((k99 x0) && true) (.br (!(g99 x0)) (.ok true (.ok true (.ok true (.leaf (0, false))))) (.ok ((k107 x0) && true) (.ok true (.ok true (.leaf ((g107 x0), true))))))))
noncomputable def g31 (x0 : Int) : Int × Bool := hid (T31 x0).val
noncomputable def k31 (x0 : Int) : Bool := hid (T31 x0).okv
noncomputable def n31 (x0 : Int) (r : Int × Bool) : SV × List Blk := ((.tup [(.one (.lit (.int .i64 r.1))), (.one (.lit (.bool r.2)))]), [])
theorem e31 (x0 : Int) : fnZ Q30 [] [] true [] 2097152 F31 [(.one (.lit (.int .i64 x0)))] = some ((T31 x0).map (n31 x0)) := by kernel_rfl
noncomputable def q31 : List SV → List Blk → Option ((SV × List Blk) × Bool)
  | [(.one (.lit (.int .i64 c0)))], [] => some (n31 c0 (g31 c0), k31 c0)
  | _, _ => none
theorem t31 (args : List SV) (hp : List Blk) (r : SV × List Blk) (h : q31 args hp = some (r, true)) : frzR R 100031 args hp = some r := by
  unfold q31 at h
  split at h
  · rename_i c0
    obtain ⟨hr, hk⟩ := Prod.mk.inj (Option.some.inj h)
    exact fnZ_c (f := 31) Q30_ok (loops_of (l := []) rfl trivial) (e31 c0) hr hk (fun r h => R_fn at31 2097152 h)
  · simp at h
noncomputable def Q31 : Qt := qcons 100031 q31 Q30
theorem Q31_ok : QOk (frzR R) Q31 := qcons_ok t31 Q30_ok
/-! laws.FnBus -/
structure V4_0 where
  mk ::
  (b0 : GBus)
  (b1 : GBus)
  (s1 : List Row)
  (s6 : Int)
  (s7 : Int)
  (s8 : Int)
  (s9 : Int)
  (s12 : Int)
  (s133 : Int)
  (s134 : Int)
noncomputable def N4_0 (v : V4_0) : Pt (Option V4_0) := (.ok true (.br (ltI v.s134 v.s133) (.ok true (.ok ((inRow [.int .i64] v.b1.Bytes v.s134) && ((inRow [.int .i64] v.b0.Bytes v.s134) && true)) (.br (bif (neI (intAt v.b1.Bytes (Int.toNat v.s134) 0) (intAt v.b0.Bytes (Int.toNat v.s134) 0)) then (bif (bif (bif (bif (neI v.s6 2) then true else (neI v.s12 0)) then true else (ltI v.s134 v.s8)) then true else (geI v.s134 (addI v.s8 v.s7))) then true else (bif (geI v.s134 384) then (ltI v.s134 496) else false)) else false) (.ok true (.leaf none)) (.ok true (.ok true (.leaf (some { v with s134 := (addI v.s134 1) }))))))) (.leaf none)))
noncomputable def s4_0 (v : V4_0) : St := ⟨[(1, (.one (.imm true 1 v.s1))), (5, (.one (.ptr 0 0 0))), (6, (.one (.lit (.int .i64 v.s6)))), (7, (.one (.lit (.int .i64 v.s7)))), (8, (.one (.lit (.int .i64 v.s8)))), (9, (.one (.lit (.int .i64 v.s9)))), (10, (.one (.ptr 1 0 0))), (12, (.one (.lit (.int .i64 v.s12)))), (133, (.one (.lit (.int .i64 v.s133)))), (134, (.one (.lit (.int .i64 v.s134))))], [.box [.imm true 1 v.b0.Bytes, .imm true 5 v.b0.Log], .box [.imm true 1 v.b1.Bytes, .imm true 5 v.b1.Log]]⟩
def u4_0 : St → Option (V4_0 × Bool)
  | ⟨[(1, (.one (.imm true 1 c4))), (5, (.one (.ptr 0 0 0))), (6, (.one (.lit (.int .i64 c5)))), (7, (.one (.lit (.int .i64 c6)))), (8, (.one (.lit (.int .i64 c7)))), (9, (.one (.lit (.int .i64 c8)))), (10, (.one (.ptr 1 0 0))), (12, (.one (.lit (.int .i64 c9)))), (133, (.one (.lit (.int .i64 c10)))), (134, (.one (.lit (.int .i64 c11))))], [.box [.imm true 1 c0, .imm true 5 c1], .box [.imm true 1 c2, .imm true 5 c3]]⟩ => some ((V4_0.mk (GBus.mk c0 c1) (GBus.mk c2 c3) c4 c5 c6 c7 c8 c9 c10 c11), true)
  | _ => none
theorem hN4_0 (v : V4_0) : ((evp Q19 [(49, [.imm 1, .imm 5]), (60, [.imm 1, .imm 5]), (84, [.imm 1, .imm 5]), (85, [.imm 1, .imm 5]), (90, [.imm 1, .imm 5]), (92, [.imm 1, .imm 5]), (97, [.imm 1, .imm 5]), (102, [.imm 5]), (105, [.imm 5]), (111, [.imm 5]), (113, [.imm 5]), (117, [.imm 5]), (123, [.imm 5]), (126, [.imm 5]), (132, [.imm 1]), (138, [.imm 1]), (140, [.int .i64]), (141, [.int .i64]), (143, [.imm 1]), (145, [.int .i64]), (146, [.int .i64]), (184, [.imm 1, .imm 5]), (209, [.imm 1, .imm 5]), (215, [.imm 1, .imm 5])] [] true [] 0 2097152 F4b0 (s4_0 v)).bind (stpT true false 0 [1, 5, 6, 7, 8, 9, 10, 12, 133, 134])) = some ((N4_0 v).map (Option.map s4_0)) := by kernel_rfl
theorem hu4_0 (σ : St) (v : V4_0) (h : u4_0 σ = some (v, true)) : σ = s4_0 v := by
  unfold u4_0 at h
  split at h
  · obtain ⟨hr, hk⟩ := Prod.mk.inj (Option.some.inj h)
    rw [← hr]
    rfl
  · simp at h
theorem lt4_0 : TellsP (lqP true false 0 [1, 5, 6, 7, 8, 9, 10, 12, 133, 134] (evp Q19 [(49, [.imm 1, .imm 5]), (60, [.imm 1, .imm 5]), (84, [.imm 1, .imm 5]), (85, [.imm 1, .imm 5]), (90, [.imm 1, .imm 5]), (92, [.imm 1, .imm 5]), (97, [.imm 1, .imm 5]), (102, [.imm 5]), (105, [.imm 5]), (111, [.imm 5]), (113, [.imm 5]), (117, [.imm 5]), (123, [.imm 5]), (126, [.imm 5]), (132, [.imm 1]), (138, [.imm 1]), (140, [.int .i64]), (141, [.int .i64]), (143, [.imm 1]), (145, [.int .i64]), (146, [.int .i64]), (184, [.imm 1, .imm 5]), (209, [.imm 1, .imm 5]), (215, [.imm 1, .imm 5])] [] true [] 0 2097152 F4b0) u4_0 s4_0 N4_0 2097152) (evc R 0 2097152 (.loop [1, 5, 6, 7, 8, 9, 10, 12, 133, 134] F4b0)) := lqP_tells (evp_tells Q19_ok (loops_of (l := []) (by kernel_rfl) trivial)) hu4_0 hN4_0
noncomputable def lq4_0 : Lp := (135, lqP true false 0 [1, 5, 6, 7, 8, 9, 10, 12, 133, 134] (evp Q19 [(49, [.imm 1, .imm 5]), (60, [.imm 1, .imm 5]), (84, [.imm 1, .imm 5]), (85, [.imm 1, .imm 5]), (90, [.imm 1, .imm 5]), (92, [.imm 1, .imm 5]), (97, [.imm 1, .imm 5]), (102, [.imm 5]), (105, [.imm 5]), (111, [.imm 5]), (113, [.imm 5]), (117, [.imm 5]), (123, [.imm 5]), (126, [.imm 5]), (132, [.imm 1]), (138, [.imm 1]), (140, [.int .i64]), (141, [.int .i64]), (143, [.imm 1]), (145, [.int .i64]), (146, [.int .i64]), (184, [.imm 1, .imm 5]), (209, [.imm 1, .imm 5]), (215, [.imm 1, .imm 5])] [] true [] 0 2097152 F4b0) u4_0 s4_0 N4_0 2097152) :: []
noncomputable def w4_0 (v : V4_0) : V4_0 := (hid (loopV N4_0 2097152 v)).getD v
noncomputable def i4_0 (v : V4_0) : Bool := (hid (loopV N4_0 2097152 v)).isSome
noncomputable def y4_0 (x0 : List Row) : GBus × Int × Int × Bool := (g23 (g22 x0).1 (g22 x0).2.1 (g22 x0).2.2.1 (g22 x0).2.2.2.1 (g22 x0).2.2.2.2)
noncomputable def y4_1 (x0 : List Row) : GBus × Int × Int × Bool := (g24v1 (g22 x0).1 (g22 x0).2.1 (g22 x0).2.2.1 (g22 x0).2.2.2.1 (g22 x0).2.2.2.2)
noncomputable def y4_2 (x0 : List Row) : Bool := (bif (bif (!(eqB (y4_0 x0).2.2.2 (y4_1 x0).2.2.2)) then true else (neI (y4_0 x0).2.1 (y4_1 x0).2.1)) then true else (neI (y4_0 x0).2.2.1 (y4_1 x0).2.2.1))
noncomputable def y4_3 (x0 : List Row) : Bool := (bif (y4_2 x0) then true else (!(g19 (y4_0 x0).1 (y4_1 x0).1)))
noncomputable def y4_4 (x0 : List Row) : List Row := (List.take (Int.toNat (lenI (g22 x0).1.Log)) (y4_0 x0).1.Log)
noncomputable def y4_5 (x0 : List Row) : Bool := (bif (!(g21 (y4_0 x0).1)) then true else (ltI (lenI (y4_0 x0).1.Log) (lenI (g22 x0).1.Log)))
noncomputable def y4_6 (x0 : List Row) (x1 : List Row) : V4_0 := (w4_0 (V4_0.mk (g22 x0).1 (y4_0 x0).1 x1 (g22 x0).2.1 (g22 x0).2.2.1 (g22 x0).2.2.2.1 (g22 x0).2.2.2.2 (y4_0 x0).2.2.1 (lenI (g22 x0).1.Bytes) 0))
noncomputable def y4_7 (x0 : List Row) (x1 : List Row) : GBus × Int × Int × Bool := (g23 (y4_6 x0 x1).b1 1 (y4_6 x0 x1).s7 (y4_6 x0 x1).s8 0)
noncomputable def y4_8 (x0 : List Row) (x1 : List Row) : Bool := ((k27 (g26 (y4_6 x0 x1).s1).1 (g26 (y4_6 x0 x1).s1).2) && true)
noncomputable def y4_9 (x0 : List Row) (x1 : List Row) : Bool := ((k28 (g26 (y4_6 x0 x1).s1).1 (g26 (y4_6 x0 x1).s1).2) && true)
noncomputable def y4_10 (x0 : List Row) (x1 : List Row) : Int × Bool := (g27 (g26 (y4_6 x0 x1).s1).1 (g26 (y4_6 x0 x1).s1).2)
noncomputable def y4_11 (x0 : List Row) (x1 : List Row) : Int × Bool := (g28 (g26 (y4_6 x0 x1).s1).1 (g26 (y4_6 x0 x1).s1).2)
noncomputable def y4_12 (x0 : List Row) (x1 : List Row) : Int × Bool := (g30 (g29 (y4_6 x0 x1).s1))
noncomputable def y4_13 (x0 : List Row) (x1 : List Row) : Int × Bool := (g31 (g29 (y4_6 x0 x1).s1))
noncomputable def y4_14 (x0 : List Row) (x1 : List Row) : Bool := (bif (bif (bif (eqB (y4_10 x0 x1).2 (y4_11 x0 x1).2) then (eqI (y4_10 x0 x1).1 (y4_11 x0 x1).1) else false) then (eqB (y4_12 x0 x1).2 (y4_13 x0 x1).2) else false) then (eqI (y4_12 x0 x1).1 (y4_13 x0 x1).1) else false)
noncomputable def y4_15 (x1 : List Row) : Int × Bool := (g27 (g26 x1).1 (g26 x1).2)
noncomputable def y4_16 (x1 : List Row) : Int × Bool := (g28 (g26 x1).1 (g26 x1).2)
noncomputable def T4 (x0 : List Row) (x1 : List Row) : Pt (Bool) := (.ok true (.ok true (.br (gtI (addI (lenI x0) (lenI x1)) 1048576) (.ok true (.ok true (.leaf true))) (.ok ((k22 x0) && true) (.ok ((k23 (g22 x0).1 (g22 x0).2.1 (g22 x0).2.2.1 (g22 x0).2.2.2.1 (g22 x0).2.2.2.2) && true) (.ok ((k24v1 (g22 x0).1 (g22 x0).2.1 (g22 x0).2.2.1 (g22 x0).2.2.2.1 (g22 x0).2.2.2.2) && true) (.ok ((((k19 (y4_0 x0).1 (y4_1 x0).1) && true) || (y4_2 x0)) && ((((k21 (g22 x0).1) && ((k25v1 (g22 x0).1) && true)) || (y4_3 x0)) && true)) (.br (bif (y4_3 x0) then true else (!(eqB (g21 (g22 x0).1) (g25v1 (g22 x0).1)))) (.ok true (.ok true (.leaf false))) (.ok true (.br (y4_0 x0).2.2.2 (.ok ((k21 (y4_0 x0).1) && (((((leI 0 (lenI (g22 x0).1.Log)) && (leI (lenI (g22 x0).1.Log) (lenI (y4_0 x0).1.Log))) && ((k12 (y4_4 x0) (g22 x0).1.Log) && true)) || (y4_5 x0)) && true)) (.br (bif (bif (y4_5 x0) then true else (!(g12 (y4_4 x0) (g22 x0).1.Log))) then true else (gtI (lenI (y4_0 x0).1.Log) (addI (lenI (g22 x0).1.Log) 1))) (.ok true (.ok true (.leaf false))) (.ok true (.ok true (.ok true (.ok (i4_0 (V4_0.mk (g22 x0).1 (y4_0 x0).1 x1 (g22 x0).2.1 (g22 x0).2.2.1 (g22 x0).2.2.2.1 (g22 x0).2.2.2.2 (y4_0 x0).2.2.1 (lenI (g22 x0).1.Bytes) 0)) (.br (ltI (y4_6 x0 x1).s134 (y4_6 x0 x1).s133) (.ok true (.leaf false)) (.ok true (.br (bif (eqI (y4_6 x0 x1).s6 2) then (eqI (y4_6 x0 x1).s12 0) else false) (.ok ((k23 (y4_6 x0 x1).b1 1 (y4_6 x0 x1).s7 (y4_6 x0 x1).s8 0) && true) (.ok true (.br (bif (bif (!(y4_7 x0 x1).2.2.2) then true else (neI (y4_7 x0 x1).2.2.1 0)) then true else (neI (y4_7 x0 x1).2.1 (y4_6 x0 x1).s9)) (.ok true (.ok true (.leaf false))) (.ok ((k26 (y4_6 x0 x1).s1) && true) (.ok (y4_8 x0 x1) (.ok (y4_9 x0 x1) (.ok ((k29 (y4_6 x0 x1).s1) && true) (.ok ((k30 (g29 (y4_6 x0 x1).s1)) && true) (.ok ((k31 (g29 (y4_6 x0 x1).s1)) && true) (.ok true (.ok true (.leaf (y4_14 x0 x1))))))))))))) (.ok ((k26 (y4_6 x0 x1).s1) && true) (.ok (y4_8 x0 x1) (.ok (y4_9 x0 x1) (.ok ((k29 (y4_6 x0 x1).s1) && true) (.ok ((k30 (g29 (y4_6 x0 x1).s1)) && true) (.ok ((k31 (g29 (y4_6 x0 x1).s1)) && true) (.ok true (.ok true (.leaf (y4_14 x0 x1))))))))))))))))))) (.ok ((k26 x1) && true) (.ok ((k27 (g26 x1).1 (g26 x1).2) && true) (.ok ((k28 (g26 x1).1 (g26 x1).2) && true) (.ok ((k29 x1) && true) (.ok ((k30 (g29 x1)) && true) (.ok ((k31 (g29 x1)) && true) (.ok true (.ok true (.leaf (bif (bif (bif (eqB (y4_15 x1).2 (y4_16 x1).2) then (eqI (y4_15 x1).1 (y4_16 x1).1) else false) then (eqB (g30 (g29 x1)).2 (g31 (g29 x1)).2) else false) then (eqI (g30 (g29 x1)).1 (g31 (g29 x1)).1) else false))))))))))))))))))))
noncomputable def g4 (x0 : List Row) (x1 : List Row) : Bool := hid (T4 x0 x1).val
noncomputable def k4 (x0 : List Row) (x1 : List Row) : Bool := hid (T4 x0 x1).okv
noncomputable def n4 (x0 : List Row) (x1 : List Row) (r : Bool) : SV × List Blk := ((.one (.lit (.bool r))), [])
theorem e4 (x0 : List Row) (x1 : List Row) : fnP Q31 [(49, [.imm 1, .imm 5]), (60, [.imm 1, .imm 5]), (84, [.imm 1, .imm 5]), (85, [.imm 1, .imm 5]), (90, [.imm 1, .imm 5]), (92, [.imm 1, .imm 5]), (97, [.imm 1, .imm 5]), (102, [.imm 5]), (105, [.imm 5]), (111, [.imm 5]), (113, [.imm 5]), (117, [.imm 5]), (123, [.imm 5]), (126, [.imm 5]), (132, [.imm 1]), (138, [.imm 1]), (140, [.int .i64]), (141, [.int .i64]), (143, [.imm 1]), (145, [.int .i64]), (146, [.int .i64]), (184, [.imm 1, .imm 5]), (209, [.imm 1, .imm 5]), (215, [.imm 1, .imm 5])] [] true lq4_0 2097152 F4 [(.one (.imm true 1 x0)), (.one (.imm true 1 x1))] [] = some ((T4 x0 x1).map (n4 x0 x1)) := by kernel_rfl
noncomputable def q4 : List SV → List Blk → Option ((SV × List Blk) × Bool)
  | [(.one (.imm true 1 c0)), (.one (.imm true 1 c1))], [] => some (n4 c0 c1 (g4 c0 c1), k4 c0 c1)
  | _, _ => none
theorem hL4 : Loops (fun live x => TellsP (lpAt lq4_0 (tagC x)) (evc R 0 2097152 (.loop live x))) F4.body := (loops_of (l := [([1, 5, 6, 7, 8, 9, 10, 12, 133, 134], F4b0)]) (by kernel_rfl) ⟨fun σ σr t h ho hl => lt4_0 σ σr t h ho hl, trivial⟩)
theorem t4 (args : List SV) (hp : List Blk) (r : SV × List Blk) (h : q4 args hp = some (r, true)) : frzR R 4 args hp = some r := by
  unfold q4 at h
  split at h
  · rename_i c0 c1
    obtain ⟨hr, hk⟩ := Prod.mk.inj (Option.some.inj h)
    exact (frz_lo (by decide)).trans (R_fn at4 2097152 (fnP_c Q31_ok hL4 (e4 c0 c1) hr hk))
  · simp at h
noncomputable def Q4 : Qt := qcons 4 q4 Q31
theorem Q4_ok : QOk (frzR R) Q4 := qcons_ok t4 Q31_ok
end Go.Proofs.YtihfaondfmeglaaBus
