import Derived.Test.YtdipcnijfkdnfaaGreatZqTabStack
import Derived.Test.YtdipcnijfkdnfaaGreatZmc
import Derived.KernelRfl
import Derived.Test.YtdipcnijfkdnfaaGreatZqStackR
import Derived.Test.YtdipcnijfkdnfaaGreatZqStackQa
set_option linter.unusedVariables false
set_option linter.unusedSimpArgs false
namespace Go.Proofs.YtdipcnijfkdnfaaGreatStack
open Option.some renaming inj → qi
open Prod.mk renaming inj → qp
open Go Go.Zq
open List renaming length → ln
set_option maxRecDepth 100000
noncomputable section
def T11 (a : GCpu) (b : GCpu) : Pt (Bool) := (.ok true (.ok ((k13 a.R b.R) && ((((k82 a.Bus b.Bus) && true) || (!(g13 a.R b.R))) && true)) (.ok true (.ok true (.leaf (bif (bif (bif (g13 a.R b.R) then (g82 a.Bus b.Bus) else false) then (eqB a.Stop b.Stop) else false) then (eqB a.Halt b.Halt) else false))))))
def g11 (a : GCpu) (b : GCpu) : Bool := hid (T11 a b).val
def k11 (a : GCpu) (b : GCpu) : Bool := hid (T11 a b).okv
def n11 (a : GCpu) (b : GCpu) (r : Bool) : SV × List Blk := ((.one (.lit (.bool r))), [])
def q11 := DS37 (fun a b => n11 a b (g11 a b)) k11
theorem t11 : Con 100011 q11 := DS37_t fun a b hk => tz at11 Q82_ok [(6, K6), (8, K6), (12, K7), (14, K7), (19, K11), (21, K11), (26, K11), (28, K11)] [] true (T11 a b) (n11 a b) hk
def Q11 := qcons 100011 q11 Q82
theorem Q11_ok : QO Q11 := qcons_ok t11 Q82_ok
def AS38 (a : GCpu) : List SV := [(.one (.ptr 0 0 0))]
def HS38 (a : GCpu) : List Blk := [.box [.sl 1 0 (ln a.R.D), .sl 2 0 (ln a.R.A), li a.R.Other, li a.R.PC, li a.R.Flags, li a.R.Mask, .lit (.bool a.R.Super), .lit (.bool a.R.Trace), .sl 3 0 (ln a.Bus.Bytes), .sl 4 0 (ln a.Bus.Log), .lit (.bool a.Stop), .lit (.bool a.Halt)], .lst 1 a.R.D, .lst 1 a.R.A, .lst 1 a.Bus.Bytes, .lst 5 a.Bus.Log]
def DS38 (N : GCpu → SV × List Blk) (K : GCpu → Bool) : List SV → List Blk → Option ((SV × List Blk) × Bool)
 | [(.one (.ptr 0 0 0))], [.box [.sl 1 0 l1, .sl 2 0 l2, li c0, li c1, li c2, li c3, .lit (.bool c4), .lit (.bool c5), .sl 3 0 l3, .sl 4 0 l4, .lit (.bool c6), .lit (.bool c7)], .lst 1 c_1, .lst 1 c_2, .lst 1 c_3, .lst 5 c_4] => some (N (GCpu.mk (GRegs.mk c_1 c_2 c0 c1 c2 c3 c4 c5) (GBus.mk c_3 c_4) c6 c7), eqN l1 (ln c_1) && (eqN l2 (ln c_2) && (eqN l3 (ln c_3) && (eqN l4 (ln c_4) && (K (GCpu.mk (GRegs.mk c_1 c_2 c0 c1 c2 c3 c4 c5) (GBus.mk c_3 c_4) c6 c7))))))
 | _, _ => none
theorem DS38_t {N : GCpu → SV × List Blk} {K : GCpu → Bool} {f : Nat} (h : ∀ (a : GCpu), K a = true → frzR R f (AS38 a) (HS38 a) = some (N a)) : Con f (DS38 N K) := fun args hp r e => by
 unfold DS38 at e
 split at e
 ·rename_i l1 l2 c0 c1 c2 c3 c4 c5 l3 l4 c6 c7 c_1 c_2 c_3 c_4
  obtain ⟨hr, hk⟩ := qp (qi e)
  obtain ⟨d0, hk0⟩ := and_t hk
  obtain ⟨d1, hk1⟩ := and_t hk0
  obtain ⟨d2, hk2⟩ := and_t hk1
  obtain ⟨d3, hk3⟩ := and_t hk2
  obtain rfl := of_decide_eq_true d0
  obtain rfl := of_decide_eq_true d1
  obtain rfl := of_decide_eq_true d2
  obtain rfl := of_decide_eq_true d3
  rw [← hr]
  exact h (GCpu.mk (GRegs.mk c_1 c_2 c0 c1 c2 c3 c4 c5) (GBus.mk c_3 c_4) c6 c7) hk3
 ·simp at e
section
variable (a : GCpu)
def y83_0 : Bool := (eqN (ln a.Bus.Bytes) (ln a.Bus.Bytes))
def y83_1 : Bool := (eqN (ln a.Bus.Log) (ln a.Bus.Log))
def y83_2 : GBus × Int × Int := (g153 1 2 (intAt a.R.A 3 0) 0 a.Bus)
def y83_3 : Bool := (eqN (ln a.R.D) (ln a.R.D))
def y83_4 : Bool := ((eqN (ln (y83_2 a).1.Bytes) (ln (y83_2 a).1.Bytes)) && ((eqN (ln (y83_2 a).1.Log) (ln (y83_2 a).1.Log)) && true))
def y83_5 : Bool := ((y83_3 a) && ((eqN (ln a.R.A) (ln a.R.A)) && (y83_4 a)))
def y83_6 : List Row := (List.set a.R.A 3 (rowI (andI (addI (intAt a.R.A 3 0) 2) 65535)))
def y83_7 : Bool := ((y83_3 a) && ((eqN (ln a.R.A) (ln (y83_6 a))) && (y83_4 a)))
end
def T83 (a : GCpu) : Pt (GCpu × Int × Int × Int) := (.ok true (.ok ((ltI 3 (lenI a.R.A)) && ((hasRow [.int .i64] a.R.A 3 0) && true)) (.ok ((((((y83_0 a) && ((y83_1 a) && true)) && ((y83_0 a) && ((y83_1 a) && true))) && true) && ((y83_0 a) && ((y83_1 a) && (k153 1 2 (intAt a.R.A 3 0) 0 a.Bus)))) && true) (.ok true (.br (eqI (y83_2 a).2.2 0) (.ok ((ltI 3 (lenI a.R.A)) && (((blt 3 (ln a.R.A)) && (beqN (rlen a.R.A 3) 1)) && true)) (.ok true (.ok ((((y83_5 a) && (y83_7 a)) && true) && ((y83_7 a) && true)) (.leaf ({ a with R := { a.R with A := (y83_6 a) }, Bus := (y83_2 a).1 }, (y83_2 a).2.1, (intAt a.R.A 3 0), (y83_2 a).2.2))))) (.ok true (.ok ((((y83_5 a) && (y83_5 a)) && true) && ((y83_5 a) && true)) (.leaf ({ a with Bus := (y83_2 a).1 }, (y83_2 a).2.1, (intAt a.R.A 3 0), (y83_2 a).2.2)))))))))
def g83 (a : GCpu) : GCpu × Int × Int × Int := hid (T83 a).val
def k83 (a : GCpu) : Bool := hid (T83 a).okv
def n83 (a : GCpu) (r : GCpu × Int × Int × Int) : SV × List Blk := ((.tup [(.one (li r.2.1)), (.one (li r.2.2.1)), (.one (li r.2.2.2))]), [.box [.sl 1 0 (ln r.1.R.D), .sl 2 0 (ln r.1.R.A), li r.1.R.Other, li r.1.R.PC, li r.1.R.Flags, li r.1.R.Mask, .lit (.bool r.1.R.Super), .lit (.bool r.1.R.Trace), .sl 3 0 (ln r.1.Bus.Bytes), .sl 4 0 (ln r.1.Bus.Log), .lit (.bool r.1.Stop), .lit (.bool r.1.Halt)], .lst 1 r.1.R.D, .lst 1 r.1.R.A, .lst 1 r.1.Bus.Bytes, .lst 5 r.1.Bus.Log])
def q83 := DS38 (fun a => n83 a (g83 a)) k83
theorem t83 : Con 83 q83 := DS38_t fun a hk => tc at83 Q11_ok [(12, K1), (13, K0), (14, K0), (29, K1), (33, K0), (1000001, [])] [] true (T83 a) (n83 a) hk
def Q83 := qcons 83 q83 Q11
theorem Q83_ok : QO Q83 := qcons_ok t83 Q11_ok
section
variable (a : GCpu)
def y12_0 : Bool := (eqN (ln (g74 a).R.D) (ln (g74 a).R.D))
def y12_1 : Bool := (eqN (ln (g74 a).R.A) (ln (g74 a).R.A))
def y12_2 : Bool := (eqN (ln (g74 a).Bus.Bytes) (ln (g74 a).Bus.Bytes))
def y12_3 : Bool := (eqN (ln (g74 a).Bus.Log) (ln (g74 a).Bus.Log))
def y12_4 : Bool := ((y12_0 a) && ((y12_1 a) && ((y12_2 a) && ((y12_3 a) && true))))
def y12_5 : Bool := ((eqN (ln (g83 (g74 a)).1.R.D) (ln (g83 (g74 a)).1.R.D)) && ((eqN (ln (g83 (g74 a)).1.R.A) (ln (g83 (g74 a)).1.R.A)) && ((eqN (ln (g83 (g74 a)).1.Bus.Bytes) (ln (g83 (g74 a)).1.Bus.Bytes)) && ((eqN (ln (g83 (g74 a)).1.Bus.Log) (ln (g83 (g74 a)).1.Bus.Log)) && true))))
end
def T12 (a : GCpu) : Pt (GCpu × Int × Bool × Bool) := (.ok true (.ok ((k30 a) && true) (.br (!(g30 a)) (.ok true (.ok true (.ok true (.leaf ((GCpu.mk (GRegs.mk [] [] 0 0 0 0 false false) (GBus.mk [] []) false false), 0, false, false))))) (.ok ((k74 a) && true) (.ok (((((y12_4 a) && (y12_4 a)) && true) && ((y12_0 a) && ((y12_1 a) && ((y12_2 a) && ((y12_3 a) && (k83 (g74 a))))))) && true) (.ok true (.ok ((y12_5 a) && ((y12_5 a) && true)) (.ok ((y12_5 a) && true) (.leaf ((g83 (g74 a)).1, (g83 (g74 a)).2.1, (eqI (g83 (g74 a)).2.2.2 0), true))))))))))
def g12 (a : GCpu) : GCpu × Int × Bool × Bool := hid (T12 a).val
def k12 (a : GCpu) : Bool := hid (T12 a).okv
def n12 (a : GCpu) (r : GCpu × Int × Bool × Bool) : SV × List Blk := ((.tup [(.agg [.imm true 1 r.1.R.D, .imm true 1 r.1.R.A, li r.1.R.Other, li r.1.R.PC, li r.1.R.Flags, li r.1.R.Mask, .lit (.bool r.1.R.Super), .lit (.bool r.1.R.Trace), .imm true 1 r.1.Bus.Bytes, .imm true 5 r.1.Bus.Log, .lit (.bool r.1.Stop), .lit (.bool r.1.Halt)]), (.one (li r.2.1)), (.one (.lit (.bool r.2.2.1))), (.one (.lit (.bool r.2.2.2)))]), [])
def q12 := DS21 (fun a => n12 a (g12 a)) k12
theorem t12 : Con 100012 q12 := DS21_t fun a hk => tz at12 Q83_ok [(10, K8), (14, K8), (21, K8)] [] true (T12 a) (n12 a) hk
def Q12 := qcons 100012 q12 Q83
theorem Q12_ok : QO Q12 := qcons_ok t12 Q83_ok
section
variable (a : List Row)
def y84_0 : Nat := (ln (g71 (Gl1Cur.mk a 0 0)).2.R.D)
def y84_1 : Nat := (ln (g71 (Gl1Cur.mk a 0 0)).2.R.A)
def y84_2 : Nat := (ln (g71 (Gl1Cur.mk a 0 0)).2.Bus.Bytes)
def y84_3 : Nat := (ln (g71 (Gl1Cur.mk a 0 0)).2.Bus.Log)
def y84_4 : Bool := ((eqN (y84_0 a) (y84_0 a)) && ((eqN (y84_1 a) (y84_1 a)) && ((eqN (y84_2 a) (y84_2 a)) && ((eqN (y84_3 a) (y84_3 a)) && true))))
end
def T84 (a : List Row) : Pt (GCpu) := (.ok true (.ok true (.ok ((k71 (Gl1Cur.mk a 0 0)) && true) (.ok ((y84_4 a) && ((y84_4 a) && true)) (.leaf (g71 (Gl1Cur.mk a 0 0)).2)))))
def g84 (a : List Row) : GCpu := hid (T84 a).val
def k84 (a : List Row) : Bool := hid (T84 a).okv
def n84 (a : List Row) (r : GCpu) : SV × List Blk := ((.agg [.sl 0 0 (ln r.R.D), .sl 1 0 (ln r.R.A), li r.R.Other, li r.R.PC, li r.R.Flags, li r.R.Mask, .lit (.bool r.R.Super), .lit (.bool r.R.Trace), .sl 2 0 (ln r.Bus.Bytes), .sl 3 0 (ln r.Bus.Log), .lit (.bool r.Stop), .lit (.bool r.Halt)]), [.lst 1 r.R.D, .lst 1 r.R.A, .lst 1 r.Bus.Bytes, .lst 5 r.Bus.Log])
def q84 := DS13 (fun a => n84 a (g84 a)) k84
theorem t84 : Con 84 q84 := DS13_t fun a hk => tc at84 Q12_ok [] [] true (T84 a) (n84 a) hk
def Q84 := qcons 84 q84 Q12
theorem Q84_ok : QO Q84 := qcons_ok t84 Q12_ok
section
variable (a : List Row)
def y15_0 : Bool := ((eqN (ln (g84 a).R.D) (ln (g84 a).R.D)) && ((eqN (ln (g84 a).R.A) (ln (g84 a).R.A)) && ((eqN (ln (g84 a).Bus.Bytes) (ln (g84 a).Bus.Bytes)) && ((eqN (ln (g84 a).Bus.Log) (ln (g84 a).Bus.Log)) && true))))
end
def T15 (a : List Row) : Pt (GCpu) := (.ok true (.ok ((k84 a) && true) (.ok ((y15_0 a) && ((y15_0 a) && true)) (.ok (y15_0 a) (.leaf (g84 a))))))
def g15 (a : List Row) : GCpu := hid (T15 a).val
def k15 (a : List Row) : Bool := hid (T15 a).okv
def n15 (a : List Row) (r : GCpu) : SV × List Blk := ((.agg [.imm true 1 r.R.D, .imm true 1 r.R.A, li r.R.Other, li r.R.PC, li r.R.Flags, li r.R.Mask, .lit (.bool r.R.Super), .lit (.bool r.R.Trace), .imm true 1 r.Bus.Bytes, .imm true 5 r.Bus.Log, .lit (.bool r.Stop), .lit (.bool r.Halt)]), [])
def q15 := DS13 (fun a => n15 a (g15 a)) k15
theorem t15 : Con 100015 q15 := DS13_t fun a hk => tz at15 Q84_ok [] [] true (T15 a) (n15 a) hk
def Q15 := qcons 100015 q15 Q84
theorem Q15_ok : QO Q15 := qcons_ok t15 Q84_ok
section
variable (a : Gl10M)
def y85_0 : Bool := (eqN (ln a.fr.D) (ln a.fr.D))
def y85_1 : Bool := (eqN (ln a.fr.A) (ln a.fr.A))
def y85_2 : Bool := (eqN (ln a.fbus.Bytes) (ln a.fbus.Bytes))
def y85_3 : Bool := (eqN (ln a.fbus.Log) (ln a.fbus.Log))
def y85_4 : Bool := ((y85_0 a) && ((y85_1 a) && ((y85_2 a) && ((y85_3 a) && true))))
def y85_5 : Gl10M × Int := (g156 1 2 (intAt a.fr.A 3 0) 0 a)
def y85_6 : Bool := (eqN (ln (y85_5 a).1.fr.D) (ln (y85_5 a).1.fr.D))
def y85_7 : Bool := (eqN (ln (y85_5 a).1.fr.A) (ln (y85_5 a).1.fr.A))
def y85_8 : Bool := (eqN (ln (y85_5 a).1.fbus.Bytes) (ln (y85_5 a).1.fbus.Bytes))
def y85_9 : Bool := (eqN (ln (y85_5 a).1.fbus.Log) (ln (y85_5 a).1.fbus.Log))
def y85_10 : Bool := ((y85_6 a) && ((y85_7 a) && ((y85_8 a) && ((y85_9 a) && true))))
def y85_11 : List Row := (List.set (y85_5 a).1.fr.A 3 (rowI (andI (addI (intAt (y85_5 a).1.fr.A 3 0) 2) 65535)))
def y85_12 : Bool := ((y85_6 a) && ((eqN (ln (y85_5 a).1.fr.A) (ln (y85_11 a))) && ((y85_8 a) && ((y85_9 a) && true))))
end
def T85 (a : Gl10M) : Pt (Gl10M × Int) := (.ok true (.ok ((ltI 3 (lenI a.fr.A)) && ((hasRow [.int .i64] a.fr.A 3 0) && (((((y85_4 a) && (y85_4 a)) && true) && ((y85_0 a) && ((y85_1 a) && ((y85_2 a) && ((y85_3 a) && (k156 1 2 (intAt a.fr.A 3 0) 0 a)))))) && true))) (.ok (((((y85_10 a) && (y85_10 a)) && true) && ((y85_6 a) && ((y85_7 a) && ((y85_8 a) && ((y85_9 a) && (k81 (y85_5 a).1)))))) && true) (.br (g81 (y85_5 a).1) (.ok (((ltI 3 (lenI (y85_5 a).1.fr.A)) && ((hasRow [.int .i64] (y85_5 a).1.fr.A 3 0) && ((ltI 3 (lenI (y85_5 a).1.fr.A)) && (((blt 3 (ln (y85_5 a).1.fr.A)) && (beqN (rlen (y85_5 a).1.fr.A 3) 1)) && true)))) && true) (.ok true (.ok ((((y85_10 a) && (y85_12 a)) && true) && ((y85_12 a) && true)) (.leaf ({ (y85_5 a).1 with fr := { (y85_5 a).1.fr with A := (y85_11 a) } }, (y85_5 a).2))))) (.ok true (.ok ((((y85_10 a) && (y85_10 a)) && true) && ((y85_10 a) && true)) (.leaf ((y85_5 a).1, (y85_5 a).2))))))))
def g85 (a : Gl10M) : Gl10M × Int := hid (T85 a).val
def k85 (a : Gl10M) : Bool := hid (T85 a).okv
def n85 (a : Gl10M) (r : Gl10M × Int) : SV × List Blk := ((.one (li r.2)), [.box [.sl 1 0 (ln r.1.fr.D), .sl 2 0 (ln r.1.fr.A), li r.1.fr.Other, li r.1.fr.PC, li r.1.fr.Flags, li r.1.fr.Mask, .lit (.bool r.1.fr.Super), .lit (.bool r.1.fr.Trace), .sl 3 0 (ln r.1.fbus.Bytes), .sl 4 0 (ln r.1.fbus.Log), .lit (.bool r.1.fstop), li r.1.ffault.Vector, li r.1.ffault.PC, li r.1.ffault.Addr, li r.1.ffault.Word, .lit (.bool r.1.ffault.Write)], .lst 1 r.1.fr.D, .lst 1 r.1.fr.A, .lst 1 r.1.fbus.Bytes, .lst 5 r.1.fbus.Log])
def q85 := DS31 (fun a => n85 a (g85 a)) k85
theorem t85 : Con 85 q85 := DS31_t fun a hk => tc at85 Q15_ok [(9, K1), (10, K0), (11, K0), (19, K1), (24, K1), (25, K0), (26, K0), (29, K0), (1000001, [])] [] true (T85 a) (n85 a) hk
def Q85 := qcons 85 q85 Q15
theorem Q85_ok : QO Q85 := qcons_ok t85 Q15_ok
section
variable (a : GCpu)
def y16_0 : Bool := (eqN (ln (g78 a).fr.D) (ln (g78 a).fr.D))
def y16_1 : Bool := (eqN (ln (g78 a).fr.A) (ln (g78 a).fr.A))
def y16_2 : Bool := (eqN (ln (g78 a).fbus.Bytes) (ln (g78 a).fbus.Bytes))
def y16_3 : Bool := (eqN (ln (g78 a).fbus.Log) (ln (g78 a).fbus.Log))
def y16_4 : Bool := ((y16_0 a) && ((y16_1 a) && ((y16_2 a) && ((y16_3 a) && true))))
def y16_5 : Bool := (eqN (ln (g85 (g78 a)).1.fr.D) (ln (g85 (g78 a)).1.fr.D))
def y16_6 : Bool := (eqN (ln (g85 (g78 a)).1.fr.A) (ln (g85 (g78 a)).1.fr.A))
def y16_7 : Nat := (ln (g85 (g78 a)).1.fbus.Bytes)
def y16_8 : Bool := (eqN (ln (g85 (g78 a)).1.fbus.Log) (ln (g85 (g78 a)).1.fbus.Log))
def y16_9 : Bool := ((y16_5 a) && ((y16_6 a) && ((eqN (y16_7 a) (y16_7 a)) && ((y16_8 a) && true))))
def y16_10 : Bool := ((((((y16_9 a) && (y16_9 a)) && true) && ((y16_5 a) && ((y16_6 a) && ((eqN (y16_7 a) (y16_7 a)) && ((y16_8 a) && (k81 (g85 (g78 a)).1)))))) && true) && true)
def y16_11 : Bool := ((same (α := Bool) a.Halt a.Halt) && true)
def y16_12 : Bool := ((same (α := Int) a.R.PC a.R.PC) && ((same (α := Int) a.R.Flags a.R.Flags) && ((same (α := Int) a.R.Mask a.R.Mask) && ((same (α := Bool) a.R.Super a.R.Super) && ((same (α := Bool) a.R.Trace a.R.Trace) && (((same (α := Bool) true true) && (sameR a.Bus.Bytes a.Bus.Bytes)) && (((same (α := Bool) true true) && (sameR a.Bus.Log a.Bus.Log)) && ((same (α := Bool) a.Stop a.Stop) && (y16_11 a)))))))))
def y16_13 : Nat := (ln (g80 (g85 (g78 a)).1).Bus.Bytes)
def y16_14 : Nat := (ln (g80 (g85 (g78 a)).1).Bus.Log)
def y16_15 : Bool := ((same (α := Int) (g80 (g85 (g78 a)).1).R.Mask (g80 (g85 (g78 a)).1).R.Mask) && ((same (α := Bool) (g80 (g85 (g78 a)).1).R.Super (g80 (g85 (g78 a)).1).R.Super) && ((same (α := Bool) (g80 (g85 (g78 a)).1).R.Trace (g80 (g85 (g78 a)).1).R.Trace) && ((same (α := Nat) (y16_13 a) (y16_13 a)) && ((same (α := Nat) (y16_14 a) (y16_14 a)) && ((same (α := Bool) (g80 (g85 (g78 a)).1).Stop (g80 (g85 (g78 a)).1).Stop) && (y16_11 a)))))))
def y16_16 : Bool := ((same (α := Nat) (ln (g80 (g85 (g78 a)).1).R.D) (ln (g80 (g85 (g78 a)).1).R.D)) && ((same (α := Nat) (ln (g80 (g85 (g78 a)).1).R.A) (ln (g80 (g85 (g78 a)).1).R.A)) && ((same (α := Int) (g80 (g85 (g78 a)).1).R.Other (g80 (g85 (g78 a)).1).R.Other) && ((same (α := Int) (g80 (g85 (g78 a)).1).R.PC (g80 (g85 (g78 a)).1).R.PC) && ((same (α := Int) (g80 (g85 (g78 a)).1).R.Flags (g80 (g85 (g78 a)).1).R.Flags) && (y16_15 a))))))
def y16_17 : Bool := ((same (α := Int) (g85 (g78 a)).1.ffault.Vector (g85 (g78 a)).1.ffault.Vector) && ((same (α := Int) (g85 (g78 a)).1.ffault.PC (g85 (g78 a)).1.ffault.PC) && ((same (α := Int) (g85 (g78 a)).1.ffault.Addr (g85 (g78 a)).1.ffault.Addr) && ((same (α := Int) (g85 (g78 a)).1.ffault.Word (g85 (g78 a)).1.ffault.Word) && ((same (α := Bool) (g85 (g78 a)).1.ffault.Write (g85 (g78 a)).1.ffault.Write) && true)))))
def y16_18 : Bool := ((same (α := Int) (g85 (g78 a)).1.fr.Mask (g85 (g78 a)).1.fr.Mask) && ((same (α := Bool) (g85 (g78 a)).1.fr.Super (g85 (g78 a)).1.fr.Super) && ((same (α := Bool) (g85 (g78 a)).1.fr.Trace (g85 (g78 a)).1.fr.Trace) && ((same (α := Nat) (y16_7 a) (y16_7 a)) && ((same (α := Nat) (ln (g85 (g78 a)).1.fbus.Log) (ln (g85 (g78 a)).1.fbus.Log)) && ((same (α := Bool) (g85 (g78 a)).1.fstop (g85 (g78 a)).1.fstop) && (y16_17 a)))))))
def y16_19 : Bool := ((same (α := Nat) (ln (g85 (g78 a)).1.fr.D) (ln (g85 (g78 a)).1.fr.D)) && ((same (α := Nat) (ln (g85 (g78 a)).1.fr.A) (ln (g85 (g78 a)).1.fr.A)) && ((same (α := Int) (g85 (g78 a)).1.fr.Other (g85 (g78 a)).1.fr.Other) && ((same (α := Int) (g85 (g78 a)).1.fr.PC (g85 (g78 a)).1.fr.PC) && ((same (α := Int) (g85 (g78 a)).1.fr.Flags (g85 (g78 a)).1.fr.Flags) && (y16_18 a))))))
def y16_20 : Bool := ((sameR (g80 (g85 (g78 a)).1).Bus.Bytes (g80 (g85 (g78 a)).1).Bus.Bytes) && ((sameR (g80 (g85 (g78 a)).1).Bus.Log (g80 (g85 (g78 a)).1).Bus.Log) && ((y16_16 a) && ((sameR (g85 (g78 a)).1.fr.D (g85 (g78 a)).1.fr.D) && ((sameR (g85 (g78 a)).1.fr.A (g85 (g78 a)).1.fr.A) && ((sameR (g85 (g78 a)).1.fbus.Bytes (g85 (g78 a)).1.fbus.Bytes) && ((sameR (g85 (g78 a)).1.fbus.Log (g85 (g78 a)).1.fbus.Log) && true)))))))
def y16_21 : Bool := (((same (α := Int) (g85 (g78 a)).2 (g85 (g78 a)).2) && ((same (α := Bool) (g81 (g85 (g78 a)).1) (g81 (g85 (g78 a)).1)) && ((same (α := Bool) true true) && true))) && ((((same (α := Bool) true true) && (sameR a.R.D a.R.D)) && (((same (α := Bool) true true) && (sameR a.R.A a.R.A)) && ((same (α := Int) a.R.Other a.R.Other) && (y16_12 a)))) && ((y16_16 a) && ((y16_19 a) && ((sameR (g80 (g85 (g78 a)).1).R.D (g80 (g85 (g78 a)).1).R.D) && ((sameR (g80 (g85 (g78 a)).1).R.A (g80 (g85 (g78 a)).1).R.A) && (y16_20 a)))))))
def y16_22 : Bool := ((eqN (ln (g80 (g85 (g78 a)).1).R.D) (ln (g80 (g85 (g78 a)).1).R.D)) && ((eqN (ln (g80 (g85 (g78 a)).1).R.A) (ln (g80 (g85 (g78 a)).1).R.A)) && ((eqN (y16_13 a) (y16_13 a)) && ((eqN (y16_14 a) (y16_14 a)) && true))))
end
def T16 (a : GCpu) : Pt (GCpu × Int × Bool × Bool) := (.ok true (.ok ((k76 a) && true) (.br (!(g76 a)) (.ok true (.ok true (.ok true (.leaf ((GCpu.mk (GRegs.mk [] [] 0 0 0 0 false false) (GBus.mk [] []) false false), 0, false, false))))) (.ok ((k78 a) && true) (.ok (((((y16_4 a) && (y16_4 a)) && true) && ((y16_0 a) && ((y16_1 a) && ((y16_2 a) && ((y16_3 a) && (k85 (g78 a))))))) && true) (.ok (((((y16_9 a) && (y16_9 a)) && true) && ((y16_5 a) && ((y16_6 a) && ((eqN (y16_7 a) (y16_7 a)) && ((y16_8 a) && (k80 (g85 (g78 a)).1)))))) && true) (.ok true (.ok ((y16_10 a) && ((y16_10 a) && (y16_21 a))) (.ok ((y16_22 a) && ((y16_22 a) && true)) (.ok ((y16_22 a) && true) (.leaf ({ (g80 (g85 (g78 a)).1) with Halt := a.Halt }, (g85 (g78 a)).2, (g81 (g85 (g78 a)).1), true))))))))))))
def g16 (a : GCpu) : GCpu × Int × Bool × Bool := hid (T16 a).val
def k16 (a : GCpu) : Bool := hid (T16 a).okv
def q16 := DS21 (fun a => n12 a (g16 a)) k16
theorem t16 : Con 100016 q16 := DS21_t fun a hk => tz at16 Q85_ok [(9, K8), (13, K8), (20, K11), (22, K8)] [] true (T16 a) (n12 a) hk
def Q16 := qcons 100016 q16 Q85
theorem Q16_ok : QO Q16 := qcons_ok t16 Q85_ok
def T210 (a : Int) : Pt (Int) := (.ok true (.ok ((k240 (andI (shrI a 5) 7)) && true) (.br (g240 (andI (shrI a 5) 7)) (.ok true (.ok true (.ok true (.leaf 2)))) (.ok true (.ok true (.ok true (.leaf 1)))))))
def g210 (a : Int) : Int := hid (T210 a).val
def k210 (a : Int) : Bool := hid (T210 a).okv
def q210 := DS2 (fun a => n262 a (g210 a)) k210
theorem t210 : Con 100210 q210 := DS2_t fun a hk => tz at210 Q16_ok [] [] true (T210 a) (n262 a) hk
def Q210 := qcons 100210 q210 Q16
theorem Q210_ok : QO Q210 := qcons_ok t210 Q16_ok
def T211 (a : Int) (b : Int) : Pt (GIns) := (.ok true (.ok true (.ok true (.ok ((k210 a) && true) (.br (eqI (g210 a) 2) (.ok true (.ok true (.ok true (.ok true (.leaf (GIns.mk (shrI a 11) (addI (andI (shrI a 10) 1) 1) (andI (shrI a 8) 3) (GOperand.mk (andI (shrI a 5) 7) (andI (shrI a 3) 3) b) (andI a 7))))))) (.ok true (.ok true (.ok true (.leaf (GIns.mk (shrI a 11) (addI (andI (shrI a 10) 1) 1) (andI (shrI a 8) 3) (GOperand.mk (andI (shrI a 5) 7) (andI (shrI a 3) 3) 0) (andI a 7)))))))))))
def g211 (a : Int) (b : Int) : GIns := hid (T211 a b).val
def k211 (a : Int) (b : Int) : Bool := hid (T211 a b).okv
def n211 (a : Int) (b : Int) (r : GIns) : SV × List Blk := ((.agg [li r.Op, li r.Size, li r.Reg, li r.Ea.Mode, li r.Ea.Reg, li r.Ea.Ext, li r.Sub]), [])
def q211 := DS17 (fun a b => n211 a b (g211 a b)) k211
theorem t211 : Con 100211 q211 := DS17_t fun a b hk => tz at211 Q210_ok [(32, K5)] [] true (T211 a b) (n211 a b) hk
def Q211 := qcons 100211 q211 Q210
theorem Q211_ok : QO Q211 := qcons_ok t211 Q210_ok
section
variable (a : Gl10M)
def y158_0 : Bool := (eqN (ln a.fr.D) (ln a.fr.D))
def y158_1 : Bool := (eqN (ln a.fr.A) (ln a.fr.A))
def y158_2 : Bool := (eqN (ln a.fbus.Bytes) (ln a.fbus.Bytes))
def y158_3 : Bool := (eqN (ln a.fbus.Log) (ln a.fbus.Log))
def y158_4 : Bool := ((y158_0 a) && ((y158_1 a) && ((y158_2 a) && ((y158_3 a) && true))))
def y158_5 : Gl10M × Int := (g156 3 2 a.fr.PC 0 { a with ffault := { a.ffault with PC := a.fr.PC } })
def y158_6 : Bool := (eqN (ln (y158_5 a).1.fr.D) (ln (y158_5 a).1.fr.D))
def y158_7 : Bool := (eqN (ln (y158_5 a).1.fr.A) (ln (y158_5 a).1.fr.A))
def y158_8 : Bool := (eqN (ln (y158_5 a).1.fbus.Bytes) (ln (y158_5 a).1.fbus.Bytes))
def y158_9 : Bool := (eqN (ln (y158_5 a).1.fbus.Log) (ln (y158_5 a).1.fbus.Log))
def y158_10 : Bool := ((y158_6 a) && ((y158_7 a) && ((y158_8 a) && ((y158_9 a) && true))))
def y158_11 : Gl10M := { (y158_5 a).1 with ffault := { (y158_5 a).1.ffault with Word := (y158_5 a).2 } }
def y158_12 : Gl10M × Int := (g156 3 2 (andI (addI a.fr.PC 2) 65535) 0 (y158_11 a))
def y158_13 : Bool := (eqN (ln (y158_12 a).1.fr.D) (ln (y158_12 a).1.fr.D))
def y158_14 : Bool := (eqN (ln (y158_12 a).1.fr.A) (ln (y158_12 a).1.fr.A))
def y158_15 : Bool := (eqN (ln (y158_12 a).1.fbus.Bytes) (ln (y158_12 a).1.fbus.Bytes))
def y158_16 : Bool := (eqN (ln (y158_12 a).1.fbus.Log) (ln (y158_12 a).1.fbus.Log))
def y158_17 : Bool := ((y158_13 a) && ((y158_14 a) && ((y158_15 a) && ((y158_16 a) && true))))
def y158_18 : GIns := (g211 (y158_5 a).2 (y158_12 a).2)
end
def T158 (a : Gl10M) : Pt (Gl10M × GIns × Int) := (.ok true (.ok true (.ok true (.ok (((((y158_4 a) && (y158_4 a)) && true) && ((y158_0 a) && ((y158_1 a) && ((y158_2 a) && ((y158_3 a) && (k156 3 2 a.fr.PC 0 { a with ffault := { a.ffault with PC := a.fr.PC } })))))) && true) (.ok (((((y158_10 a) && (y158_10 a)) && true) && ((y158_6 a) && ((y158_7 a) && ((y158_8 a) && ((y158_9 a) && (k81 (y158_5 a).1)))))) && true) (.br (!(g81 (y158_5 a).1)) (.ok true (.ok (((y158_10 a) && (y158_10 a)) && true) (.leaf ((y158_5 a).1, (GIns.mk 0 0 0 (GOperand.mk 0 0 0) 0), 0)))) (.ok true (.ok true (.ok ((k210 (y158_5 a).2) && true) (.ok true (.br (eqI (g210 (y158_5 a).2) 2) (.ok (((((y158_10 a) && (y158_10 a)) && true) && ((y158_6 a) && ((y158_7 a) && ((y158_8 a) && ((y158_9 a) && (k156 3 2 (andI (addI a.fr.PC 2) 65535) 0 (y158_11 a))))))) && true) (.ok (((((y158_17 a) && (y158_17 a)) && true) && ((y158_13 a) && ((y158_14 a) && ((y158_15 a) && ((y158_16 a) && (k81 (y158_12 a).1)))))) && true) (.br (!(g81 (y158_12 a).1)) (.ok true (.ok (((y158_17 a) && (y158_17 a)) && true) (.leaf ((y158_12 a).1, (GIns.mk 0 0 0 (GOperand.mk 0 0 0) 0), 0)))) (.ok ((k211 (y158_5 a).2 (y158_12 a).2) && true) (.ok ((k126 (y158_18 a)) && true) (.br (!(g126 (y158_18 a))) (.ok true (.ok true (.ok (((y158_17 a) && (y158_17 a)) && true) (.leaf ({ (y158_12 a).1 with ffault := { (y158_12 a).1.ffault with Vector := 4 } }, (GIns.mk 0 0 0 (GOperand.mk 0 0 0) 0), 0))))) (.ok true (.ok (((y158_17 a) && (y158_17 a)) && true) (.leaf ((y158_12 a).1, (y158_18 a), (g210 (y158_5 a).2))))))))))) (.ok ((k211 (y158_5 a).2 0) && true) (.ok ((k126 (g211 (y158_5 a).2 0)) && true) (.br (!(g126 (g211 (y158_5 a).2 0))) (.ok true (.ok true (.ok (((y158_10 a) && (y158_10 a)) && true) (.leaf ({ (y158_5 a).1 with ffault := { (y158_5 a).1.ffault with Vector := 4, Word := (y158_5 a).2 } }, (GIns.mk 0 0 0 (GOperand.mk 0 0 0) 0), 0))))) (.ok true (.ok (((y158_10 a) && (y158_10 a)) && true) (.leaf ((y158_11 a), (g211 (y158_5 a).2 0), (g210 (y158_5 a).2)))))))))))))))))))
def g158 (a : Gl10M) : Gl10M × GIns × Int := hid (T158 a).val
def k158 (a : Gl10M) : Bool := hid (T158 a).okv
def n158 (a : Gl10M) (r : Gl10M × GIns × Int) : SV × List Blk := ((.tup [(.agg [li r.2.1.Op, li r.2.1.Size, li r.2.1.Reg, li r.2.1.Ea.Mode, li r.2.1.Ea.Reg, li r.2.1.Ea.Ext, li r.2.1.Sub]), (.one (li r.2.2))]), [.box [.sl 1 0 (ln r.1.fr.D), .sl 2 0 (ln r.1.fr.A), li r.1.fr.Other, li r.1.fr.PC, li r.1.fr.Flags, li r.1.fr.Mask, .lit (.bool r.1.fr.Super), .lit (.bool r.1.fr.Trace), .sl 3 0 (ln r.1.fbus.Bytes), .sl 4 0 (ln r.1.fbus.Log), .lit (.bool r.1.fstop), li r.1.ffault.Vector, li r.1.ffault.PC, li r.1.ffault.Addr, li r.1.ffault.Word, .lit (.bool r.1.ffault.Write)], .lst 1 r.1.fr.D, .lst 1 r.1.fr.A, .lst 1 r.1.fbus.Bytes, .lst 5 r.1.fbus.Log])
def q158 := DS31 (fun a => n158 a (g158 a)) k158
theorem t158 : Con 158 q158 := DS31_t fun a hk => tc at158 Q211_ok [(13, K0), (47, K5), (55, K5)] [] true (T158 a) (n158 a) hk
def Q158 := qcons 158 q158 Q211
theorem Q158_ok : QO Q158 := qcons_ok t158 Q211_ok
def T159 (a : GIns) : Pt (Bool) := (.ok true (.ok true (.ok true (.ok true (.leaf (bif (bif (eqI a.Op 15) then (bif (eqI a.Sub 1) then true else (eqI a.Sub 3)) else false) then true else (bif (eqI a.Op 19) then (eqI a.Sub 0) else false)))))))
def g159 (a : GIns) : Bool := hid (T159 a).val
def k159 (a : GIns) : Bool := hid (T159 a).okv
def q159 := DS7 (fun a => n126 a (g159 a)) k159
theorem t159 : Con 100159 q159 := DS7_t fun a hk => tz at159 Q158_ok [(4, K0), (8, K0), (12, K0), (18, K0), (22, K0)] [] true (T159 a) (n126 a) hk
def Q159 := qcons 100159 q159 Q158
theorem Q159_ok : QO Q159 := qcons_ok t159 Q158_ok
def AS39 (a : GRegs) (b : Int) (c : Int) (p0 : Bool) (p1 : Bool) : List SV := [(.agg [.imm p0 1 a.D, .imm p1 1 a.A, li a.Other, li a.PC, li a.Flags, li a.Mask, .lit (.bool a.Super), .lit (.bool a.Trace)]), (.one (li b)), (.one (li c))]
def HS39 (a : GRegs) (b : Int) (c : Int) (p0 : Bool) (p1 : Bool) : List Blk := []
def DS39 (N : GRegs → Int → Int → SV × List Blk) (K : GRegs → Int → Int → Bool) : List SV → List Blk → Option ((SV × List Blk) × Bool)
 | [(.agg [.imm p0 1 c0, .imm p1 1 c1, li c2, li c3, li c4, li c5, .lit (.bool c6), .lit (.bool c7)]), (.one (li c8)), (.one (li c9))], [] => some (N (GRegs.mk c0 c1 c2 c3 c4 c5 c6 c7) c8 c9, K (GRegs.mk c0 c1 c2 c3 c4 c5 c6 c7) c8 c9)
 | _, _ => none
theorem DS39_t {N : GRegs → Int → Int → SV × List Blk} {K : GRegs → Int → Int → Bool} {f : Nat} (h : ∀ (a : GRegs) (b : Int) (c : Int) (p0 : Bool) (p1 : Bool), K a b c = true → frzR R f (AS39 a b c p0 p1) (HS39 a b c p0 p1) = some (N a b c)) : Con f (DS39 N K) := fun _ _ _ e => by
 unfold DS39 at e
 split at e
 ·exact dsf e (h _ _ _ _ _)
 ·cases e
def T214 (a : GRegs) (b : Int) (c : Int) : Pt (Int) := (.ok true (.ok ((inRow [.int .i64] a.D c) && ((k248 b) && true)) (.ok true (.ok true (.leaf (andI (intAt a.D (Int.toNat c) 0) (subI (g248 b) 1)))))))
def g214 (a : GRegs) (b : Int) (c : Int) : Int := hid (T214 a b c).val
def k214 (a : GRegs) (b : Int) (c : Int) : Bool := hid (T214 a b c).okv
def n214 (a : GRegs) (b : Int) (c : Int) (r : Int) : SV × List Blk := ((.one (li r)), [])
def q214 := DS39 (fun a b c => n214 a b c (g214 a b c)) k214
theorem t214 : Con 100214 q214 := DS39_t fun a b c p0 p1 hk => tz at214 Q159_ok [(8, K1), (10, K0), (11, K0)] [] true (T214 a b c) (n214 a b c) hk
def Q214 := qcons 100214 q214 Q159
theorem Q214_ok : QO Q214 := qcons_ok t214 Q159_ok
def T276 (a : Int) (b : Int) : Pt (Int) := (.ok true (.ok true (.br (bif (eqI a 1) then (neI b 3) else false) (.ok true (.ok true (.ok true (.leaf 1)))) (.ok true (.ok true (.ok true (.leaf 2)))))))
def g276 (a : Int) (b : Int) : Int := hid (T276 a b).val
def k276 (a : Int) (b : Int) : Bool := hid (T276 a b).okv
def n276 (a : Int) (b : Int) (r : Int) : SV × List Blk := ((.one (li r)), [])
def q276 := DS17 (fun a b => n276 a b (g276 a b)) k276
theorem t276 : Con 100276 q276 := DS17_t fun a b hk => tz at276 Q214_ok [] [] true (T276 a b) (n276 a b) hk
def Q276 := qcons 100276 q276 Q214
theorem Q276_ok : QO Q276 := qcons_ok t276 Q214_ok
def AS40 (a : GRegs) (b : Int) (c : GOperand) : List SV := [(.agg [.sl 0 0 (ln a.D), .sl 1 0 (ln a.A), li a.Other, li a.PC, li a.Flags, li a.Mask, .lit (.bool a.Super), .lit (.bool a.Trace)]), (.one (li b)), (.agg [li c.Mode, li c.Reg, li c.Ext])]
def HS40 (a : GRegs) (b : Int) (c : GOperand) : List Blk := [.lst 1 a.D, .lst 1 a.A]
def DS40 (N : GRegs → Int → GOperand → SV × List Blk) (K : GRegs → Int → GOperand → Bool) : List SV → List Blk → Option ((SV × List Blk) × Bool)
 | [(.agg [.sl 0 0 l0, .sl 1 0 l1, li c0, li c1, li c2, li c3, .lit (.bool c4), .lit (.bool c5)]), (.one (li c6)), (.agg [li c7, li c8, li c9])], [.lst 1 c_0, .lst 1 c_1] => some (N (GRegs.mk c_0 c_1 c0 c1 c2 c3 c4 c5) c6 (GOperand.mk c7 c8 c9), eqN l0 (ln c_0) && (eqN l1 (ln c_1) && (K (GRegs.mk c_0 c_1 c0 c1 c2 c3 c4 c5) c6 (GOperand.mk c7 c8 c9))))
 | _, _ => none
theorem DS40_t {N : GRegs → Int → GOperand → SV × List Blk} {K : GRegs → Int → GOperand → Bool} {f : Nat} (h : ∀ (a : GRegs) (b : Int) (c : GOperand), K a b c = true → frzR R f (AS40 a b c) (HS40 a b c) = some (N a b c)) : Con f (DS40 N K) := fun args hp r e => by
 unfold DS40 at e
 split at e
 ·rename_i l0 l1 c0 c1 c2 c3 c4 c5 c6 c7 c8 c9 c_0 c_1
  obtain ⟨hr, hk⟩ := qp (qi e)
  obtain ⟨d0, hk0⟩ := and_t hk
  obtain ⟨d1, hk1⟩ := and_t hk0
  obtain rfl := of_decide_eq_true d0
  obtain rfl := of_decide_eq_true d1
  rw [← hr]
  exact h (GRegs.mk c_0 c_1 c0 c1 c2 c3 c4 c5) c6 (GOperand.mk c7 c8 c9) hk1
 ·simp at e
section
variable (a : GRegs) (b : Int) (c : GOperand)
def y247_0 : Bool := ((leI 0 c.Reg) && (ltI c.Reg (lenI a.A)))
def y247_1 : Bool := ((y247_0 a c) && (((blt (0 + (Int.toNat c.Reg)) (ln a.A)) && (beqN (rlen a.A (0 + (Int.toNat c.Reg))) 1)) && true))
def y247_2 : Bool := (eqN (ln a.D) (ln a.D))
def y247_3 : List Row := (List.set a.A (0 + (Int.toNat c.Reg)) (rowI (andI (addI (intAt a.A (0 + (Int.toNat c.Reg)) 0) (g276 b c.Reg)) 65535)))
def y247_4 : Bool := ((y247_2 a) && ((eqN (ln a.A) (ln (y247_3 a b c))) && true))
def y247_5 : Bool := ((y247_2 a) && ((eqN (ln a.A) (ln a.A)) && true))
def y247_6 : Int := (andI (subI (intAt a.A (0 + (Int.toNat c.Reg)) 0) (g276 b c.Reg)) 65535)
def y247_7 : List Row := (List.set a.A (0 + (Int.toNat c.Reg)) (rowI (y247_6 a b c)))
def y247_8 : Bool := ((y247_2 a) && ((eqN (ln a.A) (ln (y247_7 a b c))) && true))
end
def T247 (a : GRegs) (b : Int) (c : GOperand) : Pt (GRegs × Int) := (.ok true (.ok ((y247_0 a c) && ((hasRow [.int .i64] a.A (0 + (Int.toNat c.Reg)) 0) && true)) (.ok true (.ok true (.br (eqI c.Mode 3) (.ok (((k276 b c.Reg) && (y247_1 a c)) && true) (.ok true (.ok (((y247_4 a b c) && ((y247_5 a) && true)) && (((y247_4 a b c) && true) && true)) (.leaf ({ a with A := (y247_3 a b c) }, (intAt a.A (0 + (Int.toNat c.Reg)) 0)))))) (.ok true (.br (eqI c.Mode 4) (.ok ((k276 b c.Reg) && true) (.ok (y247_1 a c) (.ok true (.ok (((y247_8 a b c) && ((y247_5 a) && true)) && (((y247_8 a b c) && true) && true)) (.leaf ({ a with A := (y247_7 a b c) }, (y247_6 a b c))))))) (.ok true (.ok true (.ok true (.ok (((y247_5 a) && ((y247_5 a) && true)) && (((y247_5 a) && true) && true)) (.leaf (a, (bif (eqI c.Mode 5) then (andI (addI (intAt a.A (0 + (Int.toNat c.Reg)) 0) c.Ext) 65535) else (bif (eqI c.Mode 6) then c.Ext else (intAt a.A (0 + (Int.toNat c.Reg)) 0))))))))))))))))
def g247 (a : GRegs) (b : Int) (c : GOperand) : GRegs × Int := hid (T247 a b c).val
def k247 (a : GRegs) (b : Int) (c : GOperand) : Bool := hid (T247 a b c).okv
def n247 (a : GRegs) (b : Int) (c : GOperand) (r : GRegs × Int) : SV × List Blk := ((.tup [(.agg [.sl 0 0 (ln r.1.D), .sl 1 0 (ln r.1.A), li r.1.Other, li r.1.PC, li r.1.Flags, li r.1.Mask, .lit (.bool r.1.Super), .lit (.bool r.1.Trace)]), (.one (li r.2))]), [.lst 1 r.1.D, .lst 1 r.1.A])
def q247 := DS40 (fun a b c => n247 a b c (g247 a b c)) k247
theorem t247 : Con 247 q247 := DS40_t fun a b c hk => tc at247 Q276_ok [(10, K1), (12, K0), (13, K0), (14, K0), (16, K0), (20, K1), (22, K0), (26, K0), (30, K0), (36, K0), (41, K1), (43, K0), (45, K0), (50, K0), (56, K0), (57, K6), (1000001, [])] [] true (T247 a b c) (n247 a b c) hk
def Q247 := qcons 247 q247 Q276
theorem Q247_ok : QO Q247 := qcons_ok t247 Q276_ok
def AS41 (b : Int) (c : GOperand) (a : Gl10M) : List SV := [(.one (.ptr 0 0 0)), (.one (li b)), (.agg [li c.Mode, li c.Reg, li c.Ext])]
def HS41 (b : Int) (c : GOperand) (a : Gl10M) : List Blk := [.box [.sl 1 0 (ln a.fr.D), .sl 2 0 (ln a.fr.A), li a.fr.Other, li a.fr.PC, li a.fr.Flags, li a.fr.Mask, .lit (.bool a.fr.Super), .lit (.bool a.fr.Trace), .sl 3 0 (ln a.fbus.Bytes), .sl 4 0 (ln a.fbus.Log), .lit (.bool a.fstop), li a.ffault.Vector, li a.ffault.PC, li a.ffault.Addr, li a.ffault.Word, .lit (.bool a.ffault.Write)], .lst 1 a.fr.D, .lst 1 a.fr.A, .lst 1 a.fbus.Bytes, .lst 5 a.fbus.Log]
def DS41 (N : Int → GOperand → Gl10M → SV × List Blk) (K : Int → GOperand → Gl10M → Bool) : List SV → List Blk → Option ((SV × List Blk) × Bool)
 | [(.one (.ptr 0 0 0)), (.one (li c0)), (.agg [li c1, li c2, li c3])], [.box [.sl 1 0 l1, .sl 2 0 l2, li c4, li c5, li c6, li c7, .lit (.bool c8), .lit (.bool c9), .sl 3 0 l3, .sl 4 0 l4, .lit (.bool c10), li c11, li c12, li c13, li c14, .lit (.bool c15)], .lst 1 c_1, .lst 1 c_2, .lst 1 c_3, .lst 5 c_4] => some (N c0 (GOperand.mk c1 c2 c3) (Gl10M.mk (GRegs.mk c_1 c_2 c4 c5 c6 c7 c8 c9) (GBus.mk c_3 c_4) c10 (GFault.mk c11 c12 c13 c14 c15)), eqN l1 (ln c_1) && (eqN l2 (ln c_2) && (eqN l3 (ln c_3) && (eqN l4 (ln c_4) && (K c0 (GOperand.mk c1 c2 c3) (Gl10M.mk (GRegs.mk c_1 c_2 c4 c5 c6 c7 c8 c9) (GBus.mk c_3 c_4) c10 (GFault.mk c11 c12 c13 c14 c15)))))))
 | _, _ => none
theorem DS41_t {N : Int → GOperand → Gl10M → SV × List Blk} {K : Int → GOperand → Gl10M → Bool} {f : Nat} (h : ∀ (b : Int) (c : GOperand) (a : Gl10M), K b c a = true → frzR R f (AS41 b c a) (HS41 b c a) = some (N b c a)) : Con f (DS41 N K) := fun args hp r e => by
 unfold DS41 at e
 split at e
 ·rename_i c0 c1 c2 c3 l1 l2 c4 c5 c6 c7 c8 c9 l3 l4 c10 c11 c12 c13 c14 c15 c_1 c_2 c_3 c_4
  obtain ⟨hr, hk⟩ := qp (qi e)
  obtain ⟨d0, hk0⟩ := and_t hk
  obtain ⟨d1, hk1⟩ := and_t hk0
  obtain ⟨d2, hk2⟩ := and_t hk1
  obtain ⟨d3, hk3⟩ := and_t hk2
  obtain rfl := of_decide_eq_true d0
  obtain rfl := of_decide_eq_true d1
  obtain rfl := of_decide_eq_true d2
  obtain rfl := of_decide_eq_true d3
  rw [← hr]
  exact h c0 (GOperand.mk c1 c2 c3) (Gl10M.mk (GRegs.mk c_1 c_2 c4 c5 c6 c7 c8 c9) (GBus.mk c_3 c_4) c10 (GFault.mk c11 c12 c13 c14 c15)) hk3
 ·simp at e
section
variable (b : Int) (c : GOperand) (a : Gl10M)
def y212_0 : Bool := (eqN (ln a.fr.D) (ln a.fr.D))
def y212_1 : Bool := (eqN (ln a.fr.A) (ln a.fr.A))
def y212_2 : Bool := (((y212_0 a) && ((y212_1 a) && true)) && true)
def y212_3 : Bool := (eqN (ln a.fbus.Bytes) (ln a.fbus.Bytes))
def y212_4 : Bool := (eqN (ln a.fbus.Log) (ln a.fbus.Log))
def y212_5 : Bool := ((y212_0 a) && ((y212_1 a) && ((y212_3 a) && ((y212_4 a) && true))))
def y212_6 : Bool := ((((((y212_0 a) && ((y212_1 a) && true)) && (y212_2 a)) && ((y212_0 a) && ((y212_1 a) && (k247 a.fr b c)))) && true) && true)
def y212_7 : Bool := ((same (α := Nat) (ln a.fbus.Bytes) (ln a.fbus.Bytes)) && ((same (α := Nat) (ln a.fbus.Log) (ln a.fbus.Log)) && ((same (α := Bool) a.fstop a.fstop) && ((same (α := Int) a.ffault.Vector a.ffault.Vector) && ((same (α := Int) a.ffault.PC a.ffault.PC) && ((same (α := Int) a.ffault.Addr a.ffault.Addr) && ((same (α := Int) a.ffault.Word a.ffault.Word) && ((same (α := Bool) a.ffault.Write a.ffault.Write) && true))))))))
def y212_8 : Bool := ((same (α := Nat) (ln a.fr.D) (ln a.fr.D)) && ((same (α := Nat) (ln a.fr.A) (ln a.fr.A)) && ((same (α := Int) a.fr.Other a.fr.Other) && ((same (α := Int) a.fr.PC a.fr.PC) && ((same (α := Int) a.fr.Flags a.fr.Flags) && ((same (α := Int) a.fr.Mask a.fr.Mask) && ((same (α := Bool) a.fr.Super a.fr.Super) && ((same (α := Bool) a.fr.Trace a.fr.Trace) && (y212_7 a)))))))))
def y212_9 : Bool := ((same (α := Int) (g247 a.fr b c).1.Other (g247 a.fr b c).1.Other) && ((same (α := Int) (g247 a.fr b c).1.PC (g247 a.fr b c).1.PC) && ((same (α := Int) (g247 a.fr b c).1.Flags (g247 a.fr b c).1.Flags) && ((same (α := Int) (g247 a.fr b c).1.Mask (g247 a.fr b c).1.Mask) && ((same (α := Bool) (g247 a.fr b c).1.Super (g247 a.fr b c).1.Super) && ((same (α := Bool) (g247 a.fr b c).1.Trace (g247 a.fr b c).1.Trace) && true))))))
def y212_10 : Bool := (((same (α := Nat) (ln (g247 a.fr b c).1.D) (ln (g247 a.fr b c).1.D)) && ((same (α := Nat) (ln (g247 a.fr b c).1.A) (ln (g247 a.fr b c).1.A)) && (y212_9 b c a))) && ((sameR a.fbus.Bytes a.fbus.Bytes) && ((sameR a.fbus.Log a.fbus.Log) && ((sameR (g247 a.fr b c).1.D (g247 a.fr b c).1.D) && ((sameR (g247 a.fr b c).1.A (g247 a.fr b c).1.A) && true)))))
def y212_11 : Bool := (((same (α := Int) b b) && ((same (α := Int) (g247 a.fr b c).2 (g247 a.fr b c).2) && true)) && ((y212_8 a) && (((same (α := Int) c.Mode c.Mode) && ((same (α := Int) c.Reg c.Reg) && ((same (α := Int) c.Ext c.Ext) && true))) && (y212_10 b c a))))
def y212_12 : Bool := (eqN (ln (g247 a.fr b c).1.D) (ln (g247 a.fr b c).1.D))
def y212_13 : Bool := (eqN (ln (g247 a.fr b c).1.A) (ln (g247 a.fr b c).1.A))
def y212_14 : Bool := ((y212_12 b c a) && ((y212_13 b c a) && ((y212_3 a) && ((y212_4 a) && true))))
def y212_15 : Gl10M × Int := (g156 1 b (g247 a.fr b c).2 0 { a with fr := (g247 a.fr b c).1 })
def y212_16 : Nat := (ln (y212_15 b c a).1.fbus.Bytes)
def y212_17 : Nat := (ln (y212_15 b c a).1.fbus.Log)
def y212_18 : Bool := ((eqN (ln (y212_15 b c a).1.fr.D) (ln (y212_15 b c a).1.fr.D)) && ((eqN (ln (y212_15 b c a).1.fr.A) (ln (y212_15 b c a).1.fr.A)) && ((eqN (y212_16 b c a) (y212_16 b c a)) && ((eqN (y212_17 b c a) (y212_17 b c a)) && true))))
end
def T212 (b : Int) (c : GOperand) (a : Gl10M) : Pt (Gl10M × Int × Int) := (.ok true (.ok true (.ok true (.br (eqI c.Mode 0) (.ok (((y212_2 a) && (k214 a.fr b c.Reg)) && true) (.ok (((y212_5 a) && (y212_5 a)) && true) (.leaf (a, (g214 a.fr b c.Reg), 0)))) (.ok true (.br (eqI c.Mode 1) (.ok (((leI 0 c.Reg) && (ltI c.Reg (lenI a.fr.A))) && ((hasRow [.int .i64] a.fr.A (0 + (Int.toNat c.Reg)) 0) && true)) (.ok (((y212_5 a) && (y212_5 a)) && true) (.leaf (a, (intAt a.fr.A (0 + (Int.toNat c.Reg)) 0), 0)))) (.ok true (.br (eqI c.Mode 7) (.ok true (.ok (((y212_5 a) && (y212_5 a)) && true) (.leaf (a, c.Ext, 0)))) (.ok ((y212_6 b c a) && (((y212_6 b c a) && (((y212_6 b c a) && (((y212_6 b c a) && (((y212_6 b c a) && (((y212_6 b c a) && ((y212_6 b c a) && (y212_11 b c a))) && (y212_11 b c a))) && (y212_11 b c a))) && (y212_11 b c a))) && (y212_11 b c a))) && (y212_11 b c a))) (.ok true (.ok (((((y212_14 b c a) && (y212_14 b c a)) && true) && ((y212_12 b c a) && ((y212_13 b c a) && ((y212_3 a) && ((y212_4 a) && (k156 1 b (g247 a.fr b c).2 0 { a with fr := (g247 a.fr b c).1 })))))) && true) (.ok (((y212_18 b c a) && (y212_18 b c a)) && true) (.leaf ((y212_15 b c a).1, (y212_15 b c a).2, (g247 a.fr b c).2))))))))))))))
def g212 (b : Int) (c : GOperand) (a : Gl10M) : Gl10M × Int × Int := hid (T212 b c a).val
def k212 (b : Int) (c : GOperand) (a : Gl10M) : Bool := hid (T212 b c a).okv
def n212 (b : Int) (c : GOperand) (a : Gl10M) (r : Gl10M × Int × Int) : SV × List Blk := ((.tup [(.one (li r.2.1)), (.one (li r.2.2))]), [.box [.sl 1 0 (ln r.1.fr.D), .sl 2 0 (ln r.1.fr.A), li r.1.fr.Other, li r.1.fr.PC, li r.1.fr.Flags, li r.1.fr.Mask, .lit (.bool r.1.fr.Super), .lit (.bool r.1.fr.Trace), .sl 3 0 (ln r.1.fbus.Bytes), .sl 4 0 (ln r.1.fbus.Log), .lit (.bool r.1.fstop), li r.1.ffault.Vector, li r.1.ffault.PC, li r.1.ffault.Addr, li r.1.ffault.Word, .lit (.bool r.1.ffault.Write)], .lst 1 r.1.fr.D, .lst 1 r.1.fr.A, .lst 1 r.1.fbus.Bytes, .lst 5 r.1.fbus.Log])
def q212 := DS41 (fun b c a => n212 b c a (g212 b c a)) k212
theorem t212 : Con 212 q212 := DS41_t fun b c a hk => tc at212 Q247_ok [(11, K0), (17, K6), (20, K0), (28, K1), (30, K0), (31, K0), (32, K0), (36, K0), (41, K6), (43, K4), (48, K6)] [] true (T212 b c a) (n212 b c a) hk
def Q212 := qcons 212 q212 Q247
theorem Q212_ok : QO Q212 := qcons_ok t212 Q247_ok
section
variable (b : Int) (c : GOperand) (a : Gl10M)
def y213_0 : Bool := (eqN (ln a.fr.D) (ln a.fr.D))
def y213_1 : Bool := (eqN (ln a.fr.A) (ln a.fr.A))
def y213_2 : Bool := ((eqN (ln a.fbus.Bytes) (ln a.fbus.Bytes)) && ((eqN (ln a.fbus.Log) (ln a.fbus.Log)) && true))
def y213_3 : Bool := ((y213_0 a) && ((y213_1 a) && (y213_2 a)))
def y213_4 : Bool := ((((((y213_0 a) && ((y213_1 a) && true)) && (((y213_0 a) && ((y213_1 a) && true)) && true)) && ((y213_0 a) && ((y213_1 a) && (k247 a.fr b c)))) && true) && true)
def y213_5 : Bool := ((same (α := Nat) (ln a.fbus.Bytes) (ln a.fbus.Bytes)) && ((same (α := Nat) (ln a.fbus.Log) (ln a.fbus.Log)) && ((same (α := Bool) a.fstop a.fstop) && ((same (α := Int) a.ffault.Vector a.ffault.Vector) && ((same (α := Int) a.ffault.PC a.ffault.PC) && ((same (α := Int) a.ffault.Addr a.ffault.Addr) && ((same (α := Int) a.ffault.Word a.ffault.Word) && ((same (α := Bool) a.ffault.Write a.ffault.Write) && true))))))))
def y213_6 : Bool := ((same (α := Nat) (ln a.fr.D) (ln a.fr.D)) && ((same (α := Nat) (ln a.fr.A) (ln a.fr.A)) && ((same (α := Int) a.fr.Other a.fr.Other) && ((same (α := Int) a.fr.PC a.fr.PC) && ((same (α := Int) a.fr.Flags a.fr.Flags) && ((same (α := Int) a.fr.Mask a.fr.Mask) && ((same (α := Bool) a.fr.Super a.fr.Super) && ((same (α := Bool) a.fr.Trace a.fr.Trace) && (y213_5 a)))))))))
def y213_7 : Bool := ((same (α := Int) (g247 a.fr b c).1.Other (g247 a.fr b c).1.Other) && ((same (α := Int) (g247 a.fr b c).1.PC (g247 a.fr b c).1.PC) && ((same (α := Int) (g247 a.fr b c).1.Flags (g247 a.fr b c).1.Flags) && ((same (α := Int) (g247 a.fr b c).1.Mask (g247 a.fr b c).1.Mask) && ((same (α := Bool) (g247 a.fr b c).1.Super (g247 a.fr b c).1.Super) && ((same (α := Bool) (g247 a.fr b c).1.Trace (g247 a.fr b c).1.Trace) && true))))))
def y213_8 : Bool := (((same (α := Nat) (ln (g247 a.fr b c).1.D) (ln (g247 a.fr b c).1.D)) && ((same (α := Nat) (ln (g247 a.fr b c).1.A) (ln (g247 a.fr b c).1.A)) && (y213_7 b c a))) && ((sameR a.fbus.Bytes a.fbus.Bytes) && ((sameR a.fbus.Log a.fbus.Log) && ((sameR (g247 a.fr b c).1.D (g247 a.fr b c).1.D) && ((sameR (g247 a.fr b c).1.A (g247 a.fr b c).1.A) && true)))))
def y213_9 : Bool := (((same (α := Int) (g247 a.fr b c).2 (g247 a.fr b c).2) && true) && ((y213_6 a) && (((same (α := Int) c.Mode c.Mode) && ((same (α := Int) c.Reg c.Reg) && ((same (α := Int) c.Ext c.Ext) && true))) && (y213_8 b c a))))
def y213_10 : Bool := ((eqN (ln (g247 a.fr b c).1.D) (ln (g247 a.fr b c).1.D)) && ((eqN (ln (g247 a.fr b c).1.A) (ln (g247 a.fr b c).1.A)) && (y213_2 a)))
end
def T213 (b : Int) (c : GOperand) (a : Gl10M) : Pt (Gl10M × Int) := (.ok true (.ok true (.br (eqI c.Mode 0) (.ok true (.ok (((y213_3 a) && (y213_3 a)) && true) (.leaf (a, 0)))) (.ok ((y213_4 b c a) && (((y213_4 b c a) && (((y213_4 b c a) && (((y213_4 b c a) && (((y213_4 b c a) && (((y213_4 b c a) && ((y213_4 b c a) && (y213_9 b c a))) && (y213_9 b c a))) && (y213_9 b c a))) && (y213_9 b c a))) && (y213_9 b c a))) && (y213_9 b c a))) (.ok true (.ok true (.ok (((y213_10 b c a) && (y213_10 b c a)) && true) (.leaf ({ a with fr := (g247 a.fr b c).1 }, (g247 a.fr b c).2)))))))))
def g213 (b : Int) (c : GOperand) (a : Gl10M) : Gl10M × Int := hid (T213 b c a).val
def k213 (b : Int) (c : GOperand) (a : Gl10M) : Bool := hid (T213 b c a).okv
def n213 (b : Int) (c : GOperand) (a : Gl10M) (r : Gl10M × Int) : SV × List Blk := ((.one (li r.2)), [.box [.sl 1 0 (ln r.1.fr.D), .sl 2 0 (ln r.1.fr.A), li r.1.fr.Other, li r.1.fr.PC, li r.1.fr.Flags, li r.1.fr.Mask, .lit (.bool r.1.fr.Super), .lit (.bool r.1.fr.Trace), .sl 3 0 (ln r.1.fbus.Bytes), .sl 4 0 (ln r.1.fbus.Log), .lit (.bool r.1.fstop), li r.1.ffault.Vector, li r.1.ffault.PC, li r.1.ffault.Addr, li r.1.ffault.Word, .lit (.bool r.1.ffault.Write)], .lst 1 r.1.fr.D, .lst 1 r.1.fr.A, .lst 1 r.1.fbus.Bytes, .lst 5 r.1.fbus.Log])
def q213 := DS41 (fun b c a => n213 b c a (g213 b c a)) k213
theorem t213 : Con 213 q213 := DS41_t fun b c a hk => tc at213 Q212_ok [(10, K0), (16, K6), (18, K4), (23, K6)] [] true (T213 b c a) (n213 b c a) hk
def Q213 := qcons 213 q213 Q212
theorem Q213_ok : QO Q213 := qcons_ok t213 Q212_ok
def AS42 (a : GRegs) (b : Int) (c : Int) (d : Int) : List SV := [(.agg [.sl 0 0 (ln a.D), .sl 1 0 (ln a.A), li a.Other, li a.PC, li a.Flags, li a.Mask, .lit (.bool a.Super), .lit (.bool a.Trace)]), (.one (li b)), (.one (li c)), (.one (li d))]
def HS42 (a : GRegs) (b : Int) (c : Int) (d : Int) : List Blk := [.lst 1 a.D, .lst 1 a.A]
def DS42 (N : GRegs → Int → Int → Int → SV × List Blk) (K : GRegs → Int → Int → Int → Bool) : List SV → List Blk → Option ((SV × List Blk) × Bool)
 | [(.agg [.sl 0 0 l0, .sl 1 0 l1, li c0, li c1, li c2, li c3, .lit (.bool c4), .lit (.bool c5)]), (.one (li c6)), (.one (li c7)), (.one (li c8))], [.lst 1 c_0, .lst 1 c_1] => some (N (GRegs.mk c_0 c_1 c0 c1 c2 c3 c4 c5) c6 c7 c8, eqN l0 (ln c_0) && (eqN l1 (ln c_1) && (K (GRegs.mk c_0 c_1 c0 c1 c2 c3 c4 c5) c6 c7 c8)))
 | _, _ => none
theorem DS42_t {N : GRegs → Int → Int → Int → SV × List Blk} {K : GRegs → Int → Int → Int → Bool} {f : Nat} (h : ∀ (a : GRegs) (b : Int) (c : Int) (d : Int), K a b c d = true → frzR R f (AS42 a b c d) (HS42 a b c d) = some (N a b c d)) : Con f (DS42 N K) := fun args hp r e => by
 unfold DS42 at e
 split at e
 ·rename_i l0 l1 c0 c1 c2 c3 c4 c5 c6 c7 c8 c_0 c_1
  obtain ⟨hr, hk⟩ := qp (qi e)
  obtain ⟨d0, hk0⟩ := and_t hk
  obtain ⟨d1, hk1⟩ := and_t hk0
  obtain rfl := of_decide_eq_true d0
  obtain rfl := of_decide_eq_true d1
  rw [← hr]
  exact h (GRegs.mk c_0 c_1 c0 c1 c2 c3 c4 c5) c6 c7 c8 hk1
 ·simp at e
section
variable (a : GRegs) (c : Int) (d : Int)
def y219_0 : Bool := (((leI 0 c) && (ltI c (lenI a.D))) && (((blt (0 + (Int.toNat c)) (ln a.D)) && (beqN (rlen a.D (0 + (Int.toNat c))) 1)) && true))
def y219_1 : List Row := (List.set a.D (0 + (Int.toNat c)) (rowI (orI (andI (intAt a.D (0 + (Int.toNat c)) 0) 65280) d)))
def y219_2 : Bool := ((eqN (ln a.A) (ln a.A)) && true)
def y219_3 : Bool := ((eqN (ln a.D) (ln (y219_1 a c d))) && (y219_2 a))
def y219_4 : Bool := (((eqN (ln a.D) (ln a.D)) && (y219_2 a)) && true)
def y219_5 : List Row := (List.set a.D (0 + (Int.toNat c)) (rowI d))
def y219_6 : Bool := ((eqN (ln a.D) (ln (y219_5 a c d))) && (y219_2 a))
end
def T219 (a : GRegs) (b : Int) (c : Int) (d : Int) : Pt (GRegs) := (.ok true (.ok true (.br (eqI b 1) (.ok ((((leI 0 c) && (ltI c (lenI a.D))) && ((hasRow [.int .i64] a.D (0 + (Int.toNat c)) 0) && (y219_0 a c))) && true) (.ok true (.ok (((y219_3 a c d) && (y219_4 a)) && ((y219_3 a c d) && true)) (.leaf { a with D := (y219_1 a c d) })))) (.ok (y219_0 a c) (.ok true (.ok (((y219_6 a c d) && (y219_4 a)) && ((y219_6 a c d) && true)) (.leaf { a with D := (y219_5 a c d) })))))))
def g219 (a : GRegs) (b : Int) (c : Int) (d : Int) : GRegs := hid (T219 a b c d).val
def k219 (a : GRegs) (b : Int) (c : Int) (d : Int) : Bool := hid (T219 a b c d).okv
def n219 (a : GRegs) (b : Int) (c : Int) (d : Int) (r : GRegs) : SV × List Blk := ((.agg [.sl 0 0 (ln r.D), .sl 1 0 (ln r.A), li r.Other, li r.PC, li r.Flags, li r.Mask, .lit (.bool r.Super), .lit (.bool r.Trace)]), [.lst 1 r.D, .lst 1 r.A])
def q219 := DS42 (fun a b c d => n219 a b c d (g219 a b c d)) k219
theorem t219 : Con 219 q219 := DS42_t fun a b c d hk => tc at219 Q213_ok [(12, K1), (15, K1), (17, K0), (18, K0), (22, K0), (24, K1), (27, K0), (28, K6), (1000001, [])] [] true (T219 a b c d) (n219 a b c d) hk
def Q219 := qcons 219 q219 Q213
theorem Q219_ok : QO Q219 := qcons_ok t219 Q213_ok
def AS43 (b : Int) (c : GOperand) (d : Int) (o : Int) (a : Gl10M) : List SV := [(.one (.ptr 0 0 0)), (.one (li b)), (.agg [li c.Mode, li c.Reg, li c.Ext]), (.one (li d)), (.one (li o))]
def HS43 (b : Int) (c : GOperand) (d : Int) (o : Int) (a : Gl10M) : List Blk := [.box [.sl 1 0 (ln a.fr.D), .sl 2 0 (ln a.fr.A), li a.fr.Other, li a.fr.PC, li a.fr.Flags, li a.fr.Mask, .lit (.bool a.fr.Super), .lit (.bool a.fr.Trace), .sl 3 0 (ln a.fbus.Bytes), .sl 4 0 (ln a.fbus.Log), .lit (.bool a.fstop), li a.ffault.Vector, li a.ffault.PC, li a.ffault.Addr, li a.ffault.Word, .lit (.bool a.ffault.Write)], .lst 1 a.fr.D, .lst 1 a.fr.A, .lst 1 a.fbus.Bytes, .lst 5 a.fbus.Log]
def DS43 (N : Int → GOperand → Int → Int → Gl10M → SV × List Blk) (K : Int → GOperand → Int → Int → Gl10M → Bool) : List SV → List Blk → Option ((SV × List Blk) × Bool)
 | [(.one (.ptr 0 0 0)), (.one (li c0)), (.agg [li c1, li c2, li c3]), (.one (li c4)), (.one (li c5))], [.box [.sl 1 0 l1, .sl 2 0 l2, li c6, li c7, li c8, li c9, .lit (.bool c10), .lit (.bool c11), .sl 3 0 l3, .sl 4 0 l4, .lit (.bool c12), li c13, li c14, li c15, li c16, .lit (.bool c17)], .lst 1 c_1, .lst 1 c_2, .lst 1 c_3, .lst 5 c_4] => some (N c0 (GOperand.mk c1 c2 c3) c4 c5 (Gl10M.mk (GRegs.mk c_1 c_2 c6 c7 c8 c9 c10 c11) (GBus.mk c_3 c_4) c12 (GFault.mk c13 c14 c15 c16 c17)), eqN l1 (ln c_1) && (eqN l2 (ln c_2) && (eqN l3 (ln c_3) && (eqN l4 (ln c_4) && (K c0 (GOperand.mk c1 c2 c3) c4 c5 (Gl10M.mk (GRegs.mk c_1 c_2 c6 c7 c8 c9 c10 c11) (GBus.mk c_3 c_4) c12 (GFault.mk c13 c14 c15 c16 c17)))))))
 | _, _ => none
theorem DS43_t {N : Int → GOperand → Int → Int → Gl10M → SV × List Blk} {K : Int → GOperand → Int → Int → Gl10M → Bool} {f : Nat} (h : ∀ (b : Int) (c : GOperand) (d : Int) (o : Int) (a : Gl10M), K b c d o a = true → frzR R f (AS43 b c d o a) (HS43 b c d o a) = some (N b c d o a)) : Con f (DS43 N K) := fun args hp r e => by
 unfold DS43 at e
 split at e
 ·rename_i c0 c1 c2 c3 c4 c5 l1 l2 c6 c7 c8 c9 c10 c11 l3 l4 c12 c13 c14 c15 c16 c17 c_1 c_2 c_3 c_4
  obtain ⟨hr, hk⟩ := qp (qi e)
  obtain ⟨d0, hk0⟩ := and_t hk
  obtain ⟨d1, hk1⟩ := and_t hk0
  obtain ⟨d2, hk2⟩ := and_t hk1
  obtain ⟨d3, hk3⟩ := and_t hk2
  obtain rfl := of_decide_eq_true d0
  obtain rfl := of_decide_eq_true d1
  obtain rfl := of_decide_eq_true d2
  obtain rfl := of_decide_eq_true d3
  rw [← hr]
  exact h c0 (GOperand.mk c1 c2 c3) c4 c5 (Gl10M.mk (GRegs.mk c_1 c_2 c6 c7 c8 c9 c10 c11) (GBus.mk c_3 c_4) c12 (GFault.mk c13 c14 c15 c16 c17)) hk3
 ·simp at e
section
variable (b : Int) (c : GOperand) (d : Int) (o : Int) (a : Gl10M)
def y215_0 : Bool := (eqN (ln a.fr.D) (ln a.fr.D))
def y215_1 : Bool := (eqN (ln a.fr.A) (ln a.fr.A))
def y215_2 : GRegs := (g219 a.fr b c.Reg o)
def y215_3 : Bool := (eqN (ln a.fbus.Bytes) (ln a.fbus.Bytes))
def y215_4 : Bool := (eqN (ln a.fbus.Log) (ln a.fbus.Log))
def y215_5 : Bool := ((eqN (ln (y215_2 b c o a).D) (ln (y215_2 b c o a).D)) && ((eqN (ln (y215_2 b c o a).A) (ln (y215_2 b c o a).A)) && ((y215_3 a) && ((y215_4 a) && true))))
def y215_6 : Bool := ((y215_0 a) && ((y215_1 a) && ((y215_3 a) && ((y215_4 a) && true))))
def y215_7 : Nat := (ln (g156 2 b d o a).1.fr.D)
def y215_8 : Nat := (ln (g156 2 b d o a).1.fr.A)
def y215_9 : Nat := (ln (g156 2 b d o a).1.fbus.Bytes)
def y215_10 : Nat := (ln (g156 2 b d o a).1.fbus.Log)
def y215_11 : Bool := ((eqN (y215_7 b d o a) (y215_7 b d o a)) && ((eqN (y215_8 b d o a) (y215_8 b d o a)) && ((eqN (y215_9 b d o a) (y215_9 b d o a)) && ((eqN (y215_10 b d o a) (y215_10 b d o a)) && true))))
end
def T215 (b : Int) (c : GOperand) (d : Int) (o : Int) (a : Gl10M) : Pt (Gl10M) := (.ok true (.ok true (.br (eqI c.Mode 0) (.ok ((((((y215_0 a) && ((y215_1 a) && true)) && (((y215_0 a) && ((y215_1 a) && true)) && true)) && ((y215_0 a) && ((y215_1 a) && (k219 a.fr b c.Reg o)))) && true) && true) (.ok (((y215_5 b c o a) && (y215_5 b c o a)) && true) (.leaf { a with fr := (y215_2 b c o a) }))) (.ok (((((y215_6 a) && (y215_6 a)) && true) && ((y215_0 a) && ((y215_1 a) && ((y215_3 a) && ((y215_4 a) && (k156 2 b d o a)))))) && true) (.ok (((y215_11 b d o a) && (y215_11 b d o a)) && true) (.leaf (g156 2 b d o a).1))))))
def g215 (b : Int) (c : GOperand) (d : Int) (o : Int) (a : Gl10M) : Gl10M := hid (T215 b c d o a).val
def k215 (b : Int) (c : GOperand) (d : Int) (o : Int) (a : Gl10M) : Bool := hid (T215 b c d o a).okv
def n215 (b : Int) (c : GOperand) (d : Int) (o : Int) (a : Gl10M) (r : Gl10M) : SV × List Blk := ((.tup []), [.box [.sl 1 0 (ln r.fr.D), .sl 2 0 (ln r.fr.A), li r.fr.Other, li r.fr.PC, li r.fr.Flags, li r.fr.Mask, .lit (.bool r.fr.Super), .lit (.bool r.fr.Trace), .sl 3 0 (ln r.fbus.Bytes), .sl 4 0 (ln r.fbus.Log), .lit (.bool r.fstop), li r.ffault.Vector, li r.ffault.PC, li r.ffault.Addr, li r.ffault.Word, .lit (.bool r.ffault.Write)], .lst 1 r.fr.D, .lst 1 r.fr.A, .lst 1 r.fbus.Bytes, .lst 5 r.fbus.Log])
def q215 := DS43 (fun b c d o a => n215 b c d o a (g215 b c d o a)) k215
theorem t215 : Con 215 q215 := DS43_t fun b c d o a hk => tc at215 Q219_ok [(11, K0), (17, K6), (20, K0)] [] true (T215 b c d o a) (n215 b c d o a) hk
def Q215 := qcons 215 q215 Q219
theorem Q215_ok : QO Q215 := qcons_ok t215 Q219_ok
def T249 (a : Int) (b : Int) : Pt (Int) := (.ok true (.ok ((k179 (eqI b 0) 4) && ((k248 a) && ((k179 (geI b (quoI (g248 a) 2)) 8) && true))) (.ok true (.ok true (.leaf (orI (g179 (eqI b 0) 4) (g179 (geI b (quoI (g248 a) 2)) 8)))))))
def g249 (a : Int) (b : Int) : Int := hid (T249 a b).val
def k249 (a : Int) (b : Int) : Bool := hid (T249 a b).okv
def q249 := DS17 (fun a b => n276 a b (g249 a b)) k249
theorem t249 : Con 100249 q249 := DS17_t fun a b hk => tz at249 Q215_ok [] [] true (T249 a b) (n276 a b) hk
def Q249 := qcons 100249 q249 Q215
theorem Q249_ok : QO Q249 := qcons_ok t249 Q215_ok
def T216 (a : Int) (b : Int) (c : Int) : Pt (Int) := (.ok true (.ok ((k249 a c) && true) (.ok true (.ok true (.leaf (orI (andI b 16) (g249 a c)))))))
def g216 (a : Int) (b : Int) (c : Int) : Int := hid (T216 a b c).val
def k216 (a : Int) (b : Int) (c : Int) : Bool := hid (T216 a b c).okv
def q216 := DS5 (fun a b c => n176 a b c (g216 a b c)) k216
theorem t216 : Con 100216 q216 := DS5_t fun a b c hk => tz at216 Q249_ok [] [] true (T216 a b c) (n176 a b c) hk
def Q216 := qcons 100216 q216 Q249
theorem Q216_ok : QO Q216 := qcons_ok t216 Q249_ok
def T277 (a : Int) (b : Int) : Pt (Int) := (.ok true (.ok ((k248 a) && true) (.br (geI b (quoI (g248 a) 2)) (.ok ((k248 a) && true) (.ok true (.ok true (.leaf (subI b (g248 a)))))) (.ok true (.ok true (.ok true (.leaf b)))))))
def g277 (a : Int) (b : Int) : Int := hid (T277 a b).val
def k277 (a : Int) (b : Int) : Bool := hid (T277 a b).okv
def q277 := DS17 (fun a b => n276 a b (g277 a b)) k277
theorem t277 : Con 100277 q277 := DS17_t fun a b hk => tz at277 Q216_ok [] [] true (T277 a b) (n276 a b) hk
def Q277 := qcons 100277 q277 Q216
theorem Q277_ok : QO Q277 := qcons_ok t277 Q216_ok
def AS44 (a : Int) (b : Int) (c : Int) (d : Int) : List SV := [(.one (li a)), (.one (li b)), (.one (li c)), (.one (li d))]
def HS44 (a : Int) (b : Int) (c : Int) (d : Int) : List Blk := []
def DS44 (N : Int → Int → Int → Int → SV × List Blk) (K : Int → Int → Int → Int → Bool) : List SV → List Blk → Option ((SV × List Blk) × Bool)
 | [(.one (li c0)), (.one (li c1)), (.one (li c2)), (.one (li c3))], [] => some (N c0 c1 c2 c3, K c0 c1 c2 c3)
 | _, _ => none
theorem DS44_t {N : Int → Int → Int → Int → SV × List Blk} {K : Int → Int → Int → Int → Bool} {f : Nat} (h : ∀ (a : Int) (b : Int) (c : Int) (d : Int), K a b c d = true → frzR R f (AS44 a b c d) (HS44 a b c d) = some (N a b c d)) : Con f (DS44 N K) := fun _ _ _ e => by
 unfold DS44 at e
 split at e
 ·exact dsf e (h _ _ _ _)
 ·cases e
section
variable (a : Int) (b : Int) (c : Int) (d : Int)
def y250_0 : Int := (andI (subI (subI c d) b) (subI (g248 a) 1))
def y250_1 : Bool := (neI (subI (subI (g277 a c) (g277 a d)) b) (g277 a (y250_0 a b c d)))
end
def T250 (a : Int) (b : Int) (c : Int) (d : Int) : Pt (Int × Int) := (.ok true (.ok true (.ok ((k248 a) && true) (.ok ((k277 a c) && ((k277 a d) && true)) (.ok ((k179 (ltI (subI (subI c d) b) 0) 17) && ((k277 a (y250_0 a b c d)) && ((k179 (y250_1 a b c d) 2) && ((k249 a (y250_0 a b c d)) && true)))) (.ok true (.ok true (.leaf ((y250_0 a b c d), (orI (orI (g179 (ltI (subI (subI c d) b) 0) 17) (g179 (y250_1 a b c d) 2)) (g249 a (y250_0 a b c d))))))))))))
def g250 (a : Int) (b : Int) (c : Int) (d : Int) : Int × Int := hid (T250 a b c d).val
def k250 (a : Int) (b : Int) (c : Int) (d : Int) : Bool := hid (T250 a b c d).okv
def n250 (a : Int) (b : Int) (c : Int) (d : Int) (r : Int × Int) : SV × List Blk := ((.tup [(.one (li r.1)), (.one (li r.2))]), [])
def q250 := DS44 (fun a b c d => n250 a b c d (g250 a b c d)) k250
theorem t250 : Con 100250 q250 := DS44_t fun a b c d hk => tz at250 Q277_ok [] [] true (T250 a b c d) (n250 a b c d) hk
def Q250 := qcons 100250 q250 Q277
theorem Q250_ok : QO Q250 := qcons_ok t250 Q277_ok
def AS45 (b : GIns) (a : Gl10M) : List SV := [(.one (.ptr 0 0 0)), (.agg [li b.Op, li b.Size, li b.Reg, li b.Ea.Mode, li b.Ea.Reg, li b.Ea.Ext, li b.Sub])]
def HS45 (b : GIns) (a : Gl10M) : List Blk := [.box [.sl 1 0 (ln a.fr.D), .sl 2 0 (ln a.fr.A), li a.fr.Other, li a.fr.PC, li a.fr.Flags, li a.fr.Mask, .lit (.bool a.fr.Super), .lit (.bool a.fr.Trace), .sl 3 0 (ln a.fbus.Bytes), .sl 4 0 (ln a.fbus.Log), .lit (.bool a.fstop), li a.ffault.Vector, li a.ffault.PC, li a.ffault.Addr, li a.ffault.Word, .lit (.bool a.ffault.Write)], .lst 1 a.fr.D, .lst 1 a.fr.A, .lst 1 a.fbus.Bytes, .lst 5 a.fbus.Log]
def DS45 (N : GIns → Gl10M → SV × List Blk) (K : GIns → Gl10M → Bool) : List SV → List Blk → Option ((SV × List Blk) × Bool)
 | [(.one (.ptr 0 0 0)), (.agg [li c0, li c1, li c2, li c3, li c4, li c5, li c6])], [.box [.sl 1 0 l1, .sl 2 0 l2, li c7, li c8, li c9, li c10, .lit (.bool c11), .lit (.bool c12), .sl 3 0 l3, .sl 4 0 l4, .lit (.bool c13), li c14, li c15, li c16, li c17, .lit (.bool c18)], .lst 1 c_1, .lst 1 c_2, .lst 1 c_3, .lst 5 c_4] => some (N (GIns.mk c0 c1 c2 (GOperand.mk c3 c4 c5) c6) (Gl10M.mk (GRegs.mk c_1 c_2 c7 c8 c9 c10 c11 c12) (GBus.mk c_3 c_4) c13 (GFault.mk c14 c15 c16 c17 c18)), eqN l1 (ln c_1) && (eqN l2 (ln c_2) && (eqN l3 (ln c_3) && (eqN l4 (ln c_4) && (K (GIns.mk c0 c1 c2 (GOperand.mk c3 c4 c5) c6) (Gl10M.mk (GRegs.mk c_1 c_2 c7 c8 c9 c10 c11 c12) (GBus.mk c_3 c_4) c13 (GFault.mk c14 c15 c16 c17 c18)))))))
 | _, _ => none
theorem DS45_t {N : GIns → Gl10M → SV × List Blk} {K : GIns → Gl10M → Bool} {f : Nat} (h : ∀ (b : GIns) (a : Gl10M), K b a = true → frzR R f (AS45 b a) (HS45 b a) = some (N b a)) : Con f (DS45 N K) := fun args hp r e => by
 unfold DS45 at e
 split at e
 ·rename_i c0 c1 c2 c3 c4 c5 c6 l1 l2 c7 c8 c9 c10 c11 c12 l3 l4 c13 c14 c15 c16 c17 c18 c_1 c_2 c_3 c_4
  obtain ⟨hr, hk⟩ := qp (qi e)
  obtain ⟨d0, hk0⟩ := and_t hk
  obtain ⟨d1, hk1⟩ := and_t hk0
  obtain ⟨d2, hk2⟩ := and_t hk1
  obtain ⟨d3, hk3⟩ := and_t hk2
  obtain rfl := of_decide_eq_true d0
  obtain rfl := of_decide_eq_true d1
  obtain rfl := of_decide_eq_true d2
  obtain rfl := of_decide_eq_true d3
  rw [← hr]
  exact h (GIns.mk c0 c1 c2 (GOperand.mk c3 c4 c5) c6) (Gl10M.mk (GRegs.mk c_1 c_2 c7 c8 c9 c10 c11 c12) (GBus.mk c_3 c_4) c13 (GFault.mk c14 c15 c16 c17 c18)) hk3
 ·simp at e
section
variable (b : GIns) (a : Gl10M)
def y217_0 : Bool := (eqN (ln a.fr.D) (ln a.fr.D))
def y217_1 : Bool := (eqN (ln a.fr.A) (ln a.fr.A))
def y217_2 : Bool := (eqN (ln a.fbus.Bytes) (ln a.fbus.Bytes))
def y217_3 : Bool := (eqN (ln a.fbus.Log) (ln a.fbus.Log))
def y217_4 : Bool := ((y217_0 a) && ((y217_1 a) && ((y217_2 a) && ((y217_3 a) && true))))
def y217_5 : Nat := (ln (g213 b.Size b.Ea a).1.fr.D)
def y217_6 : Nat := (ln (g213 b.Size b.Ea a).1.fr.A)
def y217_7 : Nat := (ln (g213 b.Size b.Ea a).1.fbus.Bytes)
def y217_8 : Nat := (ln (g213 b.Size b.Ea a).1.fbus.Log)
def y217_9 : Bool := ((eqN (y217_5 b a) (y217_5 b a)) && ((eqN (y217_6 b a) (y217_6 b a)) && ((eqN (y217_7 b a) (y217_7 b a)) && ((eqN (y217_8 b a) (y217_8 b a)) && true))))
def y217_10 : Bool := (((y217_9 b a) && (y217_9 b a)) && true)
def y217_11 : Int := (bif (eqI b.Sub 1) then (g250 b.Size 0 0 0).1 else (bif (eqI b.Sub 2) then (subI (subI (g248 b.Size) 1) 0) else 0))
def y217_12 : Gl10M := (g215 b.Size b.Ea (g213 b.Size b.Ea a).2 (y217_11 b) (g213 b.Size b.Ea a).1)
def y217_13 : Bool := ((eqN (ln (y217_12 b a).fr.D) (ln (y217_12 b a).fr.D)) && ((eqN (ln (y217_12 b a).fr.A) (ln (y217_12 b a).fr.A)) && ((eqN (ln (y217_12 b a).fbus.Bytes) (ln (y217_12 b a).fbus.Bytes)) && ((eqN (ln (y217_12 b a).fbus.Log) (ln (y217_12 b a).fbus.Log)) && true))))
def y217_14 : Int := (bif (eqI b.Sub 1) then (g250 b.Size 0 0 0).2 else (bif (eqI b.Sub 2) then (g216 b.Size (g213 b.Size b.Ea a).1.fr.Flags (subI (subI (g248 b.Size) 1) 0)) else (g216 b.Size (g213 b.Size b.Ea a).1.fr.Flags 0)))
def y217_15 : Nat := (ln (g212 b.Size b.Ea a).1.fr.D)
def y217_16 : Nat := (ln (g212 b.Size b.Ea a).1.fr.A)
def y217_17 : Nat := (ln (g212 b.Size b.Ea a).1.fbus.Bytes)
def y217_18 : Nat := (ln (g212 b.Size b.Ea a).1.fbus.Log)
def y217_19 : Bool := ((eqN (y217_15 b a) (y217_15 b a)) && ((eqN (y217_16 b a) (y217_16 b a)) && ((eqN (y217_17 b a) (y217_17 b a)) && ((eqN (y217_18 b a) (y217_18 b a)) && true))))
def y217_20 : Bool := (((y217_19 b a) && (y217_19 b a)) && true)
def y217_21 : Int := (subI (subI (g248 b.Size) 1) (g212 b.Size b.Ea a).2.1)
def y217_22 : Int × Int := (g250 b.Size 0 0 (g212 b.Size b.Ea a).2.1)
def y217_23 : Int := (bif (eqI b.Sub 1) then (y217_22 b a).1 else (bif (eqI b.Sub 2) then (y217_21 b a) else (g212 b.Size b.Ea a).2.1))
def y217_24 : Gl10M := (g215 b.Size b.Ea (g212 b.Size b.Ea a).2.2 (y217_23 b a) (g212 b.Size b.Ea a).1)
def y217_25 : Bool := ((eqN (ln (y217_24 b a).fr.D) (ln (y217_24 b a).fr.D)) && ((eqN (ln (y217_24 b a).fr.A) (ln (y217_24 b a).fr.A)) && ((eqN (ln (y217_24 b a).fbus.Bytes) (ln (y217_24 b a).fbus.Bytes)) && ((eqN (ln (y217_24 b a).fbus.Log) (ln (y217_24 b a).fbus.Log)) && true))))
def y217_26 : Int := (bif (eqI b.Sub 1) then (y217_22 b a).2 else (bif (eqI b.Sub 2) then (g216 b.Size (g212 b.Size b.Ea a).1.fr.Flags (y217_21 b a)) else (g216 b.Size (g212 b.Size b.Ea a).1.fr.Flags (g212 b.Size b.Ea a).2.1)))
end
def T217 (b : GIns) (a : Gl10M) : Pt (Gl10M) := (.ok true (.ok true (.ok true (.ok true (.br (eqI b.Sub 0) (.ok (((((y217_4 a) && (y217_4 a)) && true) && ((y217_0 a) && ((y217_1 a) && ((y217_2 a) && ((y217_3 a) && (k213 b.Size b.Ea a)))))) && true) (.ok (((y217_10 b a) && ((eqN (y217_5 b a) (y217_5 b a)) && ((eqN (y217_6 b a) (y217_6 b a)) && ((eqN (y217_7 b a) (y217_7 b a)) && ((eqN (y217_8 b a) (y217_8 b a)) && (k81 (g213 b.Size b.Ea a).1)))))) && true) (.br (!(g81 (g213 b.Size b.Ea a).1)) (.ok (y217_10 b a) (.leaf (g213 b.Size b.Ea a).1)) (.ok ((k216 b.Size (g213 b.Size b.Ea a).1.fr.Flags 0) && true) (.ok true (.ok true (.ok ((((k250 b.Size 0 0 0) && true) || (!(eqI b.Sub 1))) && ((((((k248 b.Size) && true) && ((k216 b.Size (g213 b.Size b.Ea a).1.fr.Flags (subI (subI (g248 b.Size) 1) 0)) && true)) || (!(eqI b.Sub 2))) && true) || (eqI b.Sub 1))) (.ok true (.br (ltI b.Sub 3) (.ok (((y217_10 b a) && ((eqN (y217_5 b a) (y217_5 b a)) && ((eqN (y217_6 b a) (y217_6 b a)) && ((eqN (y217_7 b a) (y217_7 b a)) && ((eqN (y217_8 b a) (y217_8 b a)) && (k215 b.Size b.Ea (g213 b.Size b.Ea a).2 (y217_11 b) (g213 b.Size b.Ea a).1)))))) && true) (.ok true (.ok (((y217_13 b a) && (y217_13 b a)) && true) (.leaf { (y217_12 b a) with fr := { (y217_12 b a).fr with Flags := (y217_14 b a) } })))) (.ok true (.ok (y217_10 b a) (.leaf { (g213 b.Size b.Ea a).1 with fr := { (g213 b.Size b.Ea a).1.fr with Flags := (y217_14 b a) } })))))))))))) (.ok (((((y217_4 a) && (y217_4 a)) && true) && ((y217_0 a) && ((y217_1 a) && ((y217_2 a) && ((y217_3 a) && (k212 b.Size b.Ea a)))))) && true) (.ok (((y217_20 b a) && ((eqN (y217_15 b a) (y217_15 b a)) && ((eqN (y217_16 b a) (y217_16 b a)) && ((eqN (y217_17 b a) (y217_17 b a)) && ((eqN (y217_18 b a) (y217_18 b a)) && (k81 (g212 b.Size b.Ea a).1)))))) && true) (.br (!(g81 (g212 b.Size b.Ea a).1)) (.ok (y217_20 b a) (.leaf (g212 b.Size b.Ea a).1)) (.ok ((k216 b.Size (g212 b.Size b.Ea a).1.fr.Flags (g212 b.Size b.Ea a).2.1) && true) (.ok true (.ok true (.ok ((((k250 b.Size 0 0 (g212 b.Size b.Ea a).2.1) && true) || (!(eqI b.Sub 1))) && ((((((k248 b.Size) && true) && ((k216 b.Size (g212 b.Size b.Ea a).1.fr.Flags (y217_21 b a)) && true)) || (!(eqI b.Sub 2))) && true) || (eqI b.Sub 1))) (.ok true (.br (ltI b.Sub 3) (.ok (((y217_20 b a) && ((eqN (y217_15 b a) (y217_15 b a)) && ((eqN (y217_16 b a) (y217_16 b a)) && ((eqN (y217_17 b a) (y217_17 b a)) && ((eqN (y217_18 b a) (y217_18 b a)) && (k215 b.Size b.Ea (g212 b.Size b.Ea a).2.2 (y217_23 b a) (g212 b.Size b.Ea a).1)))))) && true) (.ok true (.ok (((y217_25 b a) && (y217_25 b a)) && true) (.leaf { (y217_24 b a) with fr := { (y217_24 b a).fr with Flags := (y217_26 b a) } })))) (.ok true (.ok (y217_20 b a) (.leaf { (g212 b.Size b.Ea a).1 with fr := { (g212 b.Size b.Ea a).1.fr with Flags := (y217_26 b a) } })))))))))))))))))
def g217 (b : GIns) (a : Gl10M) : Gl10M := hid (T217 b a).val
def k217 (b : GIns) (a : Gl10M) : Bool := hid (T217 b a).okv
def n217 (b : GIns) (a : Gl10M) (r : Gl10M) : SV × List Blk := ((.tup []), [.box [.sl 1 0 (ln r.fr.D), .sl 2 0 (ln r.fr.A), li r.fr.Other, li r.fr.PC, li r.fr.Flags, li r.fr.Mask, .lit (.bool r.fr.Super), .lit (.bool r.fr.Trace), .sl 3 0 (ln r.fbus.Bytes), .sl 4 0 (ln r.fbus.Log), .lit (.bool r.fstop), li r.ffault.Vector, li r.ffault.PC, li r.ffault.Addr, li r.ffault.Word, .lit (.bool r.ffault.Write)], .lst 1 r.fr.D, .lst 1 r.fr.A, .lst 1 r.fbus.Bytes, .lst 5 r.fbus.Log])
def q217 := DS45 (fun b a => n217 b a (g217 b a)) k217
theorem t217 : Con 217 q217 := DS45_t fun b a hk => tc at217 Q250_ok [(8, K0), (12, K0), (14, K4), (19, K0), (21, K4), (29, K0), (34, K0), (38, K0), (43, K0), (51, K0), (57, K0), (62, K0), (66, K0), (70, K0), (72, K4)] [] true (T217 b a) (n217 b a) hk
def Q217 := qcons 217 q217 Q250
theorem Q217_ok : QO Q217 := qcons_ok t217 Q250_ok
def T278 (a : Int) : Pt (Bool) := (.ok true (.ok true (.ok true (.ok true (.leaf (eqI (andI a 1) 0))))))
def g278 (a : Int) : Bool := hid (T278 a).val
def k278 (a : Int) : Bool := hid (T278 a).okv
def q278 := DS2 (fun a => n240 a (g278 a)) k278
theorem t278 : Con 100278 q278 := DS2_t fun a hk => tz at278 Q217_ok [] [] true (T278 a) (n240 a) hk
def Q278 := qcons 100278 q278 Q217
theorem Q278_ok : QO Q278 := qcons_ok t278 Q217_ok
section
variable (a : Int) (b : Int) (c : Int) (d : Int)
def y251_0 : Bool := (bif (eqI a 6) then (eqI a 6) else (eqI a 7))
def y251_1 : Bool := (bif (eqI a 4) then (eqI a 4) else (eqI a 5))
def y251_2 : Int := (g179 (geI d (quoI (g248 b) 2)) 1)
def y251_3 : Int := (bif (g278 a) then (y251_2 b d) else (andI d 1))
def y251_4 : Int := (bif (eqI a 1) then (y251_2 b d) else (bif (y251_1 a) then (y251_3 a b d) else (bif (y251_0 a) then (g179 (neI (andI c 16) 0) 1) else 0)))
def y251_5 : Int := (bif (g278 a) then (orI (andI (shlI d 1) (subI (mulI 2 (quoI (g248 b) 2)) 1)) (y251_4 a b c d)) else (orI (shrI d 1) (mulI (y251_4 a b c d) (quoI (g248 b) 2))))
def y251_6 : Bool := (geI (y251_5 a b c d) (quoI (g248 b) 2))
def y251_7 : Bool := (bif (eqI a 0) then (neI (y251_2 b d) (g179 (y251_6 a b c d) 1)) else false)
def y251_8 : Int := (orI (orI (y251_3 a b d) (g249 b (y251_5 a b c d))) (g179 (y251_7 a b c d) 2))
end
def T251 (a : Int) (b : Int) (c : Int) (d : Int) : Pt (Int × Int) := (.ok true (.ok ((k248 b) && true) (.ok ((k179 (geI d (quoI (g248 b) 2)) 1) && true) (.ok true (.ok true (.ok ((k278 a) && true) (.ok true (.ok true (.ok true (.ok ((((((k179 (neI (andI c 16) 0) 1) && true) || (!(y251_0 a))) && true) || (y251_1 a)) || (eqI a 1)) (.ok true (.ok ((k278 a) && true) (.ok true (.ok ((k249 b (y251_5 a b c d)) && ((((k179 (y251_6 a b c d) 1) && true) || (!(eqI a 0))) && ((k179 (y251_7 a b c d) 2) && true))) (.ok true (.br (bif (eqI a 4) then true else (eqI a 5)) (.ok true (.ok true (.ok true (.leaf ((y251_5 a b c d), (orI (y251_8 a b c d) (andI c 16))))))) (.ok true (.ok true (.ok true (.leaf ((y251_5 a b c d), (orI (y251_8 a b c d) (mulI (y251_3 a b d) 16)))))))))))))))))))))))
def g251 (a : Int) (b : Int) (c : Int) (d : Int) : Int × Int := hid (T251 a b c d).val
def k251 (a : Int) (b : Int) (c : Int) (d : Int) : Bool := hid (T251 a b c d).okv
def q251 := DS44 (fun a b c d => n250 a b c d (g251 a b c d)) k251
theorem t251 : Con 100251 q251 := DS44_t fun a b c d hk => tz at251 Q278_ok [] [] true (T251 a b c d) (n250 a b c d) hk
def Q251 := qcons 100251 q251 Q278
theorem Q251_ok : QO Q251 := qcons_ok t251 Q278_ok
def AS46 (a : Int) (b : Int) (c : Int) (d : Int) (o : Int) : List SV := [(.one (li a)), (.one (li b)), (.one (li c)), (.one (li d)), (.one (li o))]
def HS46 (a : Int) (b : Int) (c : Int) (d : Int) (o : Int) : List Blk := []
def DS46 (N : Int → Int → Int → Int → Int → SV × List Blk) (K : Int → Int → Int → Int → Int → Bool) : List SV → List Blk → Option ((SV × List Blk) × Bool)
 | [(.one (li c0)), (.one (li c1)), (.one (li c2)), (.one (li c3)), (.one (li c4))], [] => some (N c0 c1 c2 c3 c4, K c0 c1 c2 c3 c4)
 | _, _ => none
theorem DS46_t {N : Int → Int → Int → Int → Int → SV × List Blk} {K : Int → Int → Int → Int → Int → Bool} {f : Nat} (h : ∀ (a : Int) (b : Int) (c : Int) (d : Int) (o : Int), K a b c d o = true → frzR R f (AS46 a b c d o) (HS46 a b c d o) = some (N a b c d o)) : Con f (DS46 N K) := fun _ _ _ e => by
 unfold DS46 at e
 split at e
 ·exact dsf e (h _ _ _ _ _)
 ·cases e
structure V218_0 where
 mk ::
 (s0 : Int)
 (s1 : Int)
 (s2 : Int)
 (s3 : Int)
 (s4 : Int)
 (s13 : Int)
section
variable (v : V218_0)
def y218_0_l_0 : Int × Int := (g251 v.s0 v.s1 v.s2 v.s3)
end
def N218_0 (v : V218_0) : Pt (Option V218_0) := (.ok true (.br (gtI v.s4 0) (.ok ((k251 v.s0 v.s1 v.s2 v.s3) && true) (.ok true (.ok true (.ok true (.ok true (.ok true (.leaf (some (V218_0.mk v.s0 v.s1 (y218_0_l_0 v).2 (y218_0_l_0 v).1 (subI v.s4 1) (orI v.s13 (andI (y218_0_l_0 v).2 2))))))))))) (.leaf none)))
def s218_0 (v : V218_0) : St := ⟨[(0, (.one (li v.s0))), (1, (.one (li v.s1))), (2, (.one (li v.s2))), (3, (.one (li v.s3))), (4, (.one (li v.s4))), (13, (.one (li v.s13)))], []⟩
def u218_0 : St → Option (V218_0 × Bool)
 | ⟨[(0, (.one (li c0))), (1, (.one (li c1))), (2, (.one (li c2))), (3, (.one (li c3))), (4, (.one (li c4))), (13, (.one (li c5)))], []⟩ => some ((V218_0.mk c0 c1 c2 c3 c4 c5), true)
 | _ => none
def ev218_0 : St → Option (Pt Out) := evp Q251 [] [] true [] 0 2097152 F218b0
theorem hN218_0 (v : V218_0) : ((ev218_0 (s218_0 v)).bind (stpT true false 0 [0, 1, 2, 3, 4, 13])) = some ((N218_0 v).map (Option.map s218_0)) := by kernel_rfl
theorem hu218_0 (σ : St) (v : V218_0) (h : u218_0 σ = some (v, true)) : σ = s218_0 v := by
 unfold u218_0 at h
 split at h
 ·obtain ⟨hr, hk⟩ := qp (qi h)
  rw [← hr]
  rfl
 ·simp at h
theorem lt218_0 : TellsP (lqP true false 0 [0, 1, 2, 3, 4, 13] ev218_0 u218_0 s218_0 N218_0 2097152) (evc R 0 2097152 (.loop [0, 1, 2, 3, 4, 13] F218b0)) := lqP_tells (evp_tells Q251_ok (loops_of (l := []) (by kernel_rfl) trivial)) hu218_0 hN218_0
def lq218_0 : Lp   := (34, lqP true false 0 [0, 1, 2, 3, 4, 13] ev218_0 u218_0 s218_0 N218_0 2097152) :: []
def w218_0 (v : V218_0) : V218_0 := (hid (loopV N218_0 2097152 v)).getD v
def i218_0 (v : V218_0) : Bool := (hid (loopV N218_0 2097152 v)).isSome
section
variable (a : Int) (b : Int) (c : Int) (d : Int) (o : Int)
def y218_0 : Bool := (bif (neI (andI c 16) 0) then (geI a 6) else false)
def y218_1 : V218_0 := (w218_0 (V218_0.mk a b c d o 0))
end
def T218 (a : Int) (b : Int) (c : Int) (d : Int) (o : Int) : Pt (Int × Int) := (.ok true (.ok true (.br (eqI o 0) (.ok true (.ok ((k249 b d) && ((k179 (y218_0 a c) 1) && true)) (.ok true (.ok true (.leaf (d, (orI (orI (andI c 16) (g249 b d)) (g179 (y218_0 a c) 1)))))))) (.ok true (.ok true (.ok true (.ok (i218_0 (V218_0.mk a b c d o 0)) (.ok true (.ok true (.ok true (.leaf ((y218_1 a b c d o).s3, (orI (y218_1 a b c d o).s2 (y218_1 a b c d o).s13)))))))))))))
def g218 (a : Int) (b : Int) (c : Int) (d : Int) (o : Int) : Int × Int := hid (T218 a b c d o).val
def k218 (a : Int) (b : Int) (c : Int) (d : Int) (o : Int) : Bool := hid (T218 a b c d o).okv
def n218 (a : Int) (b : Int) (c : Int) (d : Int) (o : Int) (r : Int × Int) : SV × List Blk := ((.tup [(.one (li r.1)), (.one (li r.2))]), [])
def q218 := DS46 (fun a b c d o => n218 a b c d o (g218 a b c d o)) k218
theorem hL218 : Loops (fun live x => TellsP (lpAt lq218_0 (tagC x)) (evc R 0 2097152 (.loop live x))) F218.body := (loops_of (l := [([0, 1, 2, 3, 4, 13], F218b0)]) (by kernel_rfl) ⟨tellsAt (n := 34) (by kernel_rfl) fun σ σr t h ho hl => lt218_0 σ σr t h ho hl, trivial⟩)
theorem t218 : Con 100218 q218 := DS46_t fun a b c d o hk => tzl at218 Q251_ok hL218 [] [] true (T218 a b c d o) (n218 a b c d o) hk
def Q218 := qcons 100218 q218 Q251
theorem Q218_ok : QO Q218 := qcons_ok t218 Q251_ok
section
variable (b : Int)
def y279_0 : Bool := (eqB (neI (andI b 8) 0) (neI (andI b 2) 0))
end
def T279 (a : Int) (b : Int) : Pt (Bool) := (.ok true (.ok true (.ok true (.ok true (.br (eqI a 2) (.ok true (.ok true (.ok true (.leaf (eqI (andI b 5) 0))))) (.ok true (.br (eqI a 4) (.ok true (.ok true (.ok true (.leaf (eqI (andI b 1) 0))))) (.ok true (.br (eqI a 6) (.ok true (.ok true (.ok true (.leaf (eqI (andI b 4) 0))))) (.ok true (.br (eqI a 8) (.ok true (.ok true (.ok true (.leaf (eqI (andI b 2) 0))))) (.ok true (.br (eqI a 10) (.ok true (.ok true (.ok true (.leaf (eqI (andI b 8) 0))))) (.ok true (.br (eqI a 12) (.ok true (.ok true (.ok true (.leaf (y279_0 b))))) (.ok true (.br (eqI a 14) (.ok true (.ok true (.ok true (.leaf (bif (y279_0 b) then (eqI (andI b 4) 0) else false))))) (.ok true (.ok true (.ok true (.leaf true)))))))))))))))))))))
def g279 (a : Int) (b : Int) : Bool := hid (T279 a b).val
def k279 (a : Int) (b : Int) : Bool := hid (T279 a b).okv
def q279 := DS17 (fun a b => n229 a b (g279 a b)) k279
theorem t279 : Con 100279 q279 := DS17_t fun a b hk => tz at279 Q218_ok [] [] true (T279 a b) (n229 a b) hk
def Q279 := qcons 100279 q279 Q218
theorem Q279_ok : QO Q279 := qcons_ok t279 Q218_ok
def T252 (a : Int) (b : Int) : Pt (Bool) := (.ok true (.ok ((k279 (andNotI a 1) b) && true) (.ok true (.ok true (.leaf (eqB (g279 (andNotI a 1) b) (eqI (andI a 1) 0)))))))
def g252 (a : Int) (b : Int) : Bool := hid (T252 a b).val
def k252 (a : Int) (b : Int) : Bool := hid (T252 a b).okv
def q252 := DS17 (fun a b => n229 a b (g252 a b)) k252
theorem t252 : Con 100252 q252 := DS17_t fun a b hk => tz at252 Q279_ok [] [] true (T252 a b) (n229 a b) hk
def Q252 := qcons 100252 q252 Q279
theorem Q252_ok : QO Q252 := qcons_ok t252 Q279_ok
def AS47 (b : GIns) (c : Int) (a : Gl10M) : List SV := [(.one (.ptr 0 0 0)), (.agg [li b.Op, li b.Size, li b.Reg, li b.Ea.Mode, li b.Ea.Reg, li b.Ea.Ext, li b.Sub]), (.one (li c))]
def HS47 (b : GIns) (c : Int) (a : Gl10M) : List Blk := [.box [.sl 1 0 (ln a.fr.D), .sl 2 0 (ln a.fr.A), li a.fr.Other, li a.fr.PC, li a.fr.Flags, li a.fr.Mask, .lit (.bool a.fr.Super), .lit (.bool a.fr.Trace), .sl 3 0 (ln a.fbus.Bytes), .sl 4 0 (ln a.fbus.Log), .lit (.bool a.fstop), li a.ffault.Vector, li a.ffault.PC, li a.ffault.Addr, li a.ffault.Word, .lit (.bool a.ffault.Write)], .lst 1 a.fr.D, .lst 1 a.fr.A, .lst 1 a.fbus.Bytes, .lst 5 a.fbus.Log]
def DS47 (N : GIns → Int → Gl10M → SV × List Blk) (K : GIns → Int → Gl10M → Bool) : List SV → List Blk → Option ((SV × List Blk) × Bool)
 | [(.one (.ptr 0 0 0)), (.agg [li c0, li c1, li c2, li c3, li c4, li c5, li c6]), (.one (li c7))], [.box [.sl 1 0 l1, .sl 2 0 l2, li c8, li c9, li c10, li c11, .lit (.bool c12), .lit (.bool c13), .sl 3 0 l3, .sl 4 0 l4, .lit (.bool c14), li c15, li c16, li c17, li c18, .lit (.bool c19)], .lst 1 c_1, .lst 1 c_2, .lst 1 c_3, .lst 5 c_4] => some (N (GIns.mk c0 c1 c2 (GOperand.mk c3 c4 c5) c6) c7 (Gl10M.mk (GRegs.mk c_1 c_2 c8 c9 c10 c11 c12 c13) (GBus.mk c_3 c_4) c14 (GFault.mk c15 c16 c17 c18 c19)), eqN l1 (ln c_1) && (eqN l2 (ln c_2) && (eqN l3 (ln c_3) && (eqN l4 (ln c_4) && (K (GIns.mk c0 c1 c2 (GOperand.mk c3 c4 c5) c6) c7 (Gl10M.mk (GRegs.mk c_1 c_2 c8 c9 c10 c11 c12 c13) (GBus.mk c_3 c_4) c14 (GFault.mk c15 c16 c17 c18 c19)))))))
 | _, _ => none
theorem DS47_t {N : GIns → Int → Gl10M → SV × List Blk} {K : GIns → Int → Gl10M → Bool} {f : Nat} (h : ∀ (b : GIns) (c : Int) (a : Gl10M), K b c a = true → frzR R f (AS47 b c a) (HS47 b c a) = some (N b c a)) : Con f (DS47 N K) := fun args hp r e => by
 unfold DS47 at e
 split at e
 ·rename_i c0 c1 c2 c3 c4 c5 c6 c7 l1 l2 c8 c9 c10 c11 c12 c13 l3 l4 c14 c15 c16 c17 c18 c19 c_1 c_2 c_3 c_4
  obtain ⟨hr, hk⟩ := qp (qi e)
  obtain ⟨d0, hk0⟩ := and_t hk
  obtain ⟨d1, hk1⟩ := and_t hk0
  obtain ⟨d2, hk2⟩ := and_t hk1
  obtain ⟨d3, hk3⟩ := and_t hk2
  obtain rfl := of_decide_eq_true d0
  obtain rfl := of_decide_eq_true d1
  obtain rfl := of_decide_eq_true d2
  obtain rfl := of_decide_eq_true d3
  rw [← hr]
  exact h (GIns.mk c0 c1 c2 (GOperand.mk c3 c4 c5) c6) c7 (Gl10M.mk (GRegs.mk c_1 c_2 c8 c9 c10 c11 c12 c13) (GBus.mk c_3 c_4) c14 (GFault.mk c15 c16 c17 c18 c19)) hk3
 ·simp at e
section
variable (b : GIns) (a : Gl10M)
def y220_0 : Bool := (eqN (ln a.fr.D) (ln a.fr.D))
def y220_1 : Bool := (eqN (ln a.fr.A) (ln a.fr.A))
def y220_2 : Bool := (eqN (ln a.fbus.Bytes) (ln a.fbus.Bytes))
def y220_3 : Bool := (eqN (ln a.fbus.Log) (ln a.fbus.Log))
def y220_4 : Bool := ((y220_0 a) && ((y220_1 a) && ((y220_2 a) && ((y220_3 a) && true))))
def y220_5 : Bool := (eqN (ln (g213 2 b.Ea a).1.fr.D) (ln (g213 2 b.Ea a).1.fr.D))
def y220_6 : Bool := (eqN (ln (g213 2 b.Ea a).1.fr.A) (ln (g213 2 b.Ea a).1.fr.A))
def y220_7 : Nat := (ln (g213 2 b.Ea a).1.fbus.Bytes)
def y220_8 : Nat := (ln (g213 2 b.Ea a).1.fbus.Log)
def y220_9 : Bool := ((y220_5 b a) && ((y220_6 b a) && ((eqN (y220_7 b a) (y220_7 b a)) && ((eqN (y220_8 b a) (y220_8 b a)) && true))))
def y220_10 : Bool := (((y220_9 b a) && (y220_9 b a)) && true)
def y220_11 : Gl10M := (g79 (g213 2 b.Ea a).1.fr.PC (g213 2 b.Ea a).1)
def y220_12 : Bool := (eqN (ln (y220_11 b a).fr.D) (ln (y220_11 b a).fr.D))
def y220_13 : Bool := (eqN (ln (y220_11 b a).fr.A) (ln (y220_11 b a).fr.A))
def y220_14 : Bool := (eqN (ln (y220_11 b a).fbus.Bytes) (ln (y220_11 b a).fbus.Bytes))
def y220_15 : Bool := (eqN (ln (y220_11 b a).fbus.Log) (ln (y220_11 b a).fbus.Log))
def y220_16 : Bool := ((y220_12 b a) && ((y220_13 b a) && ((y220_14 b a) && ((y220_15 b a) && true))))
def y220_17 : Bool := (((y220_16 b a) && (y220_16 b a)) && true)
end
def T220 (b : GIns) (c : Int) (a : Gl10M) : Pt (Gl10M) := (.ok true (.ok true (.br (eqI b.Op 13) (.ok ((k252 (addI b.Sub (mulI 8 b.Reg)) a.fr.Flags) && true) (.br (g252 (addI b.Sub (mulI 8 b.Reg)) a.fr.Flags) (.ok true (.ok (((y220_4 a) && (y220_4 a)) && true) (.leaf { a with fr := { a.fr with PC := (andI (addI (addI c 2) b.Ea.Ext) 65535) } }))) (.ok (((y220_4 a) && (y220_4 a)) && true) (.leaf a)))) (.ok (((((y220_4 a) && (y220_4 a)) && true) && ((y220_0 a) && ((y220_1 a) && ((y220_2 a) && ((y220_3 a) && (k213 2 b.Ea a)))))) && true) (.ok true (.br (eqI b.Sub 1) (.ok (((y220_10 b a) && ((y220_5 b a) && ((y220_6 b a) && ((eqN (y220_7 b a) (y220_7 b a)) && ((eqN (y220_8 b a) (y220_8 b a)) && (k79 (g213 2 b.Ea a).1.fr.PC (g213 2 b.Ea a).1)))))) && true) (.ok (((y220_17 b a) && ((y220_12 b a) && ((y220_13 b a) && ((y220_14 b a) && ((y220_15 b a) && (k81 (y220_11 b a))))))) && true) (.br (g81 (y220_11 b a)) (.ok true (.ok (y220_17 b a) (.leaf { (y220_11 b a) with fr := { (y220_11 b a).fr with PC := (g213 2 b.Ea a).2 } }))) (.ok (y220_17 b a) (.leaf (y220_11 b a)))))) (.ok (((y220_10 b a) && ((y220_5 b a) && ((y220_6 b a) && ((eqN (y220_7 b a) (y220_7 b a)) && ((eqN (y220_8 b a) (y220_8 b a)) && (k81 (g213 2 b.Ea a).1)))))) && true) (.br (g81 (g213 2 b.Ea a).1) (.ok true (.ok (y220_10 b a) (.leaf { (g213 2 b.Ea a).1 with fr := { (g213 2 b.Ea a).1.fr with PC := (g213 2 b.Ea a).2 } }))) (.ok (y220_10 b a) (.leaf (g213 2 b.Ea a).1))))))))))
def g220 (b : GIns) (c : Int) (a : Gl10M) : Gl10M := hid (T220 b c a).val
def k220 (b : GIns) (c : Int) (a : Gl10M) : Bool := hid (T220 b c a).okv
def n220 (b : GIns) (c : Int) (a : Gl10M) (r : Gl10M) : SV × List Blk := ((.tup []), [.box [.sl 1 0 (ln r.fr.D), .sl 2 0 (ln r.fr.A), li r.fr.Other, li r.fr.PC, li r.fr.Flags, li r.fr.Mask, .lit (.bool r.fr.Super), .lit (.bool r.fr.Trace), .sl 3 0 (ln r.fbus.Bytes), .sl 4 0 (ln r.fbus.Log), .lit (.bool r.fstop), li r.ffault.Vector, li r.ffault.PC, li r.ffault.Addr, li r.ffault.Word, .lit (.bool r.ffault.Write)], .lst 1 r.fr.D, .lst 1 r.fr.A, .lst 1 r.fbus.Bytes, .lst 5 r.fbus.Log])
def q220 := DS47 (fun b c a => n220 b c a (g220 b c a)) k220
theorem t220 : Con 220 q220 := DS47_t fun b c a hk => tc at220 Q252_ok [(8, K0), (11, K0), (13, K0), (20, K0), (27, K0), (35, K4), (38, K0), (45, K0)] [] true (T220 b c a) (n220 b c a) hk
def Q220 := qcons 220 q220 Q252
theorem Q220_ok : QO Q220 := qcons_ok t220 Q252_ok
def AS48 (a : GRegs) (b : Int) : List SV := [(.agg [.sl 0 0 (ln a.D), .sl 1 0 (ln a.A), li a.Other, li a.PC, li a.Flags, li a.Mask, .lit (.bool a.Super), .lit (.bool a.Trace)]), (.one (li b))]
def HS48 (a : GRegs) (b : Int) : List Blk := [.lst 1 a.D, .lst 1 a.A]
def DS48 (N : GRegs → Int → SV × List Blk) (K : GRegs → Int → Bool) : List SV → List Blk → Option ((SV × List Blk) × Bool)
 | [(.agg [.sl 0 0 l0, .sl 1 0 l1, li c0, li c1, li c2, li c3, .lit (.bool c4), .lit (.bool c5)]), (.one (li c6))], [.lst 1 c_0, .lst 1 c_1] => some (N (GRegs.mk c_0 c_1 c0 c1 c2 c3 c4 c5) c6, eqN l0 (ln c_0) && (eqN l1 (ln c_1) && (K (GRegs.mk c_0 c_1 c0 c1 c2 c3 c4 c5) c6)))
 | _, _ => none
theorem DS48_t {N : GRegs → Int → SV × List Blk} {K : GRegs → Int → Bool} {f : Nat} (h : ∀ (a : GRegs) (b : Int), K a b = true → frzR R f (AS48 a b) (HS48 a b) = some (N a b)) : Con f (DS48 N K) := fun args hp r e => by
 unfold DS48 at e
 split at e
 ·rename_i l0 l1 c0 c1 c2 c3 c4 c5 c6 c_0 c_1
  obtain ⟨hr, hk⟩ := qp (qi e)
  obtain ⟨d0, hk0⟩ := and_t hk
  obtain ⟨d1, hk1⟩ := and_t hk0
  obtain rfl := of_decide_eq_true d0
  obtain rfl := of_decide_eq_true d1
  rw [← hr]
  exact h (GRegs.mk c_0 c_1 c0 c1 c2 c3 c4 c5) c6 hk1
 ·simp at e
section
variable (a : GRegs)
def y167_0 : Bool := (eqN (ln a.D) (ln a.D))
def y167_1 : Bool := ((y167_0 a) && ((eqN (ln a.A) (ln (List.set a.A 3 (rowI a.Other)))) && true))
def y167_2 : Bool := ((y167_0 a) && ((eqN (ln a.A) (ln a.A)) && true))
end
def T167 (a : GRegs) (b : Int) : Pt (GRegs) := (.ok true (.ok true (.ok true (.br (!(eqB (neI (andI b 256) 0) a.Super)) (.ok ((ltI 3 (lenI a.A)) && ((hasRow [.int .i64] a.A 3 0) && true)) (.ok ((ltI 3 (lenI a.A)) && (((blt 3 (ln a.A)) && (beqN (rlen a.A 3) 1)) && true)) (.ok true (.ok true (.ok true (.ok true (.ok true (.ok true (.ok (((y167_1 a) && ((y167_2 a) && true)) && ((y167_1 a) && true)) (.leaf (GRegs.mk a.D (List.set a.A 3 (rowI a.Other)) (intAt a.A 3 0) a.PC (andI b 31) (andI (shrI b 5) 7) (neI (andI b 256) 0) (neI (andI b 512) 0)))))))))))) (.ok true (.ok true (.ok true (.ok true (.ok true (.ok (((y167_2 a) && ((y167_2 a) && true)) && ((y167_2 a) && true)) (.leaf { a with Flags := (andI b 31), Mask := (andI (shrI b 5) 7), Super := (neI (andI b 256) 0), Trace := (neI (andI b 512) 0) })))))))))))
def g167 (a : GRegs) (b : Int) : GRegs := hid (T167 a b).val
def k167 (a : GRegs) (b : Int) : Bool := hid (T167 a b).okv
def n167 (a : GRegs) (b : Int) (r : GRegs) : SV × List Blk := ((.agg [.sl 0 0 (ln r.D), .sl 1 0 (ln r.A), li r.Other, li r.PC, li r.Flags, li r.Mask, .lit (.bool r.Super), .lit (.bool r.Trace)]), [.lst 1 r.D, .lst 1 r.A])
def q167 := DS48 (fun a b => n167 a b (g167 a b)) k167
theorem t167 : Con 167 q167 := DS48_t fun a b hk => tc at167 Q220_ok [(12, K11), (15, K1), (16, K0), (17, K0), (19, K1), (21, K0), (22, K0), (38, K6), (1000001, [])] [] true (T167 a b) (n167 a b) hk
def Q167 := qcons 167 q167 Q220
theorem Q167_ok : QO Q167 := qcons_ok t167 Q220_ok
section
variable (a : Gl10M)
def y253_0 : Bool := ((eqN (ln a.fr.D) (ln a.fr.D)) && ((eqN (ln a.fr.A) (ln a.fr.A)) && ((eqN (ln a.fbus.Bytes) (ln a.fbus.Bytes)) && ((eqN (ln a.fbus.Log) (ln a.fbus.Log)) && true))))
end
def T253 (b : Int) (a : Gl10M) : Pt (Gl10M) := (.ok true (.ok true (.ok (((y253_0 a) && (y253_0 a)) && true) (.leaf { a with ffault := { a.ffault with Vector := b, PC := a.fr.PC } }))))
def g253 (b : Int) (a : Gl10M) : Gl10M := hid (T253 b a).val
def k253 (b : Int) (a : Gl10M) : Bool := hid (T253 b a).okv
def q253 := DS32 (fun b a => n79 b a (g253 b a)) k253
theorem t253 : Con 253 q253 := DS32_t fun b a hk => tc at253 Q167_ok [(14, K0)] [] true (T253 b a) (n79 b a) hk
def Q253 := qcons 253 q253 Q167
theorem Q253_ok : QO Q253 := qcons_ok t253 Q167_ok
def T254 (a : Int) : Pt (Int × Bool) := (.ok true (.ok ((k246 2 a) && true) (.br (!(g246 2 a)) (.ok true (.ok true (.ok true (.leaf (0, false))))) (.ok true (.ok true (.ok true (.leaf ((orI (shrI a 8) (shlI (andI a 255) 8)), true))))))))
def g254 (a : Int) : Int × Bool := hid (T254 a).val
def k254 (a : Int) : Bool := hid (T254 a).okv
def n254 (a : Int) (r : Int × Bool) : SV × List Blk := ((.tup [(.one (li r.1)), (.one (.lit (.bool r.2)))]), [])
def q254 := DS2 (fun a => n254 a (g254 a)) k254
theorem t254 : Con 100254 q254 := DS2_t fun a hk => tz at254 Q253_ok [] [] true (T254 a) (n254 a) hk
def Q254 := qcons 100254 q254 Q253
theorem Q254_ok : QO Q254 := qcons_ok t254 Q253_ok
def AS49 (b : Int) (c : Int) (d : Int) (a : Gl10M) : List SV := [(.one (.ptr 0 0 0)), (.one (li b)), (.one (li c)), (.one (li d))]
def HS49 (b : Int) (c : Int) (d : Int) (a : Gl10M) : List Blk := [.box [.sl 1 0 (ln a.fr.D), .sl 2 0 (ln a.fr.A), li a.fr.Other, li a.fr.PC, li a.fr.Flags, li a.fr.Mask, .lit (.bool a.fr.Super), .lit (.bool a.fr.Trace), .sl 3 0 (ln a.fbus.Bytes), .sl 4 0 (ln a.fbus.Log), .lit (.bool a.fstop), li a.ffault.Vector, li a.ffault.PC, li a.ffault.Addr, li a.ffault.Word, .lit (.bool a.ffault.Write)], .lst 1 a.fr.D, .lst 1 a.fr.A, .lst 1 a.fbus.Bytes, .lst 5 a.fbus.Log]
def DS49 (N : Int → Int → Int → Gl10M → SV × List Blk) (K : Int → Int → Int → Gl10M → Bool) : List SV → List Blk → Option ((SV × List Blk) × Bool)
 | [(.one (.ptr 0 0 0)), (.one (li c0)), (.one (li c1)), (.one (li c2))], [.box [.sl 1 0 l1, .sl 2 0 l2, li c3, li c4, li c5, li c6, .lit (.bool c7), .lit (.bool c8), .sl 3 0 l3, .sl 4 0 l4, .lit (.bool c9), li c10, li c11, li c12, li c13, .lit (.bool c14)], .lst 1 c_1, .lst 1 c_2, .lst 1 c_3, .lst 5 c_4] => some (N c0 c1 c2 (Gl10M.mk (GRegs.mk c_1 c_2 c3 c4 c5 c6 c7 c8) (GBus.mk c_3 c_4) c9 (GFault.mk c10 c11 c12 c13 c14)), eqN l1 (ln c_1) && (eqN l2 (ln c_2) && (eqN l3 (ln c_3) && (eqN l4 (ln c_4) && (K c0 c1 c2 (Gl10M.mk (GRegs.mk c_1 c_2 c3 c4 c5 c6 c7 c8) (GBus.mk c_3 c_4) c9 (GFault.mk c10 c11 c12 c13 c14)))))))
 | _, _ => none
theorem DS49_t {N : Int → Int → Int → Gl10M → SV × List Blk} {K : Int → Int → Int → Gl10M → Bool} {f : Nat} (h : ∀ (b : Int) (c : Int) (d : Int) (a : Gl10M), K b c d a = true → frzR R f (AS49 b c d a) (HS49 b c d a) = some (N b c d a)) : Con f (DS49 N K) := fun args hp r e => by
 unfold DS49 at e
 split at e
 ·rename_i c0 c1 c2 l1 l2 c3 c4 c5 c6 c7 c8 l3 l4 c9 c10 c11 c12 c13 c14 c_1 c_2 c_3 c_4
  obtain ⟨hr, hk⟩ := qp (qi e)
  obtain ⟨d0, hk0⟩ := and_t hk
  obtain ⟨d1, hk1⟩ := and_t hk0
  obtain ⟨d2, hk2⟩ := and_t hk1
  obtain ⟨d3, hk3⟩ := and_t hk2
  obtain rfl := of_decide_eq_true d0
  obtain rfl := of_decide_eq_true d1
  obtain rfl := of_decide_eq_true d2
  obtain rfl := of_decide_eq_true d3
  rw [← hr]
  exact h c0 c1 c2 (Gl10M.mk (GRegs.mk c_1 c_2 c3 c4 c5 c6 c7 c8) (GBus.mk c_3 c_4) c9 (GFault.mk c10 c11 c12 c13 c14)) hk3
 ·simp at e
section
variable (b : Int) (c : Int) (d : Int) (a : Gl10M)
def y255_0 : Bool := (eqN (ln a.fr.D) (ln a.fr.D))
def y255_1 : Bool := (eqN (ln a.fr.A) (ln a.fr.A))
def y255_2 : GRegs := (g219 { a.fr with Flags := (g216 b a.fr.Flags d) } b c d)
def y255_3 : Bool := ((eqN (ln (y255_2 b c d a).D) (ln (y255_2 b c d a).D)) && ((eqN (ln (y255_2 b c d a).A) (ln (y255_2 b c d a).A)) && ((eqN (ln a.fbus.Bytes) (ln a.fbus.Bytes)) && ((eqN (ln a.fbus.Log) (ln a.fbus.Log)) && true))))
end
def T255 (b : Int) (c : Int) (d : Int) (a : Gl10M) : Pt (Gl10M) := (.ok ((k216 b a.fr.Flags d) && true) (.ok (((((y255_0 a) && ((y255_1 a) && true)) && (((y255_0 a) && ((y255_1 a) && true)) && true)) && ((y255_0 a) && ((y255_1 a) && (k219 { a.fr with Flags := (g216 b a.fr.Flags d) } b c d)))) && true) (.ok (((y255_3 b c d a) && (y255_3 b c d a)) && true) (.leaf { a with fr := (y255_2 b c d a) }))))
def g255 (b : Int) (c : Int) (d : Int) (a : Gl10M) : Gl10M := hid (T255 b c d a).val
def k255 (b : Int) (c : Int) (d : Int) (a : Gl10M) : Bool := hid (T255 b c d a).okv
def n255 (b : Int) (c : Int) (d : Int) (a : Gl10M) (r : Gl10M) : SV × List Blk := ((.tup []), [.box [.sl 1 0 (ln r.fr.D), .sl 2 0 (ln r.fr.A), li r.fr.Other, li r.fr.PC, li r.fr.Flags, li r.fr.Mask, .lit (.bool r.fr.Super), .lit (.bool r.fr.Trace), .sl 3 0 (ln r.fbus.Bytes), .sl 4 0 (ln r.fbus.Log), .lit (.bool r.fstop), li r.ffault.Vector, li r.ffault.PC, li r.ffault.Addr, li r.ffault.Word, .lit (.bool r.ffault.Write)], .lst 1 r.fr.D, .lst 1 r.fr.A, .lst 1 r.fbus.Bytes, .lst 5 r.fbus.Log])
def q255 := DS49 (fun b c d a => n255 b c d a (g255 b c d a)) k255
theorem t255 : Con 255 q255 := DS49_t fun b c d a hk => tc at255 Q254_ok [(14, K0), (24, K6)] [] true (T255 b c d a) (n255 b c d a) hk
def Q255 := qcons 255 q255 Q254
theorem Q255_ok : QO Q255 := qcons_ok t255 Q254_ok
def T256 (a : Int) : Pt (Int × Bool) := (.ok true (.ok ((k246 1 a) && true) (.br (!(g246 1 a)) (.ok true (.ok true (.ok true (.leaf (0, false))))) (.ok ((k277 1 a) && true) (.ok true (.ok true (.leaf ((andI (g277 1 a) 65535), true))))))))
def g256 (a : Int) : Int × Bool := hid (T256 a).val
def k256 (a : Int) : Bool := hid (T256 a).okv
def q256 := DS2 (fun a => n254 a (g256 a)) k256
theorem t256 : Con 100256 q256 := DS2_t fun a hk => tz at256 Q255_ok [] [] true (T256 a) (n254 a) hk
def Q256 := qcons 100256 q256 Q255
theorem Q256_ok : QO Q256 := qcons_ok t256 Q255_ok
section
variable (b : GIns) (a : Gl10M)
def y221_0 : Bool := (eqN (ln a.fr.D) (ln a.fr.D))
def y221_1 : Bool := (eqN (ln a.fr.A) (ln a.fr.A))
def y221_2 : Bool := (eqN (ln a.fbus.Bytes) (ln a.fbus.Bytes))
def y221_3 : Bool := (eqN (ln a.fbus.Log) (ln a.fbus.Log))
def y221_4 : Bool := ((y221_0 a) && ((y221_1 a) && ((y221_2 a) && ((y221_3 a) && true))))
def y221_5 : Bool := (((((y221_4 a) && (y221_4 a)) && true) && ((y221_0 a) && ((y221_1 a) && ((y221_2 a) && ((y221_3 a) && (k85 a)))))) && true)
def y221_6 : Bool := (eqN (ln (g85 a).1.fr.D) (ln (g85 a).1.fr.D))
def y221_7 : Bool := (eqN (ln (g85 a).1.fr.A) (ln (g85 a).1.fr.A))
def y221_8 : Bool := (eqN (ln (g85 a).1.fbus.Bytes) (ln (g85 a).1.fbus.Bytes))
def y221_9 : Bool := (eqN (ln (g85 a).1.fbus.Log) (ln (g85 a).1.fbus.Log))
def y221_10 : Bool := ((y221_6 a) && ((y221_7 a) && ((y221_8 a) && ((y221_9 a) && true))))
def y221_11 : Bool := (eqN (ln (g85 (g85 a).1).1.fr.D) (ln (g85 (g85 a).1).1.fr.D))
def y221_12 : Bool := (eqN (ln (g85 (g85 a).1).1.fr.A) (ln (g85 (g85 a).1).1.fr.A))
def y221_13 : Nat := (ln (g85 (g85 a).1).1.fbus.Bytes)
def y221_14 : Nat := (ln (g85 (g85 a).1).1.fbus.Log)
def y221_15 : Bool := ((eqN (y221_13 a) (y221_13 a)) && ((eqN (y221_14 a) (y221_14 a)) && true))
def y221_16 : Bool := ((y221_11 a) && ((y221_12 a) && (y221_15 a)))
def y221_17 : GRegs := (g167 { (g85 (g85 a).1).1.fr with PC := (g85 (g85 a).1).2 } (andI (g85 a).2 1023))
def y221_18 : Bool := ((eqN (ln (y221_17 a).D) (ln (y221_17 a).D)) && ((eqN (ln (y221_17 a).A) (ln (y221_17 a).A)) && (y221_15 a)))
def y221_19 : Bool := ((eqN (ln (g167 a.fr b.Ea.Ext).D) (ln (g167 a.fr b.Ea.Ext).D)) && ((eqN (ln (g167 a.fr b.Ea.Ext).A) (ln (g167 a.fr b.Ea.Ext).A)) && ((y221_2 a) && ((y221_3 a) && true))))
def y221_20 : Gl10M := (g253 (addI 18 b.Reg) a)
def y221_21 : Bool := ((eqN (ln (y221_20 b a).fr.D) (ln (y221_20 b a).fr.D)) && ((eqN (ln (y221_20 b a).fr.A) (ln (y221_20 b a).fr.A)) && ((eqN (ln (y221_20 b a).fbus.Bytes) (ln (y221_20 b a).fbus.Bytes)) && ((eqN (ln (y221_20 b a).fbus.Log) (ln (y221_20 b a).fbus.Log)) && true))))
def y221_22 : Bool := ((leI 0 b.Reg) && (ltI b.Reg (lenI a.fr.D)))
def y221_23 : Bool := (hasRow [.int .i64] a.fr.D (0 + (Int.toNat b.Reg)) 0)
def y221_24 : Gl10M := (g255 2 b.Reg (g254 (intAt a.fr.D (0 + (Int.toNat b.Reg)) 0)).1 a)
def y221_25 : Bool := ((eqN (ln (y221_24 b a).fr.D) (ln (y221_24 b a).fr.D)) && ((eqN (ln (y221_24 b a).fr.A) (ln (y221_24 b a).fr.A)) && ((eqN (ln (y221_24 b a).fbus.Bytes) (ln (y221_24 b a).fbus.Bytes)) && ((eqN (ln (y221_24 b a).fbus.Log) (ln (y221_24 b a).fbus.Log)) && true))))
def y221_26 : Int := (andI (intAt a.fr.D (0 + (Int.toNat b.Reg)) 0) 255)
def y221_27 : Gl10M := (g255 2 b.Reg (g256 (y221_26 b a)).1 a)
def y221_28 : Bool := ((eqN (ln (y221_27 b a).fr.D) (ln (y221_27 b a).fr.D)) && ((eqN (ln (y221_27 b a).fr.A) (ln (y221_27 b a).fr.A)) && ((eqN (ln (y221_27 b a).fbus.Bytes) (ln (y221_27 b a).fbus.Bytes)) && ((eqN (ln (y221_27 b a).fbus.Log) (ln (y221_27 b a).fbus.Log)) && true))))
end
def T221 (b : GIns) (a : Gl10M) : Pt (Gl10M) := (.ok true (.ok true (.ok true (.br (eqI b.Sub 0) (.ok (y221_5 a) (.ok true (.ok (((y221_10 a) && (y221_10 a)) && true) (.leaf { (g85 a).1 with fr := { (g85 a).1.fr with PC := (g85 a).2 } })))) (.ok true (.br (eqI b.Sub 1) (.ok (y221_5 a) (.ok (((((y221_10 a) && (y221_10 a)) && true) && ((y221_6 a) && ((y221_7 a) && ((y221_8 a) && ((y221_9 a) && (k81 (g85 a).1)))))) && true) (.br (!(g81 (g85 a).1)) (.ok (((y221_10 a) && (y221_10 a)) && true) (.leaf (g85 a).1)) (.ok (((((y221_10 a) && (y221_10 a)) && true) && ((y221_6 a) && ((y221_7 a) && ((y221_8 a) && ((y221_9 a) && (k85 (g85 a).1)))))) && true) (.ok (((((y221_16 a) && (y221_16 a)) && true) && ((y221_11 a) && ((y221_12 a) && ((eqN (y221_13 a) (y221_13 a)) && ((eqN (y221_14 a) (y221_14 a)) && (k81 (g85 (g85 a).1).1)))))) && true) (.br (g81 (g85 (g85 a).1).1) (.ok true (.ok (((((y221_11 a) && ((y221_12 a) && true)) && (((y221_11 a) && ((y221_12 a) && true)) && true)) && ((y221_11 a) && ((y221_12 a) && (k167 { (g85 (g85 a).1).1.fr with PC := (g85 (g85 a).1).2 } (andI (g85 a).2 1023))))) && true) (.ok (((y221_18 a) && (y221_18 a)) && true) (.leaf { (g85 (g85 a).1).1 with fr := (y221_17 a) })))) (.ok (((y221_16 a) && (y221_16 a)) && true) (.leaf (g85 (g85 a).1).1)))))))) (.ok true (.br (eqI b.Sub 3) (.ok ((((((y221_0 a) && ((y221_1 a) && true)) && (((y221_0 a) && ((y221_1 a) && true)) && true)) && ((y221_0 a) && ((y221_1 a) && (k167 a.fr b.Ea.Ext)))) && true) && true) (.ok true (.ok (((y221_19 b a) && (y221_19 b a)) && true) (.leaf { a with fr := (g167 a.fr b.Ea.Ext), fstop := true })))) (.ok true (.br (eqI b.Sub 4) (.ok (((((y221_4 a) && (y221_4 a)) && true) && ((y221_0 a) && ((y221_1 a) && ((y221_2 a) && ((y221_3 a) && (k253 (addI 18 b.Reg) a)))))) && true) (.ok (((y221_21 b a) && (y221_21 b a)) && true) (.leaf (y221_20 b a)))) (.ok true (.br (eqI b.Sub 5) (.ok ((y221_22 b a) && ((y221_23 b a) && ((k254 (intAt a.fr.D (0 + (Int.toNat b.Reg)) 0)) && true))) (.ok (((((y221_4 a) && (y221_4 a)) && true) && ((y221_0 a) && ((y221_1 a) && ((y221_2 a) && ((y221_3 a) && (k255 2 b.Reg (g254 (intAt a.fr.D (0 + (Int.toNat b.Reg)) 0)).1 a)))))) && true) (.ok (((y221_25 b a) && (y221_25 b a)) && true) (.leaf (y221_24 b a))))) (.ok true (.br (eqI b.Sub 6) (.ok ((y221_22 b a) && ((y221_23 b a) && ((k256 (y221_26 b a)) && true))) (.ok (((((y221_4 a) && (y221_4 a)) && true) && ((y221_0 a) && ((y221_1 a) && ((y221_2 a) && ((y221_3 a) && (k255 2 b.Reg (g256 (y221_26 b a)).1 a)))))) && true) (.ok (((y221_28 b a) && (y221_28 b a)) && true) (.leaf (y221_27 b a))))) (.ok (((y221_4 a) && (y221_4 a)) && true) (.leaf a))))))))))))))))
def g221 (b : GIns) (a : Gl10M) : Gl10M := hid (T221 b a).val
def k221 (b : GIns) (a : Gl10M) : Bool := hid (T221 b a).okv
def q221 := DS45 (fun b a => n217 b a (g221 b a)) k221
theorem t221 : Con 221 q221 := DS45_t fun b a hk => tc at221 Q256_ok [(12, K0), (42, K6), (54, K6), (57, K0), (68, K0), (78, K1), (80, K0), (81, K0), (82, K0), (88, K0), (98, K1), (100, K0), (101, K0), (102, K0), (109, K0)] [] true (T221 b a) (n217 b a) hk
def Q221 := qcons 221 q221 Q256
theorem Q221_ok : QO Q221 := qcons_ok t221 Q256_ok
section
variable (b : GIns) (a : Gl10M)
def y222_0 : Bool := (eqN (ln a.fr.D) (ln a.fr.D))
def y222_1 : Bool := (eqN (ln a.fr.A) (ln a.fr.A))
def y222_2 : Bool := (eqN (ln a.fbus.Bytes) (ln a.fbus.Bytes))
def y222_3 : Bool := (eqN (ln a.fbus.Log) (ln a.fbus.Log))
def y222_4 : Bool := ((y222_0 a) && ((y222_1 a) && ((y222_2 a) && ((y222_3 a) && true))))
def y222_5 : Bool := (eqN (ln (g212 2 b.Ea a).1.fr.D) (ln (g212 2 b.Ea a).1.fr.D))
def y222_6 : Bool := (eqN (ln (g212 2 b.Ea a).1.fr.A) (ln (g212 2 b.Ea a).1.fr.A))
def y222_7 : Nat := (ln (g212 2 b.Ea a).1.fbus.Bytes)
def y222_8 : Nat := (ln (g212 2 b.Ea a).1.fbus.Log)
def y222_9 : Bool := ((y222_5 b a) && ((y222_6 b a) && ((eqN (y222_7 b a) (y222_7 b a)) && ((eqN (y222_8 b a) (y222_8 b a)) && true))))
def y222_10 : Bool := (((y222_9 b a) && (y222_9 b a)) && true)
def y222_11 : Int := (mulI (intAt (g212 2 b.Ea a).1.fr.D (0 + (Int.toNat b.Reg)) 0) (g212 2 b.Ea a).2.1)
def y222_12 : Gl10M := (g255 2 b.Reg (andI (y222_11 b a) 65535) (g212 2 b.Ea a).1)
def y222_13 : Bool := ((eqN (ln (y222_12 b a).fr.D) (ln (y222_12 b a).fr.D)) && ((eqN (ln (y222_12 b a).fr.A) (ln (y222_12 b a).fr.A)) && ((eqN (ln (y222_12 b a).fbus.Bytes) (ln (y222_12 b a).fbus.Bytes)) && ((eqN (ln (y222_12 b a).fbus.Log) (ln (y222_12 b a).fbus.Log)) && true))))
def y222_14 : Gl10M := (g253 5 (g212 2 b.Ea a).1)
def y222_15 : Bool := ((eqN (ln (y222_14 b a).fr.D) (ln (y222_14 b a).fr.D)) && ((eqN (ln (y222_14 b a).fr.A) (ln (y222_14 b a).fr.A)) && ((eqN (ln (y222_14 b a).fbus.Bytes) (ln (y222_14 b a).fbus.Bytes)) && ((eqN (ln (y222_14 b a).fbus.Log) (ln (y222_14 b a).fbus.Log)) && true))))
def y222_16 : Int := (quoI (intAt (g212 2 b.Ea a).1.fr.D (0 + (Int.toNat b.Reg)) 0) (g212 2 b.Ea a).2.1)
def y222_17 : Gl10M := (g255 2 b.Reg (y222_16 b a) (g212 2 b.Ea a).1)
def y222_18 : Bool := ((eqN (ln (y222_17 b a).fr.D) (ln (y222_17 b a).fr.D)) && ((eqN (ln (y222_17 b a).fr.A) (ln (y222_17 b a).fr.A)) && ((eqN (ln (y222_17 b a).fbus.Bytes) (ln (y222_17 b a).fbus.Bytes)) && ((eqN (ln (y222_17 b a).fbus.Log) (ln (y222_17 b a).fbus.Log)) && true))))
end
def T222 (b : GIns) (a : Gl10M) : Pt (Gl10M) := (.ok true (.ok (((((y222_4 a) && (y222_4 a)) && true) && ((y222_0 a) && ((y222_1 a) && ((y222_2 a) && ((y222_3 a) && (k212 2 b.Ea a)))))) && true) (.ok (((y222_10 b a) && ((y222_5 b a) && ((y222_6 b a) && ((eqN (y222_7 b a) (y222_7 b a)) && ((eqN (y222_8 b a) (y222_8 b a)) && (k81 (g212 2 b.Ea a).1)))))) && true) (.br (!(g81 (g212 2 b.Ea a).1)) (.ok (y222_10 b a) (.leaf (g212 2 b.Ea a).1)) (.ok (((leI 0 b.Reg) && (ltI b.Reg (lenI (g212 2 b.Ea a).1.fr.D))) && ((hasRow [.int .i64] (g212 2 b.Ea a).1.fr.D (0 + (Int.toNat b.Reg)) 0) && true)) (.ok true (.br (eqI b.Op 16) (.ok true (.ok (((y222_10 b a) && ((y222_5 b a) && ((y222_6 b a) && ((eqN (y222_7 b a) (y222_7 b a)) && ((eqN (y222_8 b a) (y222_8 b a)) && (k255 2 b.Reg (andI (y222_11 b a) 65535) (g212 2 b.Ea a).1)))))) && true) (.ok (((k179 (gtI (y222_11 b a) 65535) 2) && true) && true) (.ok (((y222_13 b a) && (y222_13 b a)) && true) (.leaf { (y222_12 b a) with fr := { (y222_12 b a).fr with Flags := (orI (y222_12 b a).fr.Flags (g179 (gtI (y222_11 b a) 65535) 2)) } }))))) (.ok true (.br (eqI (g212 2 b.Ea a).2.1 0) (.ok (((y222_10 b a) && ((y222_5 b a) && ((y222_6 b a) && ((eqN (y222_7 b a) (y222_7 b a)) && ((eqN (y222_8 b a) (y222_8 b a)) && (k253 5 (g212 2 b.Ea a).1)))))) && true) (.ok (((y222_15 b a) && (y222_15 b a)) && true) (.leaf (y222_14 b a)))) (.ok (((neI (g212 2 b.Ea a).2.1 0) && (((y222_10 b a) && ((y222_5 b a) && ((y222_6 b a) && ((eqN (y222_7 b a) (y222_7 b a)) && ((eqN (y222_8 b a) (y222_8 b a)) && (k255 2 b.Reg (y222_16 b a) (g212 2 b.Ea a).1)))))) && true)) && true) (.ok (((y222_18 b a) && (y222_18 b a)) && true) (.leaf (y222_17 b a)))))))))))))
def g222 (b : GIns) (a : Gl10M) : Gl10M := hid (T222 b a).val
def k222 (b : GIns) (a : Gl10M) : Bool := hid (T222 b a).okv
def q222 := DS45 (fun b a => n217 b a (g222 b a)) k222
theorem t222 : Con 222 q222 := DS45_t fun b a hk => tc at222 Q221_ok [(11, K4), (22, K1), (24, K0), (25, K0), (26, K0), (28, K0), (35, K0), (43, K0), (57, K0)] [] true (T222 b a) (n217 b a) hk
def Q222 := qcons 222 q222 Q221
theorem Q222_ok : QO Q222 := qcons_ok t222 Q221_ok
def T257 (a : Int) : Pt (Bool) := (.ok true (.ok ((k108 a 0 255) && true) (.ok true (.ok true (.leaf (bif (bif (g108 a 0 255) then (leI (shrI a 4) 9) else false) then (leI (andI a 15) 9) else false))))))
def g257 (a : Int) : Bool := hid (T257 a).val
def k257 (a : Int) : Bool := hid (T257 a).okv
def q257 := DS2 (fun a => n240 a (g257 a)) k257
theorem t257 : Con 100257 q257 := DS2_t fun a hk => tz at257 Q222_ok [] [] true (T257 a) (n240 a) hk
def Q257 := qcons 100257 q257 Q222
theorem Q257_ok : QO Q257 := qcons_ok t257 Q222_ok
def T280 (a : Int) : Pt (Int) := (.ok true (.ok true (.ok true (.ok true (.leaf (addI (mulI (shrI a 4) 10) (andI a 15)))))))
def g280 (a : Int) : Int := hid (T280 a).val
def k280 (a : Int) : Bool := hid (T280 a).okv
def q280 := DS2 (fun a => n262 a (g280 a)) k280
theorem t280 : Con 100280 q280 := DS2_t fun a hk => tz at280 Q257_ok [] [] true (T280 a) (n262 a) hk
def Q280 := qcons 100280 q280 Q257
theorem Q280_ok : QO Q280 := qcons_ok t280 Q257_ok
def T281 (a : Int) : Pt (Int) := (.ok true (.ok true (.ok true (.ok true (.leaf (orI (shlI (quoI a 10) 4) (remI a 10)))))))
def g281 (a : Int) : Int := hid (T281 a).val
def k281 (a : Int) : Bool := hid (T281 a).okv
def q281 := DS2 (fun a => n262 a (g281 a)) k281
theorem t281 : Con 100281 q281 := DS2_t fun a hk => tz at281 Q280_ok [] [] true (T281 a) (n262 a) hk
def Q281 := qcons 100281 q281 Q280
theorem Q281_ok : QO Q281 := qcons_ok t281 Q280_ok
section
variable (a : Int) (b : Int) (c : Int)
def y258_0 : Int := (remI (addI (addI (g280 b) (g280 c)) a) 100)
end
def T258 (a : Int) (b : Int) (c : Int) : Pt (Int × Int) := (.ok true (.ok ((k280 b) && ((k280 c) && true)) (.ok ((k281 (y258_0 a b c)) && true) (.ok true (.ok true (.leaf ((g281 (y258_0 a b c)), (quoI (addI (addI (g280 b) (g280 c)) a) 100))))))))
def g258 (a : Int) (b : Int) (c : Int) : Int × Int := hid (T258 a b c).val
def k258 (a : Int) (b : Int) (c : Int) : Bool := hid (T258 a b c).okv
def n258 (a : Int) (b : Int) (c : Int) (r : Int × Int) : SV × List Blk := ((.tup [(.one (li r.1)), (.one (li r.2))]), [])
def q258 := DS5 (fun a b c => n258 a b c (g258 a b c)) k258
theorem t258 : Con 100258 q258 := DS5_t fun a b c hk => tz at258 Q281_ok [] [] true (T258 a b c) (n258 a b c) hk
def Q258 := qcons 100258 q258 Q281
theorem Q258_ok : QO Q258 := qcons_ok t258 Q281_ok
section
variable (a : Int) (b : Int) (c : Int)
def y259_0 : Int := (addI (subI (subI (g280 b) (g280 c)) a) 100)
end
def T259 (a : Int) (b : Int) (c : Int) : Pt (Int × Int) := (.ok true (.ok ((k280 b) && ((k280 c) && true)) (.ok true (.br (ltI (subI (subI (g280 b) (g280 c)) a) 0) (.ok ((k281 (y259_0 a b c)) && true) (.ok true (.ok true (.leaf ((g281 (y259_0 a b c)), 1))))) (.ok ((k281 (subI (subI (g280 b) (g280 c)) a)) && true) (.ok true (.ok true (.leaf ((g281 (subI (subI (g280 b) (g280 c)) a)), 0)))))))))
def g259 (a : Int) (b : Int) (c : Int) : Int × Int := hid (T259 a b c).val
def k259 (a : Int) (b : Int) (c : Int) : Bool := hid (T259 a b c).okv
def q259 := DS5 (fun a b c => n258 a b c (g259 a b c)) k259
theorem t259 : Con 100259 q259 := DS5_t fun a b c hk => tz at259 Q258_ok [] [] true (T259 a b c) (n258 a b c) hk
def Q259 := qcons 100259 q259 Q258
theorem Q259_ok : QO Q259 := qcons_ok t259 Q258_ok
section
variable (b : GIns) (a : Gl10M)
def y223_0 : Int := (andI (intAt a.fr.D (0 + (Int.toNat b.Reg)) 0) 255)
def y223_1 : Int := (andI (intAt a.fr.D (0 + (Int.toNat b.Ea.Reg)) 0) 255)
def y223_2 : Bool := (eqN (ln a.fr.D) (ln a.fr.D))
def y223_3 : Bool := (eqN (ln a.fr.A) (ln a.fr.A))
def y223_4 : Bool := ((eqN (ln a.fbus.Bytes) (ln a.fbus.Bytes)) && ((eqN (ln a.fbus.Log) (ln a.fbus.Log)) && true))
def y223_5 : Bool := ((y223_2 a) && ((y223_3 a) && (y223_4 a)))
def y223_6 : Int := (g179 (neI (andI a.fr.Flags 16) 0) 1)
def y223_7 : Int × Int := (g259 (y223_6 a) (y223_0 b a) (y223_1 b a))
def y223_8 : Int × Int := (g258 (y223_6 a) (y223_0 b a) (y223_1 b a))
def y223_9 : Int := (bif (eqI b.Sub 1) then (y223_7 b a).1 else (y223_8 b a).1)
def y223_10 : GRegs := (g219 { a.fr with Flags := (orI (bif (eqI (y223_9 b a) 0) then (andI a.fr.Flags 4) else 0) (mulI (bif (eqI b.Sub 1) then (y223_7 b a).2 else (y223_8 b a).2) 17)) } 1 b.Reg (y223_9 b a))
def y223_11 : Bool := ((eqN (ln (y223_10 b a).D) (ln (y223_10 b a).D)) && ((eqN (ln (y223_10 b a).A) (ln (y223_10 b a).A)) && (y223_4 a)))
end
def T223 (b : GIns) (a : Gl10M) : Pt (Gl10M) := (.ok true (.ok (((leI 0 b.Reg) && (ltI b.Reg (lenI a.fr.D))) && ((hasRow [.int .i64] a.fr.D (0 + (Int.toNat b.Reg)) 0) && true)) (.ok (((leI 0 b.Ea.Reg) && (ltI b.Ea.Reg (lenI a.fr.D))) && ((hasRow [.int .i64] a.fr.D (0 + (Int.toNat b.Ea.Reg)) 0) && true)) (.ok ((k257 (y223_0 b a)) && ((((k257 (y223_1 b a)) && true) || (!(g257 (y223_0 b a)))) && true)) (.br (bif (!(g257 (y223_0 b a))) then true else (!(g257 (y223_1 b a)))) (.ok true (.ok (((y223_5 a) && (y223_5 a)) && true) (.leaf { a with ffault := { a.ffault with Vector := 4 } }))) (.ok ((k179 (neI (andI a.fr.Flags 16) 0) 1) && true) (.ok ((k258 (y223_6 a) (y223_0 b a) (y223_1 b a)) && true) (.ok true (.ok ((((k259 (y223_6 a) (y223_0 b a) (y223_1 b a)) && true) || (!(eqI b.Sub 1))) && true) (.ok true (.ok true (.ok true (.ok true (.ok ((((((y223_2 a) && ((y223_3 a) && true)) && (((y223_2 a) && ((y223_3 a) && true)) && true)) && ((y223_2 a) && ((y223_3 a) && (k219 { a.fr with Flags := (orI (bif (eqI (y223_9 b a) 0) then (andI a.fr.Flags 4) else 0) (mulI (bif (eqI b.Sub 1) then (y223_7 b a).2 else (y223_8 b a).2) 17)) } 1 b.Reg (y223_9 b a))))) && true) && true) (.ok (((y223_11 b a) && (y223_11 b a)) && true) (.leaf { a with fr := (y223_10 b a) }))))))))))))))))
def g223 (b : GIns) (a : Gl10M) : Gl10M := hid (T223 b a).val
def k223 (b : GIns) (a : Gl10M) : Bool := hid (T223 b a).okv
def q223 := DS45 (fun b a => n217 b a (g223 b a)) k223
theorem t223 : Con 223 q223 := DS45_t fun b a hk => tc at223 Q259_ok [(14, K1), (16, K0), (17, K0), (18, K0), (24, K1), (27, K0), (28, K0), (29, K0), (47, K0), (59, K0), (74, K0), (88, K6), (90, K0)] [] true (T223 b a) (n217 b a) hk
def Q223 := qcons 223 q223 Q259
theorem Q223_ok : QO Q223 := qcons_ok t223 Q259_ok
def T168 (a : GRegs) : Pt (Int) := (.ok true (.ok ((k179 a.Super 256) && ((k179 a.Trace 512) && true)) (.ok true (.ok true (.leaf (addI (addI (addI a.Flags (mulI 32 a.Mask)) (g179 a.Super 256)) (g179 a.Trace 512)))))))
def g168 (a : GRegs) : Int := hid (T168 a).val
def k168 (a : GRegs) : Bool := hid (T168 a).okv
def n168 (a : GRegs) (r : Int) : SV × List Blk := ((.one (li r)), [])
def q168 := DS22 (fun a => n168 a (g168 a)) k168
theorem t168 : Con 100168 q168 := DS22_t fun a p0 p1 hk => tz at168 Q223_ok [(4, K0), (6, K0), (10, K11), (14, K11)] [] true (T168 a) (n168 a) hk
def Q168 := qcons 100168 q168 Q223
theorem Q168_ok : QO Q168 := qcons_ok t168 Q223_ok
section
variable (a : Int) (b : Int) (c : Int) (d : Int)
def y260_0 : Int := (andI (addI (addI c d) b) (subI (g248 a) 1))
def y260_1 : Bool := (neI (addI (addI c d) b) (y260_0 a b c d))
def y260_2 : Bool := (neI (addI (addI (g277 a c) (g277 a d)) b) (g277 a (y260_0 a b c d)))
end
def T260 (a : Int) (b : Int) (c : Int) (d : Int) : Pt (Int × Int) := (.ok true (.ok true (.ok ((k248 a) && true) (.ok ((k277 a c) && ((k277 a d) && true)) (.ok ((k179 (y260_1 a b c d) 17) && ((k277 a (y260_0 a b c d)) && ((k179 (y260_2 a b c d) 2) && ((k249 a (y260_0 a b c d)) && true)))) (.ok true (.ok true (.leaf ((y260_0 a b c d), (orI (orI (g179 (y260_1 a b c d) 17) (g179 (y260_2 a b c d) 2)) (g249 a (y260_0 a b c d))))))))))))
def g260 (a : Int) (b : Int) (c : Int) (d : Int) : Int × Int := hid (T260 a b c d).val
def k260 (a : Int) (b : Int) (c : Int) (d : Int) : Bool := hid (T260 a b c d).okv
def q260 := DS44 (fun a b c d => n250 a b c d (g260 a b c d)) k260
theorem t260 : Con 100260 q260 := DS44_t fun a b c d hk => tz at260 Q168_ok [] [] true (T260 a b c d) (n250 a b c d) hk
def Q260 := qcons 100260 q260 Q168
theorem Q260_ok : QO Q260 := qcons_ok t260 Q168_ok
def T261 (a : Int) (b : Int) (c : Int) (d : Int) : Pt (Int) := (.ok true (.ok ((k250 a 0 c d) && true) (.ok true (.ok true (.ok true (.leaf (orI (andI (g250 a 0 c d).2 15) (andI b 16))))))))
def g261 (a : Int) (b : Int) (c : Int) (d : Int) : Int := hid (T261 a b c d).val
def k261 (a : Int) (b : Int) (c : Int) (d : Int) : Bool := hid (T261 a b c d).okv
def n261 (a : Int) (b : Int) (c : Int) (d : Int) (r : Int) : SV × List Blk := ((.one (li r)), [])
def q261 := DS44 (fun a b c d => n261 a b c d (g261 a b c d)) k261
theorem t261 : Con 100261 q261 := DS44_t fun a b c d hk => tz at261 Q260_ok [] [] true (T261 a b c d) (n261 a b c d) hk
def Q261 := qcons 100261 q261 Q260
theorem Q261_ok : QO Q261 := qcons_ok t261 Q260_ok
section
variable (b : GIns) (a : Gl10M)
def y224_0 : Bool := (eqN (ln a.fr.D) (ln a.fr.D))
def y224_1 : Bool := (eqN (ln a.fr.A) (ln a.fr.A))
def y224_2 : Bool := (eqN (ln a.fbus.Bytes) (ln a.fbus.Bytes))
def y224_3 : Bool := (eqN (ln a.fbus.Log) (ln a.fbus.Log))
def y224_4 : Bool := ((y224_0 a) && ((y224_1 a) && ((y224_2 a) && ((y224_3 a) && true))))
def y224_5 : Nat := (ln (g212 b.Size b.Ea a).1.fr.D)
def y224_6 : Nat := (ln (g212 b.Size b.Ea a).1.fr.A)
def y224_7 : Nat := (ln (g212 b.Size b.Ea a).1.fbus.Bytes)
def y224_8 : Nat := (ln (g212 b.Size b.Ea a).1.fbus.Log)
def y224_9 : Bool := ((eqN (y224_7 b a) (y224_7 b a)) && ((eqN (y224_8 b a) (y224_8 b a)) && true))
def y224_10 : Bool := ((eqN (y224_5 b a) (y224_5 b a)) && ((eqN (y224_6 b a) (y224_6 b a)) && (y224_9 b a)))
def y224_11 : Bool := (((y224_10 b a) && (y224_10 b a)) && true)
def y224_12 : Bool := ((eqN (y224_5 b a) (y224_5 b a)) && ((eqN (y224_6 b a) (y224_6 b a)) && true))
def y224_13 : Bool := (bif (neI b.Op 3) then (neI b.Op 4) else false)
def y224_14 : Bool := ((y224_12 b a) && ((y224_12 b a) && true))
def y224_15 : GRegs := (g219 { (g212 b.Size b.Ea a).1.fr with Flags := (bif (y224_13 b) then (g216 b.Size (g212 b.Size b.Ea a).1.fr.Flags (g212 b.Size b.Ea a).2.1) else (g212 b.Size b.Ea a).1.fr.Flags) } b.Size b.Reg (g212 b.Size b.Ea a).2.1)
def y224_16 : Bool := ((eqN (ln (y224_15 b a).D) (ln (y224_15 b a).D)) && ((eqN (ln (y224_15 b a).A) (ln (y224_15 b a).A)) && (y224_9 b a)))
def y224_17 : Int := (g214 (g212 b.Size b.Ea a).1.fr b.Size b.Reg)
def y224_18 : Int × Int := (g260 b.Size 0 (y224_17 b a) (g212 b.Size b.Ea a).2.1)
def y224_19 : GRegs := (g219 { (g212 b.Size b.Ea a).1.fr with Flags := (bif (y224_13 b) then (g216 b.Size (y224_18 b a).2 (y224_18 b a).1) else (y224_18 b a).2) } b.Size b.Reg (y224_18 b a).1)
def y224_20 : Bool := ((eqN (ln (y224_19 b a).D) (ln (y224_19 b a).D)) && ((eqN (ln (y224_19 b a).A) (ln (y224_19 b a).A)) && (y224_9 b a)))
def y224_21 : Int × Int := (g250 b.Size 0 (y224_17 b a) (g212 b.Size b.Ea a).2.1)
def y224_22 : GRegs := (g219 { (g212 b.Size b.Ea a).1.fr with Flags := (bif (y224_13 b) then (g216 b.Size (y224_21 b a).2 (y224_21 b a).1) else (y224_21 b a).2) } b.Size b.Reg (y224_21 b a).1)
def y224_23 : Bool := ((eqN (ln (y224_22 b a).D) (ln (y224_22 b a).D)) && ((eqN (ln (y224_22 b a).A) (ln (y224_22 b a).A)) && (y224_9 b a)))
def y224_24 : Int := (andI (y224_17 b a) (g212 b.Size b.Ea a).2.1)
def y224_25 : GRegs := (g219 { (g212 b.Size b.Ea a).1.fr with Flags := (bif (y224_13 b) then (g216 b.Size (g212 b.Size b.Ea a).1.fr.Flags (y224_24 b a)) else (g212 b.Size b.Ea a).1.fr.Flags) } b.Size b.Reg (y224_24 b a))
def y224_26 : Bool := ((eqN (ln (y224_25 b a).D) (ln (y224_25 b a).D)) && ((eqN (ln (y224_25 b a).A) (ln (y224_25 b a).A)) && (y224_9 b a)))
def y224_27 : Int := (orI (y224_17 b a) (g212 b.Size b.Ea a).2.1)
def y224_28 : GRegs := (g219 { (g212 b.Size b.Ea a).1.fr with Flags := (bif (y224_13 b) then (g216 b.Size (g212 b.Size b.Ea a).1.fr.Flags (y224_27 b a)) else (g212 b.Size b.Ea a).1.fr.Flags) } b.Size b.Reg (y224_27 b a))
def y224_29 : Bool := ((eqN (ln (y224_28 b a).D) (ln (y224_28 b a).D)) && ((eqN (ln (y224_28 b a).A) (ln (y224_28 b a).A)) && (y224_9 b a)))
def y224_30 : Int := (xorI (y224_17 b a) (g212 b.Size b.Ea a).2.1)
def y224_31 : GRegs := (g219 { (g212 b.Size b.Ea a).1.fr with Flags := (bif (y224_13 b) then (g216 b.Size (g212 b.Size b.Ea a).1.fr.Flags (y224_30 b a)) else (g212 b.Size b.Ea a).1.fr.Flags) } b.Size b.Reg (y224_30 b a))
def y224_32 : Bool := ((eqN (ln (y224_31 b a).D) (ln (y224_31 b a).D)) && ((eqN (ln (y224_31 b a).A) (ln (y224_31 b a).A)) && (y224_9 b a)))
def y224_33 : GRegs := (g219 { (g212 b.Size b.Ea a).1.fr with Flags := (bif (y224_13 b) then (g216 b.Size (g212 b.Size b.Ea a).1.fr.Flags (y224_17 b a)) else (g212 b.Size b.Ea a).1.fr.Flags) } b.Size b.Reg (y224_17 b a))
def y224_34 : Bool := ((eqN (ln (y224_33 b a).D) (ln (y224_33 b a).D)) && ((eqN (ln (y224_33 b a).A) (ln (y224_33 b a).A)) && (y224_9 b a)))
end
def T224 (b : GIns) (a : Gl10M) : Pt (Gl10M) := (.ok true (.ok (((((y224_4 a) && (y224_4 a)) && true) && ((y224_0 a) && ((y224_1 a) && ((y224_2 a) && ((y224_3 a) && (k212 b.Size b.Ea a)))))) && true) (.ok (((y224_11 b a) && ((eqN (y224_5 b a) (y224_5 b a)) && ((eqN (y224_6 b a) (y224_6 b a)) && ((eqN (y224_7 b a) (y224_7 b a)) && ((eqN (y224_8 b a) (y224_8 b a)) && (k81 (g212 b.Size b.Ea a).1)))))) && true) (.br (!(g81 (g212 b.Size b.Ea a).1)) (.ok (y224_11 b a) (.leaf (g212 b.Size b.Ea a).1)) (.ok ((((y224_12 b a) && true) && (k214 (g212 b.Size b.Ea a).1.fr b.Size b.Reg)) && true) (.ok true (.ok true (.ok true (.br (eqI b.Op 1) (.ok true (.ok true (.ok ((((k216 b.Size (g212 b.Size b.Ea a).1.fr.Flags (g212 b.Size b.Ea a).2.1) && true) || (!(y224_13 b))) && true) (.ok true (.ok ((((y224_14 b a) && ((eqN (y224_5 b a) (y224_5 b a)) && ((eqN (y224_6 b a) (y224_6 b a)) && (k219 { (g212 b.Size b.Ea a).1.fr with Flags := (bif (y224_13 b) then (g216 b.Size (g212 b.Size b.Ea a).1.fr.Flags (g212 b.Size b.Ea a).2.1) else (g212 b.Size b.Ea a).1.fr.Flags) } b.Size b.Reg (g212 b.Size b.Ea a).2.1)))) && true) && true) (.ok (((y224_16 b a) && (y224_16 b a)) && true) (.leaf { (g212 b.Size b.Ea a).1 with fr := (y224_15 b a) }))))))) (.ok true (.br (eqI b.Op 3) (.ok ((k260 b.Size 0 (y224_17 b a) (g212 b.Size b.Ea a).2.1) && true) (.ok true (.ok ((((k216 b.Size (y224_18 b a).2 (y224_18 b a).1) && true) || (!(y224_13 b))) && true) (.ok true (.ok ((((y224_14 b a) && ((eqN (y224_5 b a) (y224_5 b a)) && ((eqN (y224_6 b a) (y224_6 b a)) && (k219 { (g212 b.Size b.Ea a).1.fr with Flags := (bif (y224_13 b) then (g216 b.Size (y224_18 b a).2 (y224_18 b a).1) else (y224_18 b a).2) } b.Size b.Reg (y224_18 b a).1)))) && true) && true) (.ok (((y224_20 b a) && (y224_20 b a)) && true) (.leaf { (g212 b.Size b.Ea a).1 with fr := (y224_19 b a) }))))))) (.ok true (.br (eqI b.Op 4) (.ok ((k250 b.Size 0 (y224_17 b a) (g212 b.Size b.Ea a).2.1) && true) (.ok true (.ok ((((k216 b.Size (y224_21 b a).2 (y224_21 b a).1) && true) || (!(y224_13 b))) && true) (.ok true (.ok ((((y224_14 b a) && ((eqN (y224_5 b a) (y224_5 b a)) && ((eqN (y224_6 b a) (y224_6 b a)) && (k219 { (g212 b.Size b.Ea a).1.fr with Flags := (bif (y224_13 b) then (g216 b.Size (y224_21 b a).2 (y224_21 b a).1) else (y224_21 b a).2) } b.Size b.Reg (y224_21 b a).1)))) && true) && true) (.ok (((y224_23 b a) && (y224_23 b a)) && true) (.leaf { (g212 b.Size b.Ea a).1 with fr := (y224_22 b a) }))))))) (.ok true (.br (eqI b.Op 5) (.ok true (.ok true (.ok ((((k216 b.Size (g212 b.Size b.Ea a).1.fr.Flags (y224_24 b a)) && true) || (!(y224_13 b))) && true) (.ok true (.ok ((((y224_14 b a) && ((eqN (y224_5 b a) (y224_5 b a)) && ((eqN (y224_6 b a) (y224_6 b a)) && (k219 { (g212 b.Size b.Ea a).1.fr with Flags := (bif (y224_13 b) then (g216 b.Size (g212 b.Size b.Ea a).1.fr.Flags (y224_24 b a)) else (g212 b.Size b.Ea a).1.fr.Flags) } b.Size b.Reg (y224_24 b a))))) && true) && true) (.ok (((y224_26 b a) && (y224_26 b a)) && true) (.leaf { (g212 b.Size b.Ea a).1 with fr := (y224_25 b a) }))))))) (.ok true (.br (eqI b.Op 6) (.ok true (.ok true (.ok ((((k216 b.Size (g212 b.Size b.Ea a).1.fr.Flags (y224_27 b a)) && true) || (!(y224_13 b))) && true) (.ok true (.ok ((((y224_14 b a) && ((eqN (y224_5 b a) (y224_5 b a)) && ((eqN (y224_6 b a) (y224_6 b a)) && (k219 { (g212 b.Size b.Ea a).1.fr with Flags := (bif (y224_13 b) then (g216 b.Size (g212 b.Size b.Ea a).1.fr.Flags (y224_27 b a)) else (g212 b.Size b.Ea a).1.fr.Flags) } b.Size b.Reg (y224_27 b a))))) && true) && true) (.ok (((y224_29 b a) && (y224_29 b a)) && true) (.leaf { (g212 b.Size b.Ea a).1 with fr := (y224_28 b a) }))))))) (.ok true (.br (eqI b.Op 7) (.ok true (.ok true (.ok ((((k216 b.Size (g212 b.Size b.Ea a).1.fr.Flags (y224_30 b a)) && true) || (!(y224_13 b))) && true) (.ok true (.ok ((((y224_14 b a) && ((eqN (y224_5 b a) (y224_5 b a)) && ((eqN (y224_6 b a) (y224_6 b a)) && (k219 { (g212 b.Size b.Ea a).1.fr with Flags := (bif (y224_13 b) then (g216 b.Size (g212 b.Size b.Ea a).1.fr.Flags (y224_30 b a)) else (g212 b.Size b.Ea a).1.fr.Flags) } b.Size b.Reg (y224_30 b a))))) && true) && true) (.ok (((y224_32 b a) && (y224_32 b a)) && true) (.leaf { (g212 b.Size b.Ea a).1 with fr := (y224_31 b a) }))))))) (.ok true (.br (eqI b.Op 8) (.ok ((k261 b.Size (g212 b.Size b.Ea a).1.fr.Flags (y224_17 b a) (g212 b.Size b.Ea a).2.1) && true) (.ok (y224_11 b a) (.leaf { (g212 b.Size b.Ea a).1 with fr := { (g212 b.Size b.Ea a).1.fr with Flags := (g261 b.Size (g212 b.Size b.Ea a).1.fr.Flags (y224_17 b a) (g212 b.Size b.Ea a).2.1) } }))) (.ok true (.ok ((((k216 b.Size (g212 b.Size b.Ea a).1.fr.Flags (y224_17 b a)) && true) || (!(y224_13 b))) && true) (.ok true (.ok ((((y224_14 b a) && ((eqN (y224_5 b a) (y224_5 b a)) && ((eqN (y224_6 b a) (y224_6 b a)) && (k219 { (g212 b.Size b.Ea a).1.fr with Flags := (bif (y224_13 b) then (g216 b.Size (g212 b.Size b.Ea a).1.fr.Flags (y224_17 b a)) else (g212 b.Size b.Ea a).1.fr.Flags) } b.Size b.Reg (y224_17 b a))))) && true) && true) (.ok (((y224_34 b a) && (y224_34 b a)) && true) (.leaf { (g212 b.Size b.Ea a).1 with fr := (y224_33 b a) })))))))))))))))))))))))))))
def g224 (b : GIns) (a : Gl10M) : Gl10M := hid (T224 b a).val
def k224 (b : GIns) (a : Gl10M) : Bool := hid (T224 b a).okv
def q224 := DS45 (fun b a => n217 b a (g224 b a)) k224
theorem t224 : Con 224 q224 := DS45_t fun b a hk => tc at224 Q261_ok [(11, K0), (13, K4), (23, K6), (25, K0), (27, K0), (33, K0), (35, K0), (43, K0), (53, K0), (78, K0), (87, K0), (91, K0), (95, K0), (108, K6), (110, K0), (112, K0)] [] true (T224 b a) (n217 b a) hk
def Q224 := qcons 224 q224 Q261
theorem Q224_ok : QO Q224 := qcons_ok t224 Q261_ok
section
variable (b : GIns) (c : Int) (a : Gl10M)
def y160_0 : Bool := (eqN (ln a.fr.D) (ln a.fr.D))
def y160_1 : Bool := (eqN (ln a.fr.A) (ln a.fr.A))
def y160_2 : Bool := (eqN (ln a.fbus.Bytes) (ln a.fbus.Bytes))
def y160_3 : Bool := (eqN (ln a.fbus.Log) (ln a.fbus.Log))
def y160_4 : Bool := ((y160_1 a) && ((y160_2 a) && ((y160_3 a) && true)))
def y160_5 : Bool := ((((y160_0 a) && (y160_4 a)) && ((y160_0 a) && (y160_4 a))) && true)
def y160_6 : Bool := (eqN (ln (g212 2 b.Ea a).1.fr.D) (ln (g212 2 b.Ea a).1.fr.D))
def y160_7 : Bool := (eqN (ln (g212 2 b.Ea a).1.fr.A) (ln (g212 2 b.Ea a).1.fr.A))
def y160_8 : Nat := (ln (g212 2 b.Ea a).1.fbus.Bytes)
def y160_9 : Nat := (ln (g212 2 b.Ea a).1.fbus.Log)
def y160_10 : Bool := ((eqN (y160_8 b a) (y160_8 b a)) && ((eqN (y160_9 b a) (y160_9 b a)) && true))
def y160_11 : Bool := ((y160_6 b a) && ((y160_7 b a) && (y160_10 b a)))
def y160_12 : Bool := (((y160_11 b a) && (y160_11 b a)) && true)
def y160_13 : List Row := (List.set (g212 2 b.Ea a).1.fr.A (0 + (Int.toNat b.Reg)) (rowI (g212 2 b.Ea a).2.1))
def y160_14 : Bool := ((y160_6 b a) && ((eqN (ln (g212 2 b.Ea a).1.fr.A) (ln (y160_13 b a))) && (y160_10 b a)))
def y160_15 : Bool := (eqN (ln (g213 2 b.Ea a).1.fr.D) (ln (g213 2 b.Ea a).1.fr.D))
def y160_16 : Nat := (ln (g213 2 b.Ea a).1.fbus.Bytes)
def y160_17 : Nat := (ln (g213 2 b.Ea a).1.fbus.Log)
def y160_18 : Bool := ((eqN (y160_16 b a) (y160_16 b a)) && ((eqN (y160_17 b a) (y160_17 b a)) && true))
def y160_19 : List Row := (List.set (g213 2 b.Ea a).1.fr.A (0 + (Int.toNat b.Reg)) (rowI (g213 2 b.Ea a).2))
def y160_20 : Bool := ((y160_15 b a) && ((eqN (ln (g213 2 b.Ea a).1.fr.A) (ln (y160_19 b a))) && (y160_18 b a)))
def y160_21 : Bool := (((y160_0 a) && ((y160_1 a) && true)) && true)
def y160_22 : Bool := ((y160_21 a) && (k214 a.fr b.Size b.Reg))
def y160_23 : Nat := (ln (g213 b.Size b.Ea a).1.fr.D)
def y160_24 : Nat := (ln (g213 b.Size b.Ea a).1.fr.A)
def y160_25 : Nat := (ln (g213 b.Size b.Ea a).1.fbus.Bytes)
def y160_26 : Nat := (ln (g213 b.Size b.Ea a).1.fbus.Log)
def y160_27 : Bool := ((eqN (y160_23 b a) (y160_23 b a)) && ((eqN (y160_24 b a) (y160_24 b a)) && ((eqN (y160_25 b a) (y160_25 b a)) && ((eqN (y160_26 b a) (y160_26 b a)) && true))))
def y160_28 : Int := (g214 a.fr b.Size b.Reg)
def y160_29 : Gl10M := (g215 b.Size b.Ea (g213 b.Size b.Ea a).2 (y160_28 b a) (g213 b.Size b.Ea a).1)
def y160_30 : Bool := ((eqN (ln (y160_29 b a).fr.D) (ln (y160_29 b a).fr.D)) && ((eqN (ln (y160_29 b a).fr.A) (ln (y160_29 b a).fr.A)) && ((eqN (ln (y160_29 b a).fbus.Bytes) (ln (y160_29 b a).fbus.Bytes)) && ((eqN (ln (y160_29 b a).fbus.Log) (ln (y160_29 b a).fbus.Log)) && true))))
def y160_31 : Bool := ((eqN (ln (g217 b a).fr.D) (ln (g217 b a).fr.D)) && ((eqN (ln (g217 b a).fr.A) (ln (g217 b a).fr.A)) && ((eqN (ln (g217 b a).fbus.Bytes) (ln (g217 b a).fbus.Bytes)) && ((eqN (ln (g217 b a).fbus.Log) (ln (g217 b a).fbus.Log)) && true))))
def y160_32 : Bool := (((y160_0 a) && ((y160_1 a) && true)) && (y160_21 a))
def y160_33 : Int × Int := (g218 b.Sub b.Size a.fr.Flags (y160_28 b a) (addI b.Ea.Reg 1))
def y160_34 : GRegs := (g219 { a.fr with Flags := (y160_33 b a).2 } b.Size b.Reg (y160_33 b a).1)
def y160_35 : Bool := ((eqN (ln (y160_34 b a).D) (ln (y160_34 b a).D)) && ((eqN (ln (y160_34 b a).A) (ln (y160_34 b a).A)) && ((y160_2 a) && ((y160_3 a) && true))))
def y160_36 : Bool := ((eqN (ln (g220 b c a).fr.D) (ln (g220 b c a).fr.D)) && ((eqN (ln (g220 b c a).fr.A) (ln (g220 b c a).fr.A)) && ((eqN (ln (g220 b c a).fbus.Bytes) (ln (g220 b c a).fbus.Bytes)) && ((eqN (ln (g220 b c a).fbus.Log) (ln (g220 b c a).fbus.Log)) && true))))
def y160_37 : Bool := ((eqN (ln (g221 b a).fr.D) (ln (g221 b a).fr.D)) && ((eqN (ln (g221 b a).fr.A) (ln (g221 b a).fr.A)) && ((eqN (ln (g221 b a).fbus.Bytes) (ln (g221 b a).fbus.Bytes)) && ((eqN (ln (g221 b a).fbus.Log) (ln (g221 b a).fbus.Log)) && true))))
def y160_38 : Bool := ((eqN (ln (g222 b a).fr.D) (ln (g222 b a).fr.D)) && ((eqN (ln (g222 b a).fr.A) (ln (g222 b a).fr.A)) && ((eqN (ln (g222 b a).fbus.Bytes) (ln (g222 b a).fbus.Bytes)) && ((eqN (ln (g222 b a).fbus.Log) (ln (g222 b a).fbus.Log)) && true))))
def y160_39 : Bool := ((eqN (ln (g223 b a).fr.D) (ln (g223 b a).fr.D)) && ((eqN (ln (g223 b a).fr.A) (ln (g223 b a).fr.A)) && ((eqN (ln (g223 b a).fbus.Bytes) (ln (g223 b a).fbus.Bytes)) && ((eqN (ln (g223 b a).fbus.Log) (ln (g223 b a).fbus.Log)) && true))))
def y160_40 : Bool := ((eqN (ln (g167 a.fr b.Ea.Ext).D) (ln (g167 a.fr b.Ea.Ext).D)) && ((eqN (ln (g167 a.fr b.Ea.Ext).A) (ln (g167 a.fr b.Ea.Ext).A)) && ((y160_2 a) && ((y160_3 a) && true))))
def y160_41 : List Row := (List.set a.fr.D (0 + (Int.toNat b.Reg)) (rowI (g168 a.fr)))
def y160_42 : Bool := ((eqN (ln a.fr.D) (ln (y160_41 b a))) && (y160_4 a))
def y160_43 : Bool := ((eqN (ln (g224 b a).fr.D) (ln (g224 b a).fr.D)) && ((eqN (ln (g224 b a).fr.A) (ln (g224 b a).fr.A)) && ((eqN (ln (g224 b a).fbus.Bytes) (ln (g224 b a).fbus.Bytes)) && ((eqN (ln (g224 b a).fbus.Log) (ln (g224 b a).fbus.Log)) && true))))
end
def T160 (b : GIns) (c : Int) (a : Gl10M) : Pt (Gl10M) := (.ok true (.ok true (.ok true (.br (eqI b.Op 9) (.ok (((y160_5 a) && ((y160_0 a) && ((y160_1 a) && ((y160_2 a) && ((y160_3 a) && (k212 2 b.Ea a)))))) && true) (.ok (((y160_12 b a) && ((y160_6 b a) && ((y160_7 b a) && ((eqN (y160_8 b a) (y160_8 b a)) && ((eqN (y160_9 b a) (y160_9 b a)) && (k81 (g212 2 b.Ea a).1)))))) && true) (.br (g81 (g212 2 b.Ea a).1) (.ok ((((leI 0 b.Reg) && (ltI b.Reg (lenI (g212 2 b.Ea a).1.fr.A))) && (((blt (0 + (Int.toNat b.Reg)) (ln (g212 2 b.Ea a).1.fr.A)) && (beqN (rlen (g212 2 b.Ea a).1.fr.A (0 + (Int.toNat b.Reg))) 1)) && true)) && true) (.ok ((((y160_11 b a) && (y160_14 b a)) && true) && ((y160_14 b a) && true)) (.leaf { (g212 2 b.Ea a).1 with fr := { (g212 2 b.Ea a).1.fr with A := (y160_13 b a) } }))) (.ok ((y160_12 b a) && ((y160_11 b a) && true)) (.leaf (g212 2 b.Ea a).1))))) (.ok true (.br (eqI b.Op 10) (.ok (((y160_5 a) && ((y160_0 a) && ((y160_1 a) && ((y160_2 a) && ((y160_3 a) && (k213 2 b.Ea a)))))) && true) (.ok ((((leI 0 b.Reg) && (ltI b.Reg (lenI (g213 2 b.Ea a).1.fr.A))) && (((blt (0 + (Int.toNat b.Reg)) (ln (g213 2 b.Ea a).1.fr.A)) && (beqN (rlen (g213 2 b.Ea a).1.fr.A (0 + (Int.toNat b.Reg))) 1)) && true)) && true) (.ok (((((y160_15 b a) && ((eqN (ln (g213 2 b.Ea a).1.fr.A) (ln (g213 2 b.Ea a).1.fr.A)) && (y160_18 b a))) && (y160_20 b a)) && true) && ((y160_20 b a) && true)) (.leaf { (g213 2 b.Ea a).1 with fr := { (g213 2 b.Ea a).1.fr with A := (y160_19 b a) } })))) (.ok true (.br (eqI b.Op 2) (.ok ((y160_22 b a) && true) (.ok (((y160_5 a) && ((y160_0 a) && ((y160_1 a) && ((y160_2 a) && ((y160_3 a) && (k213 b.Size b.Ea a)))))) && true) (.ok (((((y160_27 b a) && (y160_27 b a)) && true) && ((eqN (y160_23 b a) (y160_23 b a)) && ((eqN (y160_24 b a) (y160_24 b a)) && ((eqN (y160_25 b a) (y160_25 b a)) && ((eqN (y160_26 b a) (y160_26 b a)) && (k215 b.Size b.Ea (g213 b.Size b.Ea a).2 (y160_28 b a) (g213 b.Size b.Ea a).1)))))) && true) (.ok (((k216 b.Size (y160_29 b a).fr.Flags (y160_28 b a)) && true) && true) (.ok ((((y160_30 b a) && (y160_30 b a)) && true) && ((y160_30 b a) && true)) (.leaf { (y160_29 b a) with fr := { (y160_29 b a).fr with Flags := (g216 b.Size (y160_29 b a).fr.Flags (y160_28 b a)) } })))))) (.ok true (.br (eqI b.Op 11) (.ok (((y160_5 a) && ((y160_0 a) && ((y160_1 a) && ((y160_2 a) && ((y160_3 a) && (k217 b a)))))) && true) (.ok ((((y160_31 b a) && (y160_31 b a)) && true) && ((y160_31 b a) && true)) (.leaf (g217 b a)))) (.ok true (.br (eqI b.Op 12) (.ok ((y160_22 b a) && ((k218 b.Sub b.Size a.fr.Flags (y160_28 b a) (addI b.Ea.Reg 1)) && true)) (.ok true (.ok ((((y160_32 a) && ((y160_0 a) && ((y160_1 a) && (k219 { a.fr with Flags := (y160_33 b a).2 } b.Size b.Reg (y160_33 b a).1)))) && true) && true) (.ok ((((y160_35 b a) && (y160_35 b a)) && true) && ((y160_35 b a) && true)) (.leaf { a with fr := (y160_34 b a) }))))) (.ok true (.ok true (.br (bif (eqI b.Op 13) then (eqI b.Op 13) else (eqI b.Op 14)) (.ok (((y160_5 a) && ((y160_0 a) && ((y160_1 a) && ((y160_2 a) && ((y160_3 a) && (k220 b c a)))))) && true) (.ok ((((y160_36 b c a) && (y160_36 b c a)) && true) && ((y160_36 b c a) && true)) (.leaf (g220 b c a)))) (.ok true (.br (eqI b.Op 15) (.ok (((y160_5 a) && ((y160_0 a) && ((y160_1 a) && ((y160_2 a) && ((y160_3 a) && (k221 b a)))))) && true) (.ok ((((y160_37 b a) && (y160_37 b a)) && true) && ((y160_37 b a) && true)) (.leaf (g221 b a)))) (.ok true (.ok true (.br (bif (eqI b.Op 16) then (eqI b.Op 16) else (eqI b.Op 17)) (.ok (((y160_5 a) && ((y160_0 a) && ((y160_1 a) && ((y160_2 a) && ((y160_3 a) && (k222 b a)))))) && true) (.ok ((((y160_38 b a) && (y160_38 b a)) && true) && ((y160_38 b a) && true)) (.leaf (g222 b a)))) (.ok true (.br (eqI b.Op 18) (.ok (((y160_5 a) && ((y160_0 a) && ((y160_1 a) && ((y160_2 a) && ((y160_3 a) && (k223 b a)))))) && true) (.ok ((((y160_39 b a) && (y160_39 b a)) && true) && ((y160_39 b a) && true)) (.leaf (g223 b a)))) (.ok true (.br (eqI b.Op 19) (.ok true (.br (eqI b.Sub 0) (.ok ((((y160_32 a) && ((y160_0 a) && ((y160_1 a) && (k167 a.fr b.Ea.Ext)))) && true) && true) (.ok ((((y160_40 b a) && (y160_40 b a)) && true) && ((y160_40 b a) && true)) (.leaf { a with fr := (g167 a.fr b.Ea.Ext) }))) (.ok ((((y160_21 a) && (k168 a.fr)) && (((leI 0 b.Reg) && (ltI b.Reg (lenI a.fr.D))) && (((blt (0 + (Int.toNat b.Reg)) (ln a.fr.D)) && (beqN (rlen a.fr.D (0 + (Int.toNat b.Reg))) 1)) && true))) && true) (.ok (((((y160_0 a) && (y160_4 a)) && (y160_42 b a)) && true) && ((y160_42 b a) && true)) (.leaf { a with fr := { a.fr with D := (y160_41 b a) } }))))) (.ok (((y160_5 a) && ((y160_0 a) && ((y160_1 a) && ((y160_2 a) && ((y160_3 a) && (k224 b a)))))) && true) (.ok ((((y160_43 b a) && (y160_43 b a)) && true) && ((y160_43 b a) && true)) (.leaf (g224 b a))))))))))))))))))))))))))))
def g160 (b : GIns) (c : Int) (a : Gl10M) : Gl10M := hid (T160 b c a).val
def k160 (b : GIns) (c : Int) (a : Gl10M) : Bool := hid (T160 b c a).okv
def q160 := DS47 (fun b c a => n220 b c a (g160 b c a)) k160
theorem t160 : Con 160 q160 := DS47_t fun b c a hk => tc at160 Q224_ok [(14, K0), (16, K5), (23, K4), (33, K1), (35, K0), (37, K0), (42, K4), (48, K1), (50, K0), (52, K0), (58, K6), (60, K0), (62, K0), (66, K0), (68, K4), (72, K0), (74, K4), (80, K0), (85, K0), (94, K5), (100, K0), (102, K0), (107, K0), (111, K6), (113, K0), (115, K0), (119, K0), (133, K6), (135, K0), (137, K0), (146, K5), (152, K5), (158, K5), (163, K5), (168, K0), (174, K6), (177, K0), (185, K1), (187, K0), (191, K6), (193, K0), (1000001, [])] [] true (T160 b c a) (n220 b c a) hk
def Q160 := qcons 160 q160 Q224
theorem Q160_ok : QO Q160 := qcons_ok t160 Q224_ok
def K12 : List Kd := [.int .i64, .int .i64, .int .i64, .int .i64, .bool]
def AS50 (a : GCpu) : List SV := [(.agg [.imm false 1 a.R.D, .imm false 1 a.R.A, li a.R.Other, li a.R.PC, li a.R.Flags, li a.R.Mask, .lit (.bool a.R.Super), .lit (.bool a.R.Trace), .imm false 1 a.Bus.Bytes, .imm false 5 a.Bus.Log, .lit (.bool a.Stop), .lit (.bool a.Halt)])]
def HS50 (a : GCpu) : List Blk := []
def DS50 (N : GCpu → SV × List Blk) (K : GCpu → Bool) : List SV → List Blk → Option ((SV × List Blk) × Bool)
 | [(.agg [.imm false 1 c0, .imm false 1 c1, li c2, li c3, li c4, li c5, .lit (.bool c6), .lit (.bool c7), .imm false 1 c8, .imm false 5 c9, .lit (.bool c10), .lit (.bool c11)])], [] => some (N (GCpu.mk (GRegs.mk c0 c1 c2 c3 c4 c5 c6 c7) (GBus.mk c8 c9) c10 c11), K (GCpu.mk (GRegs.mk c0 c1 c2 c3 c4 c5 c6 c7) (GBus.mk c8 c9) c10 c11))
 | _, _ => none
theorem DS50_t {N : GCpu → SV × List Blk} {K : GCpu → Bool} {f : Nat} (h : ∀ (a : GCpu), K a = true → frzR R f (AS50 a) (HS50 a) = some (N a)) : Con f (DS50 N K) := fun _ _ _ e => by
 unfold DS50 at e
 split at e
 ·exact dsf e (h _)
 ·cases e
section
variable (a : GCpu)
def y87_0 : Bool := (eqN (ln (g78 a).fr.D) (ln (g78 a).fr.D))
def y87_1 : Bool := (eqN (ln (g78 a).fr.A) (ln (g78 a).fr.A))
def y87_2 : Bool := (eqN (ln (g78 a).fbus.Bytes) (ln (g78 a).fbus.Bytes))
def y87_3 : Bool := (eqN (ln (g78 a).fbus.Log) (ln (g78 a).fbus.Log))
def y87_4 : Bool := ((y87_0 a) && ((y87_1 a) && ((y87_2 a) && ((y87_3 a) && true))))
def y87_5 : Bool := (eqN (ln (g158 (g78 a)).1.fr.D) (ln (g158 (g78 a)).1.fr.D))
def y87_6 : Bool := (eqN (ln (g158 (g78 a)).1.fr.A) (ln (g158 (g78 a)).1.fr.A))
def y87_7 : Nat := (ln (g158 (g78 a)).1.fbus.Bytes)
def y87_8 : Bool := (eqN (ln (g158 (g78 a)).1.fbus.Log) (ln (g158 (g78 a)).1.fbus.Log))
def y87_9 : Bool := ((eqN (y87_7 a) (y87_7 a)) && ((y87_8 a) && true))
def y87_10 : Bool := ((y87_5 a) && ((y87_6 a) && (y87_9 a)))
def y87_11 : Bool := ((((y87_10 a) && (y87_10 a)) && true) && ((y87_5 a) && ((y87_6 a) && ((eqN (y87_7 a) (y87_7 a)) && ((y87_8 a) && (k81 (g158 (g78 a)).1))))))
def y87_12 : GFault := { (g158 (g78 a)).1.ffault with Vector := 8 }
def y87_13 : Gl10M := { (g158 (g78 a)).1 with ffault := (y87_12 a) }
def y87_14 : Bool := (((((y87_10 a) && (y87_10 a)) && true) && ((y87_5 a) && ((y87_6 a) && ((eqN (y87_7 a) (y87_7 a)) && ((y87_8 a) && (k81 (y87_13 a))))))) && true)
def y87_15 : Gl10M := (g160 (g158 (g78 a)).2.1 (g78 a).fr.PC { (g158 (g78 a)).1 with fr := { (g158 (g78 a)).1.fr with PC := (andI (addI (g78 a).fr.PC (mulI 2 (g158 (g78 a)).2.2)) 65535) }, ffault := (y87_12 a) })
def y87_16 : Bool := (eqN (ln (y87_15 a).fr.D) (ln (y87_15 a).fr.D))
def y87_17 : Bool := (eqN (ln (y87_15 a).fr.A) (ln (y87_15 a).fr.A))
def y87_18 : Bool := (eqN (ln (y87_15 a).fbus.Bytes) (ln (y87_15 a).fbus.Bytes))
def y87_19 : Bool := (eqN (ln (y87_15 a).fbus.Log) (ln (y87_15 a).fbus.Log))
def y87_20 : Bool := ((y87_16 a) && ((y87_17 a) && ((y87_18 a) && ((y87_19 a) && true))))
def y87_21 : Nat := (ln (g80 (y87_15 a)).Bus.Bytes)
def y87_22 : Bool := ((eqN (ln (g80 (y87_15 a)).R.D) (ln (g80 (y87_15 a)).R.D)) && ((eqN (ln (g80 (y87_15 a)).R.A) (ln (g80 (y87_15 a)).R.A)) && ((eqN (y87_21 a) (y87_21 a)) && ((eqN (ln (g80 (y87_15 a)).Bus.Log) (ln (g80 (y87_15 a)).Bus.Log)) && true))))
def y87_23 : Bool := (eqN (ln (g161 a.R).D) (ln (g161 a.R).D))
def y87_24 : Bool := (eqN (ln (g161 a.R).A) (ln (g161 a.R).A))
def y87_25 : Bool := ((y87_23 a) && ((y87_24 a) && ((y87_18 a) && ((y87_19 a) && true))))
def y87_26 : Bool := ((((((y87_25 a) && (y87_25 a)) && true) && ((y87_23 a) && ((y87_24 a) && ((y87_18 a) && ((y87_19 a) && (k80 { (y87_15 a) with fr := (g161 a.R), fstop := a.Stop })))))) && true) && true)
def y87_27 : Bool := ((same (α := Int) a.R.Flags a.R.Flags) && ((same (α := Int) a.R.Mask a.R.Mask) && ((same (α := Bool) a.R.Super a.R.Super) && ((same (α := Bool) a.R.Trace a.R.Trace) && (((same (α := Bool) false false) && (sameR a.Bus.Bytes a.Bus.Bytes)) && (((same (α := Bool) false false) && (sameR a.Bus.Log a.Bus.Log)) && ((same (α := Bool) a.Stop a.Stop) && ((same (α := Bool) a.Halt a.Halt) && true))))))))
def y87_28 : Bool := (((same (α := Bool) false false) && (sameR a.R.D a.R.D)) && (((same (α := Bool) false false) && (sameR a.R.A a.R.A)) && ((same (α := Int) a.R.Other a.R.Other) && ((same (α := Int) a.R.PC a.R.PC) && (y87_27 a)))))
def y87_29 : GCpu := (g80 { (y87_15 a) with fr := (g161 a.R), fstop := a.Stop })
def y87_30 : Bool := ((same (α := Bool) (y87_29 a).R.Super (y87_29 a).R.Super) && ((same (α := Bool) (y87_29 a).R.Trace (y87_29 a).R.Trace) && ((same (α := Nat) (ln (y87_29 a).Bus.Bytes) (ln (y87_29 a).Bus.Bytes)) && ((same (α := Nat) (ln (y87_29 a).Bus.Log) (ln (y87_29 a).Bus.Log)) && ((same (α := Bool) (y87_29 a).Stop (y87_29 a).Stop) && ((same (α := Bool) (y87_29 a).Halt (y87_29 a).Halt) && true))))))
def y87_31 : Bool := ((same (α := Nat) (ln (y87_29 a).R.D) (ln (y87_29 a).R.D)) && ((same (α := Nat) (ln (y87_29 a).R.A) (ln (y87_29 a).R.A)) && ((same (α := Int) (y87_29 a).R.Other (y87_29 a).R.Other) && ((same (α := Int) (y87_29 a).R.PC (y87_29 a).R.PC) && ((same (α := Int) (y87_29 a).R.Flags (y87_29 a).R.Flags) && ((same (α := Int) (y87_29 a).R.Mask (y87_29 a).R.Mask) && (y87_30 a)))))))
def y87_32 : Bool := ((same (α := Int) (y87_15 a).ffault.Vector (y87_15 a).ffault.Vector) && ((same (α := Int) (y87_15 a).ffault.PC (y87_15 a).ffault.PC) && ((same (α := Int) (y87_15 a).ffault.Addr (y87_15 a).ffault.Addr) && ((same (α := Int) (y87_15 a).ffault.Word (y87_15 a).ffault.Word) && ((same (α := Bool) (y87_15 a).ffault.Write (y87_15 a).ffault.Write) && true)))))
def y87_33 : Bool := (same (α := Nat) (ln (g161 a.R).D) (ln (g161 a.R).D))
def y87_34 : Bool := (same (α := Nat) (ln (g161 a.R).A) (ln (g161 a.R).A))
def y87_35 : Bool := (same (α := Int) (g161 a.R).Other (g161 a.R).Other)
def y87_36 : Bool := (same (α := Int) (g161 a.R).PC (g161 a.R).PC)
def y87_37 : Bool := (same (α := Int) (g161 a.R).Flags (g161 a.R).Flags)
def y87_38 : Bool := (same (α := Int) (g161 a.R).Mask (g161 a.R).Mask)
def y87_39 : Bool := (same (α := Bool) (g161 a.R).Super (g161 a.R).Super)
def y87_40 : Bool := (same (α := Bool) (g161 a.R).Trace (g161 a.R).Trace)
def y87_41 : Bool := ((same (α := Int) (g158 (g78 a)).2.1.Size (g158 (g78 a)).2.1.Size) && ((same (α := Int) (g158 (g78 a)).2.1.Reg (g158 (g78 a)).2.1.Reg) && ((same (α := Int) (g158 (g78 a)).2.1.Ea.Mode (g158 (g78 a)).2.1.Ea.Mode) && ((same (α := Int) (g158 (g78 a)).2.1.Ea.Reg (g158 (g78 a)).2.1.Ea.Reg) && ((same (α := Int) (g158 (g78 a)).2.1.Ea.Ext (g158 (g78 a)).2.1.Ea.Ext) && ((same (α := Int) (g158 (g78 a)).2.1.Sub (g158 (g78 a)).2.1.Sub) && true))))))
def y87_42 : Bool := ((same (α := Int) (g158 (g78 a)).2.1.Op (g158 (g78 a)).2.1.Op) && (y87_41 a))
def y87_43 : Bool := ((sameR (y87_15 a).fr.A (y87_15 a).fr.A) && ((sameR (g161 a.R).D (g161 a.R).D) && ((sameR (g161 a.R).A (g161 a.R).A) && ((sameR (y87_15 a).fbus.Bytes (y87_15 a).fbus.Bytes) && ((sameR (y87_15 a).fbus.Log (y87_15 a).fbus.Log) && ((sameR (y87_29 a).R.D (y87_29 a).R.D) && ((sameR (y87_29 a).R.A (y87_29 a).R.A) && ((sameR (y87_29 a).Bus.Bytes (y87_29 a).Bus.Bytes) && ((sameR (y87_29 a).Bus.Log (y87_29 a).Bus.Log) && true)))))))))
def y87_44 : Bool := (((y87_33 a) && ((y87_34 a) && ((y87_35 a) && ((y87_36 a) && ((y87_37 a) && ((y87_38 a) && ((y87_39 a) && ((y87_40 a) && ((same (α := Nat) (ln (y87_15 a).fbus.Bytes) (ln (y87_15 a).fbus.Bytes)) && ((same (α := Nat) (ln (y87_15 a).fbus.Log) (ln (y87_15 a).fbus.Log)) && ((same (α := Bool) a.Stop a.Stop) && (y87_32 a)))))))))))) && ((y87_42 a) && ((sameR (y87_15 a).fr.D (y87_15 a).fr.D) && (y87_43 a))))
def y87_45 : Bool := ((y87_28 a) && ((y87_31 a) && ((y87_32 a) && (y87_44 a))))
def y87_46 : Bool := ((eqN (ln (y87_29 a).R.D) (ln (y87_29 a).R.D)) && ((eqN (ln (y87_29 a).R.A) (ln (y87_29 a).R.A)) && ((eqN (ln (y87_29 a).Bus.Bytes) (ln (y87_29 a).Bus.Bytes)) && ((eqN (ln (y87_29 a).Bus.Log) (ln (y87_29 a).Bus.Log)) && true))))
def y87_47 : Nat := (ln (g80 (y87_13 a)).Bus.Bytes)
def y87_48 : Bool := ((eqN (ln (g80 (y87_13 a)).R.D) (ln (g80 (y87_13 a)).R.D)) && ((eqN (ln (g80 (y87_13 a)).R.A) (ln (g80 (y87_13 a)).R.A)) && ((eqN (y87_47 a) (y87_47 a)) && ((eqN (ln (g80 (y87_13 a)).Bus.Log) (ln (g80 (y87_13 a)).Bus.Log)) && true))))
def y87_49 : Bool := ((y87_23 a) && ((y87_24 a) && (y87_9 a)))
def y87_50 : Bool := ((((((y87_49 a) && (y87_49 a)) && true) && ((y87_23 a) && ((y87_24 a) && ((eqN (y87_7 a) (y87_7 a)) && ((y87_8 a) && (k80 (Gl10M.mk (g161 a.R) (g158 (g78 a)).1.fbus a.Stop (y87_12 a)))))))) && true) && true)
def y87_51 : GCpu := (g80 (Gl10M.mk (g161 a.R) (g158 (g78 a)).1.fbus a.Stop (y87_12 a)))
def y87_52 : Bool := ((same (α := Bool) (y87_51 a).R.Super (y87_51 a).R.Super) && ((same (α := Bool) (y87_51 a).R.Trace (y87_51 a).R.Trace) && ((same (α := Nat) (ln (y87_51 a).Bus.Bytes) (ln (y87_51 a).Bus.Bytes)) && ((same (α := Nat) (ln (y87_51 a).Bus.Log) (ln (y87_51 a).Bus.Log)) && ((same (α := Bool) (y87_51 a).Stop (y87_51 a).Stop) && ((same (α := Bool) (y87_51 a).Halt (y87_51 a).Halt) && true))))))
def y87_53 : Bool := ((same (α := Nat) (ln (y87_51 a).R.D) (ln (y87_51 a).R.D)) && ((same (α := Nat) (ln (y87_51 a).R.A) (ln (y87_51 a).R.A)) && ((same (α := Int) (y87_51 a).R.Other (y87_51 a).R.Other) && ((same (α := Int) (y87_51 a).R.PC (y87_51 a).R.PC) && ((same (α := Int) (y87_51 a).R.Flags (y87_51 a).R.Flags) && ((same (α := Int) (y87_51 a).R.Mask (y87_51 a).R.Mask) && (y87_52 a)))))))
def y87_54 : Bool := ((same (α := Int) (g158 (g78 a)).1.ffault.PC (g158 (g78 a)).1.ffault.PC) && ((same (α := Int) (g158 (g78 a)).1.ffault.Addr (g158 (g78 a)).1.ffault.Addr) && ((same (α := Int) (g158 (g78 a)).1.ffault.Word (g158 (g78 a)).1.ffault.Word) && ((same (α := Bool) (g158 (g78 a)).1.ffault.Write (g158 (g78 a)).1.ffault.Write) && true))))
def y87_55 : Bool := (same (α := Nat) (ln (g158 (g78 a)).1.fbus.Log) (ln (g158 (g78 a)).1.fbus.Log))
def y87_56 : Bool := (sameR (g158 (g78 a)).1.fr.D (g158 (g78 a)).1.fr.D)
def y87_57 : Bool := (sameR (g158 (g78 a)).1.fr.A (g158 (g78 a)).1.fr.A)
def y87_58 : Bool := (sameR (g158 (g78 a)).1.fbus.Bytes (g158 (g78 a)).1.fbus.Bytes)
def y87_59 : Bool := (sameR (g158 (g78 a)).1.fbus.Log (g158 (g78 a)).1.fbus.Log)
def y87_60 : Bool := (((y87_33 a) && ((y87_34 a) && ((y87_35 a) && ((y87_36 a) && ((y87_37 a) && ((y87_38 a) && ((y87_39 a) && ((y87_40 a) && ((same (α := Nat) (y87_7 a) (y87_7 a)) && ((y87_55 a) && ((same (α := Bool) a.Stop a.Stop) && ((same (α := Int) 8 8) && (y87_54 a))))))))))))) && ((y87_42 a) && ((y87_56 a) && ((y87_57 a) && ((sameR (g161 a.R).D (g161 a.R).D) && ((sameR (g161 a.R).A (g161 a.R).A) && ((y87_58 a) && ((y87_59 a) && ((sameR (y87_51 a).R.D (y87_51 a).R.D) && ((sameR (y87_51 a).R.A (y87_51 a).R.A) && ((sameR (y87_51 a).Bus.Bytes (y87_51 a).Bus.Bytes) && ((sameR (y87_51 a).Bus.Log (y87_51 a).Bus.Log) && true))))))))))))
def y87_61 : Bool := ((y87_28 a) && ((y87_53 a) && (((same (α := Int) 8 8) && (y87_54 a)) && (y87_60 a))))
def y87_62 : Bool := ((eqN (ln (y87_51 a).R.D) (ln (y87_51 a).R.D)) && ((eqN (ln (y87_51 a).R.A) (ln (y87_51 a).R.A)) && ((eqN (ln (y87_51 a).Bus.Bytes) (ln (y87_51 a).Bus.Bytes)) && ((eqN (ln (y87_51 a).Bus.Log) (ln (y87_51 a).Bus.Log)) && true))))
def y87_63 : Gl10M := (g160 (g158 (g78 a)).2.1 (g78 a).fr.PC { (g158 (g78 a)).1 with fr := { (g158 (g78 a)).1.fr with PC := (andI (addI (g78 a).fr.PC (mulI 2 (g158 (g78 a)).2.2)) 65535) } })
def y87_64 : Bool := (eqN (ln (y87_63 a).fr.D) (ln (y87_63 a).fr.D))
def y87_65 : Bool := (eqN (ln (y87_63 a).fr.A) (ln (y87_63 a).fr.A))
def y87_66 : Bool := (eqN (ln (y87_63 a).fbus.Bytes) (ln (y87_63 a).fbus.Bytes))
def y87_67 : Bool := (eqN (ln (y87_63 a).fbus.Log) (ln (y87_63 a).fbus.Log))
def y87_68 : Bool := ((y87_64 a) && ((y87_65 a) && ((y87_66 a) && ((y87_67 a) && true))))
def y87_69 : Nat := (ln (g80 (y87_63 a)).Bus.Bytes)
def y87_70 : Bool := ((eqN (ln (g80 (y87_63 a)).R.D) (ln (g80 (y87_63 a)).R.D)) && ((eqN (ln (g80 (y87_63 a)).R.A) (ln (g80 (y87_63 a)).R.A)) && ((eqN (y87_69 a) (y87_69 a)) && ((eqN (ln (g80 (y87_63 a)).Bus.Log) (ln (g80 (y87_63 a)).Bus.Log)) && true))))
def y87_71 : Bool := ((y87_23 a) && ((y87_24 a) && ((y87_66 a) && ((y87_67 a) && true))))
def y87_72 : Bool := ((((((y87_71 a) && (y87_71 a)) && true) && ((y87_23 a) && ((y87_24 a) && ((y87_66 a) && ((y87_67 a) && (k80 { (y87_63 a) with fr := (g161 a.R), fstop := a.Stop })))))) && true) && true)
def y87_73 : GCpu := (g80 { (y87_63 a) with fr := (g161 a.R), fstop := a.Stop })
def y87_74 : Bool := ((same (α := Bool) (y87_73 a).R.Super (y87_73 a).R.Super) && ((same (α := Bool) (y87_73 a).R.Trace (y87_73 a).R.Trace) && ((same (α := Nat) (ln (y87_73 a).Bus.Bytes) (ln (y87_73 a).Bus.Bytes)) && ((same (α := Nat) (ln (y87_73 a).Bus.Log) (ln (y87_73 a).Bus.Log)) && ((same (α := Bool) (y87_73 a).Stop (y87_73 a).Stop) && ((same (α := Bool) (y87_73 a).Halt (y87_73 a).Halt) && true))))))
def y87_75 : Bool := ((same (α := Nat) (ln (y87_73 a).R.D) (ln (y87_73 a).R.D)) && ((same (α := Nat) (ln (y87_73 a).R.A) (ln (y87_73 a).R.A)) && ((same (α := Int) (y87_73 a).R.Other (y87_73 a).R.Other) && ((same (α := Int) (y87_73 a).R.PC (y87_73 a).R.PC) && ((same (α := Int) (y87_73 a).R.Flags (y87_73 a).R.Flags) && ((same (α := Int) (y87_73 a).R.Mask (y87_73 a).R.Mask) && (y87_74 a)))))))
def y87_76 : Bool := ((same (α := Int) (y87_63 a).ffault.Vector (y87_63 a).ffault.Vector) && ((same (α := Int) (y87_63 a).ffault.PC (y87_63 a).ffault.PC) && ((same (α := Int) (y87_63 a).ffault.Addr (y87_63 a).ffault.Addr) && ((same (α := Int) (y87_63 a).ffault.Word (y87_63 a).ffault.Word) && ((same (α := Bool) (y87_63 a).ffault.Write (y87_63 a).ffault.Write) && true)))))
def y87_77 : Bool := ((sameR (y87_63 a).fr.A (y87_63 a).fr.A) && ((sameR (g161 a.R).D (g161 a.R).D) && ((sameR (g161 a.R).A (g161 a.R).A) && ((sameR (y87_63 a).fbus.Bytes (y87_63 a).fbus.Bytes) && ((sameR (y87_63 a).fbus.Log (y87_63 a).fbus.Log) && ((sameR (y87_73 a).R.D (y87_73 a).R.D) && ((sameR (y87_73 a).R.A (y87_73 a).R.A) && ((sameR (y87_73 a).Bus.Bytes (y87_73 a).Bus.Bytes) && ((sameR (y87_73 a).Bus.Log (y87_73 a).Bus.Log) && true)))))))))
def y87_78 : Bool := (((y87_33 a) && ((y87_34 a) && ((y87_35 a) && ((y87_36 a) && ((y87_37 a) && ((y87_38 a) && ((y87_39 a) && ((y87_40 a) && ((same (α := Nat) (ln (y87_63 a).fbus.Bytes) (ln (y87_63 a).fbus.Bytes)) && ((same (α := Nat) (ln (y87_63 a).fbus.Log) (ln (y87_63 a).fbus.Log)) && ((same (α := Bool) a.Stop a.Stop) && (y87_76 a)))))))))))) && ((y87_42 a) && ((sameR (y87_63 a).fr.D (y87_63 a).fr.D) && (y87_77 a))))
def y87_79 : Bool := ((y87_28 a) && ((y87_75 a) && ((y87_76 a) && (y87_78 a))))
def y87_80 : Bool := ((eqN (ln (y87_73 a).R.D) (ln (y87_73 a).R.D)) && ((eqN (ln (y87_73 a).R.A) (ln (y87_73 a).R.A)) && ((eqN (ln (y87_73 a).Bus.Bytes) (ln (y87_73 a).Bus.Bytes)) && ((eqN (ln (y87_73 a).Bus.Log) (ln (y87_73 a).Bus.Log)) && true))))
def y87_81 : Nat := (ln (g80 (g158 (g78 a)).1).R.D)
def y87_82 : Nat := (ln (g80 (g158 (g78 a)).1).R.A)
def y87_83 : Nat := (ln (g80 (g158 (g78 a)).1).Bus.Bytes)
def y87_84 : Nat := (ln (g80 (g158 (g78 a)).1).Bus.Log)
def y87_85 : Bool := ((eqN (y87_81 a) (y87_81 a)) && ((eqN (y87_82 a) (y87_82 a)) && ((eqN (y87_83 a) (y87_83 a)) && ((eqN (y87_84 a) (y87_84 a)) && true))))
def y87_86 : Bool := ((((((y87_49 a) && (y87_49 a)) && true) && ((y87_23 a) && ((y87_24 a) && ((eqN (y87_7 a) (y87_7 a)) && ((y87_8 a) && (k80 { (g158 (g78 a)).1 with fr := (g161 a.R), fstop := a.Stop })))))) && true) && true)
def y87_87 : GCpu := (g80 { (g158 (g78 a)).1 with fr := (g161 a.R), fstop := a.Stop })
def y87_88 : Bool := ((same (α := Bool) (y87_87 a).R.Super (y87_87 a).R.Super) && ((same (α := Bool) (y87_87 a).R.Trace (y87_87 a).R.Trace) && ((same (α := Nat) (ln (y87_87 a).Bus.Bytes) (ln (y87_87 a).Bus.Bytes)) && ((same (α := Nat) (ln (y87_87 a).Bus.Log) (ln (y87_87 a).Bus.Log)) && ((same (α := Bool) (y87_87 a).Stop (y87_87 a).Stop) && ((same (α := Bool) (y87_87 a).Halt (y87_87 a).Halt) && true))))))
def y87_89 : Bool := ((same (α := Nat) (ln (y87_87 a).R.D) (ln (y87_87 a).R.D)) && ((same (α := Nat) (ln (y87_87 a).R.A) (ln (y87_87 a).R.A)) && ((same (α := Int) (y87_87 a).R.Other (y87_87 a).R.Other) && ((same (α := Int) (y87_87 a).R.PC (y87_87 a).R.PC) && ((same (α := Int) (y87_87 a).R.Flags (y87_87 a).R.Flags) && ((same (α := Int) (y87_87 a).R.Mask (y87_87 a).R.Mask) && (y87_88 a)))))))
def y87_90 : Bool := ((same (α := Int) (g158 (g78 a)).1.ffault.Vector (g158 (g78 a)).1.ffault.Vector) && (y87_54 a))
def y87_91 : Bool := (((y87_33 a) && ((y87_34 a) && ((y87_35 a) && ((y87_36 a) && ((y87_37 a) && ((y87_38 a) && ((y87_39 a) && ((y87_40 a) && ((same (α := Nat) (y87_7 a) (y87_7 a)) && ((y87_55 a) && ((same (α := Bool) a.Stop a.Stop) && (y87_90 a)))))))))))) && ((y87_42 a) && ((y87_56 a) && ((y87_57 a) && ((sameR (g161 a.R).D (g161 a.R).D) && ((sameR (g161 a.R).A (g161 a.R).A) && ((y87_58 a) && ((y87_59 a) && ((sameR (y87_87 a).R.D (y87_87 a).R.D) && ((sameR (y87_87 a).R.A (y87_87 a).R.A) && ((sameR (y87_87 a).Bus.Bytes (y87_87 a).Bus.Bytes) && ((sameR (y87_87 a).Bus.Log (y87_87 a).Bus.Log) && true))))))))))))
def y87_92 : Bool := ((y87_28 a) && ((y87_89 a) && ((y87_90 a) && (y87_91 a))))
def y87_93 : Bool := ((eqN (ln (y87_87 a).R.D) (ln (y87_87 a).R.D)) && ((eqN (ln (y87_87 a).R.A) (ln (y87_87 a).R.A)) && ((eqN (ln (y87_87 a).Bus.Bytes) (ln (y87_87 a).Bus.Bytes)) && ((eqN (ln (y87_87 a).Bus.Log) (ln (y87_87 a).Bus.Log)) && true))))
end
def T87 (a : GCpu) : Pt (GCpu × GFault) := (.ok true (.ok ((k78 a) && true) (.ok true (.ok (((((y87_4 a) && (y87_4 a)) && true) && ((y87_0 a) && ((y87_1 a) && ((y87_2 a) && ((y87_3 a) && (k158 (g78 a))))))) && true) (.ok ((y87_11 a) && ((((k159 (g158 (g78 a)).2.1) && true) || (!(g81 (g158 (g78 a)).1))) && true)) (.br (bif (bif (g81 (g158 (g78 a)).1) then (g159 (g158 (g78 a)).2.1) else false) then (!(g158 (g78 a)).1.fr.Super) else false) (.ok true (.ok (y87_14 a) (.br (g81 (y87_13 a)) (.ok true (.ok (((((y87_10 a) && (y87_10 a)) && true) && ((y87_5 a) && ((y87_6 a) && ((eqN (y87_7 a) (y87_7 a)) && ((y87_8 a) && (k160 (g158 (g78 a)).2.1 (g78 a).fr.PC { (g158 (g78 a)).1 with fr := { (g158 (g78 a)).1.fr with PC := (andI (addI (g78 a).fr.PC (mulI 2 (g158 (g78 a)).2.2)) 65535) }, ffault := (y87_12 a) })))))) && true) (.ok (((((y87_20 a) && (y87_20 a)) && true) && ((y87_16 a) && ((y87_17 a) && ((y87_18 a) && ((y87_19 a) && (k81 (y87_15 a))))))) && true) (.br (g81 (y87_15 a)) (.ok (((((y87_20 a) && (y87_20 a)) && true) && ((y87_16 a) && ((y87_17 a) && ((y87_18 a) && ((y87_19 a) && (k80 (y87_15 a))))))) && true) (.ok ((y87_22 a) && ((y87_22 a) && true)) (.leaf ((g80 (y87_15 a)), (GFault.mk 0 0 0 0 false))))) (.ok ((k161 a.R) && true) (.ok true (.ok ((y87_26 a) && (((y87_26 a) && ((y87_26 a) && (y87_45 a))) && (y87_45 a))) (.ok ((y87_46 a) && ((y87_46 a) && true)) (.leaf ((y87_29 a), (y87_15 a).ffault)))))))))) (.ok (y87_14 a) (.br (g81 (y87_13 a)) (.ok (((((y87_10 a) && (y87_10 a)) && true) && ((y87_5 a) && ((y87_6 a) && ((eqN (y87_7 a) (y87_7 a)) && ((y87_8 a) && (k80 (y87_13 a))))))) && true) (.ok ((y87_48 a) && ((y87_48 a) && true)) (.leaf ((g80 (y87_13 a)), (GFault.mk 0 0 0 0 false))))) (.ok ((k161 a.R) && true) (.ok true (.ok ((y87_50 a) && (((y87_50 a) && ((y87_50 a) && (y87_61 a))) && (y87_61 a))) (.ok ((y87_62 a) && ((y87_62 a) && true)) (.leaf ((y87_51 a), (y87_12 a)))))))))))) (.ok ((y87_11 a) && true) (.br (g81 (g158 (g78 a)).1) (.ok true (.ok (((((y87_10 a) && (y87_10 a)) && true) && ((y87_5 a) && ((y87_6 a) && ((eqN (y87_7 a) (y87_7 a)) && ((y87_8 a) && (k160 (g158 (g78 a)).2.1 (g78 a).fr.PC { (g158 (g78 a)).1 with fr := { (g158 (g78 a)).1.fr with PC := (andI (addI (g78 a).fr.PC (mulI 2 (g158 (g78 a)).2.2)) 65535) } })))))) && true) (.ok (((((y87_68 a) && (y87_68 a)) && true) && ((y87_64 a) && ((y87_65 a) && ((y87_66 a) && ((y87_67 a) && (k81 (y87_63 a))))))) && true) (.br (g81 (y87_63 a)) (.ok (((((y87_68 a) && (y87_68 a)) && true) && ((y87_64 a) && ((y87_65 a) && ((y87_66 a) && ((y87_67 a) && (k80 (y87_63 a))))))) && true) (.ok ((y87_70 a) && ((y87_70 a) && true)) (.leaf ((g80 (y87_63 a)), (GFault.mk 0 0 0 0 false))))) (.ok ((k161 a.R) && true) (.ok true (.ok ((y87_72 a) && (((y87_72 a) && ((y87_72 a) && (y87_79 a))) && (y87_79 a))) (.ok ((y87_80 a) && ((y87_80 a) && true)) (.leaf ((y87_73 a), (y87_63 a).ffault)))))))))) (.ok ((y87_11 a) && true) (.br (g81 (g158 (g78 a)).1) (.ok (((((y87_10 a) && (y87_10 a)) && true) && ((y87_5 a) && ((y87_6 a) && ((eqN (y87_7 a) (y87_7 a)) && ((y87_8 a) && (k80 (g158 (g78 a)).1)))))) && true) (.ok ((y87_85 a) && ((y87_85 a) && true)) (.leaf ((g80 (g158 (g78 a)).1), (GFault.mk 0 0 0 0 false))))) (.ok ((k161 a.R) && true) (.ok true (.ok ((y87_86 a) && (((y87_86 a) && ((y87_86 a) && (y87_92 a))) && (y87_92 a))) (.ok ((y87_93 a) && ((y87_93 a) && true)) (.leaf ((y87_87 a), (g158 (g78 a)).1.ffault))))))))))))))))
def g87 (a : GCpu) : GCpu × GFault := hid (T87 a).val
def k87 (a : GCpu) : Bool := hid (T87 a).okv
def n87 (a : GCpu) (r : GCpu × GFault) : SV × List Blk := ((.tup [(.agg [.sl 0 0 (ln r.1.R.D), .sl 1 0 (ln r.1.R.A), li r.1.R.Other, li r.1.R.PC, li r.1.R.Flags, li r.1.R.Mask, .lit (.bool r.1.R.Super), .lit (.bool r.1.R.Trace), .sl 2 0 (ln r.1.Bus.Bytes), .sl 3 0 (ln r.1.Bus.Log), .lit (.bool r.1.Stop), .lit (.bool r.1.Halt)]), (.agg [li r.2.Vector, li r.2.PC, li r.2.Addr, li r.2.Word, .lit (.bool r.2.Write)])]), [.lst 1 r.1.R.D, .lst 1 r.1.R.A, .lst 1 r.1.Bus.Bytes, .lst 5 r.1.Bus.Log])
def q87 := DS50 (fun a => n87 a (g87 a)) k87
theorem t87 : Con 87 q87 := DS50_t fun a hk => tc at87 Q160_ok [(8, K8), (14, K0), (23, K5), (31, K11), (50, K5), (60, K6), (66, K11), (74, K12)] [] true (T87 a) (n87 a) hk
def Q87 := qcons 87 q87 Q160
theorem Q87_ok : QO Q87 := qcons_ok t87 Q160_ok
section
variable (a : List Row)
def y17_0 : Gl1Cur × Bool := (g86 2 (g71 (Gl1Cur.mk a 0 0)).1)
def y17_1 : Nat := (ln (g71 (Gl1Cur.mk a 0 0)).2.R.D)
def y17_2 : Nat := (ln (g71 (Gl1Cur.mk a 0 0)).2.R.A)
def y17_3 : Nat := (ln (g71 (Gl1Cur.mk a 0 0)).2.Bus.Bytes)
def y17_4 : Nat := (ln (g71 (Gl1Cur.mk a 0 0)).2.Bus.Log)
def y17_5 : Bool := ((eqN (y17_1 a) (y17_1 a)) && ((eqN (y17_2 a) (y17_2 a)) && ((eqN (y17_3 a) (y17_3 a)) && ((eqN (y17_4 a) (y17_4 a)) && true))))
def y17_6 : Bool := ((same (α := Bool) (g71 (Gl1Cur.mk a 0 0)).2.R.Super (g71 (Gl1Cur.mk a 0 0)).2.R.Super) && ((same (α := Bool) (g71 (Gl1Cur.mk a 0 0)).2.R.Trace (g71 (Gl1Cur.mk a 0 0)).2.R.Trace) && ((same (α := Nat) (y17_3 a) (y17_3 a)) && ((same (α := Nat) (y17_4 a) (y17_4 a)) && ((same (α := Bool) (g71 (Gl1Cur.mk a 0 0)).2.Stop (g71 (Gl1Cur.mk a 0 0)).2.Stop) && ((same (α := Bool) (g71 (Gl1Cur.mk a 0 0)).2.Halt (g71 (Gl1Cur.mk a 0 0)).2.Halt) && true))))))
def y17_7 : Bool := ((same (α := Nat) (y17_2 a) (y17_2 a)) && ((same (α := Int) (g71 (Gl1Cur.mk a 0 0)).2.R.Other (g71 (Gl1Cur.mk a 0 0)).2.R.Other) && ((same (α := Int) (g71 (Gl1Cur.mk a 0 0)).2.R.PC (g71 (Gl1Cur.mk a 0 0)).2.R.PC) && ((same (α := Int) (g71 (Gl1Cur.mk a 0 0)).2.R.Flags (g71 (Gl1Cur.mk a 0 0)).2.R.Flags) && ((same (α := Int) (g71 (Gl1Cur.mk a 0 0)).2.R.Mask (g71 (Gl1Cur.mk a 0 0)).2.R.Mask) && (y17_6 a))))))
def y17_8 : Bool := ((same (α := Nat) (y17_1 a) (y17_1 a)) && (y17_7 a))
def y17_9 : GCpu × GFault := (g87 (g71 (Gl1Cur.mk a 0 0)).2)
def y17_10 : Bool := ((same (α := Bool) (y17_9 a).1.R.Super (y17_9 a).1.R.Super) && ((same (α := Bool) (y17_9 a).1.R.Trace (y17_9 a).1.R.Trace) && ((same (α := Nat) (ln (y17_9 a).1.Bus.Bytes) (ln (y17_9 a).1.Bus.Bytes)) && ((same (α := Nat) (ln (y17_9 a).1.Bus.Log) (ln (y17_9 a).1.Bus.Log)) && ((same (α := Bool) (y17_9 a).1.Stop (y17_9 a).1.Stop) && ((same (α := Bool) (y17_9 a).1.Halt (y17_9 a).1.Halt) && true))))))
def y17_11 : Bool := ((same (α := Nat) (ln (y17_9 a).1.R.D) (ln (y17_9 a).1.R.D)) && ((same (α := Nat) (ln (y17_9 a).1.R.A) (ln (y17_9 a).1.R.A)) && ((same (α := Int) (y17_9 a).1.R.Other (y17_9 a).1.R.Other) && ((same (α := Int) (y17_9 a).1.R.PC (y17_9 a).1.R.PC) && ((same (α := Int) (y17_9 a).1.R.Flags (y17_9 a).1.R.Flags) && ((same (α := Int) (y17_9 a).1.R.Mask (y17_9 a).1.R.Mask) && (y17_10 a)))))))
def y17_12 : Bool := (((same (α := Bool) true true) && (sameR (y17_0 a).1.fcode (y17_0 a).1.fcode)) && ((same (α := Int) (y17_0 a).1.fat (y17_0 a).1.fat) && ((same (α := Int) (y17_0 a).1.fseed (y17_0 a).1.fseed) && true)))
def y17_13 : Bool := (sameR (g71 (Gl1Cur.mk a 0 0)).2.R.D (g71 (Gl1Cur.mk a 0 0)).2.R.D)
def y17_14 : Bool := (sameR (g71 (Gl1Cur.mk a 0 0)).2.R.A (g71 (Gl1Cur.mk a 0 0)).2.R.A)
def y17_15 : Bool := (sameR (g71 (Gl1Cur.mk a 0 0)).2.Bus.Bytes (g71 (Gl1Cur.mk a 0 0)).2.Bus.Bytes)
def y17_16 : Bool := (sameR (g71 (Gl1Cur.mk a 0 0)).2.Bus.Log (g71 (Gl1Cur.mk a 0 0)).2.Bus.Log)
def y17_17 : Bool := ((sameR (y17_9 a).1.Bus.Bytes (y17_9 a).1.Bus.Bytes) && ((sameR (y17_9 a).1.Bus.Log (y17_9 a).1.Bus.Log) && ((y17_11 a) && (((same (α := Int) (y17_9 a).2.Vector (y17_9 a).2.Vector) && ((same (α := Int) (y17_9 a).2.PC (y17_9 a).2.PC) && ((same (α := Int) (y17_9 a).2.Addr (y17_9 a).2.Addr) && ((same (α := Int) (y17_9 a).2.Word (y17_9 a).2.Word) && ((same (α := Bool) (y17_9 a).2.Write (y17_9 a).2.Write) && true))))) && true))))
def y17_18 : Bool := ((eqN (ln (y17_9 a).1.R.D) (ln (y17_9 a).1.R.D)) && ((eqN (ln (y17_9 a).1.R.A) (ln (y17_9 a).1.R.A)) && ((eqN (ln (y17_9 a).1.Bus.Bytes) (ln (y17_9 a).1.Bus.Bytes)) && ((eqN (ln (y17_9 a).1.Bus.Log) (ln (y17_9 a).1.Bus.Log)) && true))))
end
def T17 (a : List Row) : Pt (GCpu × GCpu) := (.ok true (.ok true (.ok ((k71 (Gl1Cur.mk a 0 0)) && true) (.ok ((k86 2 (g71 (Gl1Cur.mk a 0 0)).1) && true) (.br (y17_0 a).2 (.ok ((((y17_5 a) && true) && (k87 (g71 (Gl1Cur.mk a 0 0)).2)) && true) (.ok ((y17_8 a) && ((y17_11 a) && ((y17_12 a) && ((y17_13 a) && ((y17_14 a) && ((y17_15 a) && ((y17_16 a) && ((y17_8 a) && ((sameR (y17_9 a).1.R.D (y17_9 a).1.R.D) && ((sameR (y17_9 a).1.R.A (y17_9 a).1.R.A) && (y17_17 a))))))))))) (.ok (((eqN (y17_1 a) (y17_1 a)) && ((eqN (y17_2 a) (y17_2 a)) && ((eqN (y17_3 a) (y17_3 a)) && ((eqN (y17_4 a) (y17_4 a)) && (y17_18 a))))) && ((y17_5 a) && ((y17_18 a) && true))) (.ok ((y17_5 a) && ((y17_18 a) && true)) (.leaf ((g71 (Gl1Cur.mk a 0 0)).2, (y17_9 a).1)))))) (.ok ((y17_8 a) && ((y17_8 a) && ((y17_12 a) && ((y17_13 a) && ((y17_14 a) && ((y17_15 a) && ((y17_16 a) && ((y17_8 a) && true)))))))) (.ok (((eqN (y17_4 a) (y17_4 a)) && ((eqN (y17_3 a) (y17_3 a)) && ((eqN (y17_2 a) (y17_2 a)) && ((eqN (y17_1 a) (y17_1 a)) && true)))) && ((y17_5 a) && ((y17_5 a) && ((y17_5 a) && true)))) (.ok ((y17_5 a) && ((y17_5 a) && true)) (.leaf ((g71 (Gl1Cur.mk a 0 0)).2, (g71 (Gl1Cur.mk a 0 0)).2))))))))))
def g17 (a : List Row) : GCpu × GCpu := hid (T17 a).val
def k17 (a : List Row) : Bool := hid (T17 a).okv
def n17 (a : List Row) (r : GCpu × GCpu) : SV × List Blk := ((.tup [(.agg [.imm true 1 r.1.R.D, .imm true 1 r.1.R.A, li r.1.R.Other, li r.1.R.PC, li r.1.R.Flags, li r.1.R.Mask, .lit (.bool r.1.R.Super), .lit (.bool r.1.R.Trace), .imm true 1 r.1.Bus.Bytes, .imm true 5 r.1.Bus.Log, .lit (.bool r.1.Stop), .lit (.bool r.1.Halt)]), (.agg [.imm true 1 r.2.R.D, .imm true 1 r.2.R.A, li r.2.R.Other, li r.2.R.PC, li r.2.R.Flags, li r.2.R.Mask, .lit (.bool r.2.R.Super), .lit (.bool r.2.R.Trace), .imm true 1 r.2.Bus.Bytes, .imm true 5 r.2.Bus.Log, .lit (.bool r.2.Stop), .lit (.bool r.2.Halt)])]), [])
def q17 := DS13 (fun a => n17 a (g17 a)) k17
theorem t17 : Con 100017 q17 := DS13_t fun a hk => tz at17 Q87_ok [(16, K8), (20, K8), (21, K8), (22, K8), (23, K8)] [] true (T17 a) (n17 a) hk
def Q17 := qcons 100017 q17 Q87
theorem Q17_ok : QO Q17 := qcons_ok t17 Q87_ok
structure V88_0 where
 mk ::
 (b0 : Gl1Cur)
 (s1 : Int)
 (s5 : List Row)
section
variable (v : V88_0)
def y88_0_l_0 : Nat := (ln (v.s5 ++ [(rowI (g89 256 v.b0).2)]))
def y88_0_l_1 : Bool := ((eqN (y88_0_l_0 v) (y88_0_l_0 v)) && true)
end
def N88_0 (v : V88_0) : Pt (Option V88_0) := (.ok true (.br (gtI v.s1 0) (.ok ((k89 256 v.b0) && (((eqN (ln v.s5) (ln v.s5)) && ((eqN (0 + (ln v.s5)) (ln v.s5)) && ((leN (mulN ((ln v.s5) + 1) 8) 140737488355328) && (leN ((ln v.s5) + 1) 140737488355328)))) && true)) (.ok true (.ok ((y88_0_l_1 v) && (y88_0_l_1 v)) (.leaf (some (V88_0.mk (g89 256 v.b0).1 (subI v.s1 1) (v.s5 ++ [(rowI (g89 256 v.b0).2)]))))))) (.leaf none)))
def s88_0 (v : V88_0) : St := ⟨[(0, (.one (.ptr 0 0 0))), (1, (.one (li v.s1))), (5, (.one (.sl 1 0 (ln v.s5))))], [.box [.imm true 1 v.b0.fcode, li v.b0.fat, .lit (.int .u64 v.b0.fseed)], .lst 1 v.s5]⟩
def u88_0 : St → Option (V88_0 × Bool)
 | ⟨[(0, (.one (.ptr 0 0 0))), (1, (.one (li c3))), (5, (.one (.sl 1 0 l1)))], [.box [.imm true 1 c0, li c1, .lit (.int .u64 c2)], .lst 1 c_1]⟩ => some ((V88_0.mk (Gl1Cur.mk c0 c1 c2) c3 c_1), eqN l1 (ln c_1) && (true))
 | _ => none
def ev88_0 : St → Option (Pt Out) := evp Q17 [] [] true [] 1 2097152 F88b0
theorem hN88_0 (v : V88_0) : ((ev88_0 (s88_0 v)).bind (stpT true false 1 [0, 1, 5])) = some ((N88_0 v).map (Option.map s88_0)) := by kernel_rfl
theorem hu88_0 (σ : St) (v : V88_0) (h : u88_0 σ = some (v, true)) : σ = s88_0 v := by
 unfold u88_0 at h
 split at h
 ·obtain ⟨hr, hk⟩ := qp (qi h)
  obtain ⟨d0, hk0⟩ := and_t hk
  obtain rfl := of_decide_eq_true d0
  rw [← hr]
  rfl
 ·simp at h
theorem lt88_0 : TellsP (lqP true false 1 [0, 1, 5] ev88_0 u88_0 s88_0 N88_0 2097152) (evc R 1 2097152 (.loop [0, 1, 5] F88b0)) := lqP_tells (evp_tells Q17_ok (loops_of (l := []) (by kernel_rfl) trivial)) hu88_0 hN88_0
def lq88_0 : Lp   := (6, lqP true false 1 [0, 1, 5] ev88_0 u88_0 s88_0 N88_0 2097152) :: []
def w88_0 (v : V88_0) : V88_0 := (hid (loopV N88_0 2097152 v)).getD v
def i88_0 (v : V88_0) : Bool := (hid (loopV N88_0 2097152 v)).isSome
section
variable (b : Int) (a : Gl1Cur)
def y88_0 : V88_0 := (w88_0 (V88_0.mk a b []))
def y88_1 : Bool := ((eqN (ln (y88_0 b a).s5) (ln (y88_0 b a).s5)) && true)
end
def T88 (b : Int) (a : Gl1Cur) : Pt (Gl1Cur × List Row) := (.ok true (.ok true (.ok true (.ok true (.ok (i88_0 (V88_0.mk a b [])) (.ok true (.ok ((y88_1 b a) && (y88_1 b a)) (.leaf ((y88_0 b a).b0, (y88_0 b a).s5)))))))))
def g88 (b : Int) (a : Gl1Cur) : Gl1Cur × List Row := hid (T88 b a).val
def k88 (b : Int) (a : Gl1Cur) : Bool := hid (T88 b a).okv
def n88 (b : Int) (a : Gl1Cur) (r : Gl1Cur × List Row) : SV × List Blk := ((.one (.sl 1 0 (ln r.2))), [.box [.imm true 1 r.1.fcode, li r.1.fat, .lit (.int .u64 r.1.fseed)], .lst 1 r.2])
def q88 := DS1 (fun b a => n88 b a (g88 b a)) k88
theorem hL88 : Loops (fun live x => TellsP (lpAt lq88_0 (tagC x)) (evc R 1 2097152 (.loop live x))) F88.body := (loops_of (l := [([0, 1, 5], F88b0)]) (by kernel_rfl) ⟨tellsAt (n := 6) (by kernel_rfl) fun σ σr t h ho hl => lt88_0 σ σr t h ho hl, trivial⟩)
theorem t88 : Con 88 q88 := DS1_t fun b a hk => tcl at88 Q17_ok hL88 [] [] true (T88 b a) (n88 b a) hk
def Q88 := qcons 88 q88 Q17
theorem Q88_ok : QO Q88 := qcons_ok t88 Q17_ok
section
variable (a : List Row)
def y18_0 : Gl1Cur × Int := (g89 10 (Gl1Cur.mk a 0 0))
def y18_1 : Gl1Cur × List Row := (g88 (y18_0 a).2 (y18_0 a).1)
def y18_2 : Bool := ((eqN (ln (y18_1 a).2) (ln (y18_1 a).2)) && true)
end
def T18 (a : List Row) : Pt (List Row × Int) := (.ok true (.ok true (.ok ((k89 10 (Gl1Cur.mk a 0 0)) && ((k88 (y18_0 a).2 (y18_0 a).1) && ((k90 [(rowI (-1)), (rowI 0), (rowI 65535), (rowI 65536)] (y18_1 a).1) && true))) (.ok ((y18_2 a) && (y18_2 a)) (.ok (y18_2 a) (.leaf ((y18_1 a).2, (g90 [(rowI (-1)), (rowI 0), (rowI 65535), (rowI 65536)] (y18_1 a).1).2)))))))
def g18 (a : List Row) : List Row × Int := hid (T18 a).val
def k18 (a : List Row) : Bool := hid (T18 a).okv
def n18 (a : List Row) (r : List Row × Int) : SV × List Blk := ((.tup [(.one (.imm true 1 r.1)), (.one (li r.2))]), [])
def q18 := DS13 (fun a => n18 a (g18 a)) k18
theorem t18 : Con 100018 q18 := DS13_t fun a hk => tz at18 Q88_ok [] [] true (T18 a) (n18 a) hk
def Q18 := qcons 100018 q18 Q88
theorem Q18_ok : QO Q18 := qcons_ok t18 Q88_ok
def T225 (a : Int) : Pt (Bool) := (.ok true (.ok ((k106 a 0 255) && true) (.ok true (.leaf (!(g106 a 0 255))))))
def g225 (a : Int) : Bool := hid (T225 a).val
def k225 (a : Int) : Bool := hid (T225 a).okv
def q225 := DS2 (fun a => n240 a (g225 a)) k225
theorem t225 : Con 225 q225 := DS2_t fun a hk => tc at225 Q18_ok [] [] true (T225 a) (n240 a) hk
def Q225 := qcons 225 q225 Q18
theorem Q225_ok : QO Q225 := qcons_ok t225 Q18_ok
def AS51 (a : List Row) : List SV := [(.one (.imm true 1 a)), (.one (.clo 225 []))]
def HS51 (a : List Row) : List Blk := []
def DS51 (N : List Row → SV × List Blk) (K : List Row → Bool) : List SV → List Blk → Option ((SV × List Blk) × Bool)
 | [(.one (.imm true 1 c0)), (.one (.clo 225 []))], [] => some (N c0, K c0)
 | _, _ => none
theorem DS51_t {N : List Row → SV × List Blk} {K : List Row → Bool} {f : Nat} (h : ∀ (a : List Row), K a = true → frzR R f (AS51 a) (HS51 a) = some (N a)) : Con f (DS51 N K) := fun _ _ _ e => by
 unfold DS51 at e
 split at e
 ·exact dsf e (h _)
 ·cases e
structure V227v2_0 where
 mk ::
 (s0 : List Row)
 (s7 : Int)
 (s8 : Int)
def N227v2_0 (v : V227v2_0) : Pt (Option V227v2_0) := (.ok true (.br (ltI v.s8 v.s7) (.ok true (.ok ((inRow [.int .i64] v.s0 v.s8) && ((k225 (intAt v.s0 (Int.toNat v.s8) 0)) && true)) (.br (g225 (intAt v.s0 (Int.toNat v.s8) 0)) (.ok true (.leaf none)) (.ok true (.ok true (.leaf (some { v with s8 := (addI v.s8 1) }))))))) (.leaf none)))
def s227v2_0 (v : V227v2_0) : St := ⟨[(0, (.one (.imm true 1 v.s0))), (1, (.one (.clo 225 []))), (7, (.one (li v.s7))), (8, (.one (li v.s8)))], []⟩
def u227v2_0 : St → Option (V227v2_0 × Bool)
 | ⟨[(0, (.one (.imm true 1 c0))), (1, (.one (.clo 225 []))), (7, (.one (li c1))), (8, (.one (li c2)))], []⟩ => some ((V227v2_0.mk c0 c1 c2), true)
 | _ => none
def ev227v2_0 : St → Option (Pt Out) := evp Q225 [(14, K0), (15, K0)] [] true [] 0 2097152 F227b0
theorem hN227v2_0 (v : V227v2_0) : ((ev227v2_0 (s227v2_0 v)).bind (stpT true false 0 [0, 1, 7, 8])) = some ((N227v2_0 v).map (Option.map s227v2_0)) := by kernel_rfl
theorem hu227v2_0 (σ : St) (v : V227v2_0) (h : u227v2_0 σ = some (v, true)) : σ = s227v2_0 v := by
 unfold u227v2_0 at h
 split at h
 ·obtain ⟨hr, hk⟩ := qp (qi h)
  rw [← hr]
  rfl
 ·simp at h
theorem lt227v2_0 : TellsP (lqP true false 0 [0, 1, 7, 8] ev227v2_0 u227v2_0 s227v2_0 N227v2_0 2097152) (evc R 0 2097152 (.loop [0, 1, 7, 8] F227b0)) := lqP_tells (evp_tells Q225_ok (loops_of (l := []) (by kernel_rfl) trivial)) hu227v2_0 hN227v2_0
def lq227v2_0 : Lp   := (9, lqP true false 0 [0, 1, 7, 8] ev227v2_0 u227v2_0 s227v2_0 N227v2_0 2097152) :: []
def w227v2_0 (v : V227v2_0) : V227v2_0 := (hid (loopV N227v2_0 2097152 v)).getD v
def i227v2_0 (v : V227v2_0) : Bool := (hid (loopV N227v2_0 2097152 v)).isSome
section
variable (a : List Row)
def y227v2_0 : V227v2_0 := (w227v2_0 (V227v2_0.mk a (lenI a) 0))
end
def T227v2 (a : List Row) : Pt (Int) := (.ok true (.ok true (.ok true (.ok true (.ok (i227v2_0 (V227v2_0.mk a (lenI a) 0)) (.br (ltI (y227v2_0 a).s8 (y227v2_0 a).s7) (.ok true (.leaf (y227v2_0 a).s8)) (.ok true (.ok true (.leaf (-1))))))))))
def g227v2 (a : List Row) : Int := hid (T227v2 a).val
def k227v2 (a : List Row) : Bool := hid (T227v2 a).okv
def q227v2 := DS51 (fun a => n227 a (g227v2 a)) k227v2
theorem hL227v2 : Loops (fun live x => TellsP (lpAt lq227v2_0 (tagC x)) (evc R 0 2097152 (.loop live x))) F227.body := (loops_of (l := [([0, 1, 7, 8], F227b0)]) (by kernel_rfl) ⟨tellsAt (n := 9) (by kernel_rfl) fun σ σr t h ho hl => lt227v2_0 σ σr t h ho hl, trivial⟩)
theorem t227v2 : Con 227 q227v2 := DS51_t fun a hk => tcl at227 Q225_ok hL227v2 [(14, K0), (15, K0)] [] true (T227v2 a) (n227 a) hk
def Q227v2 := qcons 227 q227v2 Q225
theorem Q227v2_ok : QO Q227v2 := qcons_ok t227v2 Q225_ok
def T171v2 (a : List Row) : Pt (Bool) := (.ok true (.ok ((k227v2 a) && true) (.ok true (.leaf (geI (g227v2 a) 0)))))
def g171v2 (a : List Row) : Bool := hid (T171v2 a).val
def k171v2 (a : List Row) : Bool := hid (T171v2 a).okv
def q171v2 := DS51 (fun a => n164 a (g171v2 a)) k171v2
theorem t171v2 : Con 171 q171v2 := DS51_t fun a hk => tc at171 Q227v2_ok [] [] true (T171v2 a) (n164 a) hk
def Q171v2 := qcons 171 q171v2 Q227v2
theorem Q171v2_ok : QO Q171v2 := qcons_ok t171v2 Q227v2_ok
def AS52 (a : List Row) (b : Int) : List SV := [(.one (.imm true 1 a)), (.one (li b))]
def HS52 (a : List Row) (b : Int) : List Blk := []
def DS52 (N : List Row → Int → SV × List Blk) (K : List Row → Int → Bool) : List SV → List Blk → Option ((SV × List Blk) × Bool)
 | [(.one (.imm true 1 c0)), (.one (li c1))], [] => some (N c0 c1, K c0 c1)
 | _, _ => none
theorem DS52_t {N : List Row → Int → SV × List Blk} {K : List Row → Int → Bool} {f : Nat} (h : ∀ (a : List Row) (b : Int), K a b = true → frzR R f (AS52 a b) (HS52 a b) = some (N a b)) : Con f (DS52 N K) := fun _ _ _ e => by
 unfold DS52 at e
 split at e
 ·exact dsf e (h _ _)
 ·cases e
def T163 (a : List Row) (b : Int) : Pt (Bool) := (.ok true (.ok ((((k171v2 a) && true) || (!(leI (lenI a) b))) && true) (.ok true (.ok true (.leaf (bif (leI (lenI a) b) then (!(g171v2 a)) else false))))))
def g163 (a : List Row) (b : Int) : Bool := hid (T163 a b).val
def k163 (a : List Row) (b : Int) : Bool := hid (T163 a b).okv
def n163 (a : List Row) (b : Int) (r : Bool) : SV × List Blk := ((.one (.lit (.bool r))), [])
def q163 := DS52 (fun a b => n163 a b (g163 a b)) k163
theorem t163 : Con 100163 q163 := DS52_t fun a b hk => tz at163 Q171v2_ok [] [] true (T163 a b) (n163 a b) hk
def Q163 := qcons 100163 q163 Q171v2
theorem Q163_ok : QO Q163 := qcons_ok t163 Q171v2_ok
def AS53 (a : List Row) : List SV := [(.one (.imm false 1 a)), (.one (.clo 225 []))]
def HS53 (a : List Row) : List Blk := []
def DS53 (N : List Row → SV × List Blk) (K : List Row → Bool) : List SV → List Blk → Option ((SV × List Blk) × Bool)
 | [(.one (.imm false 1 c0)), (.one (.clo 225 []))], [] => some (N c0, K c0)
 | _, _ => none
theorem DS53_t {N : List Row → SV × List Blk} {K : List Row → Bool} {f : Nat} (h : ∀ (a : List Row), K a = true → frzR R f (AS53 a) (HS53 a) = some (N a)) : Con f (DS53 N K) := fun _ _ _ e => by
 unfold DS53 at e
 split at e
 ·exact dsf e (h _)
 ·cases e
structure V227v3_0 where
 mk ::
 (s0 : List Row)
 (s7 : Int)
 (s8 : Int)
def N227v3_0 (v : V227v3_0) : Pt (Option V227v3_0) := (.ok true (.br (ltI v.s8 v.s7) (.ok true (.ok ((inRow [.int .i64] v.s0 v.s8) && ((k225 (intAt v.s0 (Int.toNat v.s8) 0)) && true)) (.br (g225 (intAt v.s0 (Int.toNat v.s8) 0)) (.ok true (.leaf none)) (.ok true (.ok true (.leaf (some { v with s8 := (addI v.s8 1) }))))))) (.leaf none)))
def s227v3_0 (v : V227v3_0) : St := ⟨[(0, (.one (.imm false 1 v.s0))), (1, (.one (.clo 225 []))), (7, (.one (li v.s7))), (8, (.one (li v.s8)))], []⟩
def u227v3_0 : St → Option (V227v3_0 × Bool)
 | ⟨[(0, (.one (.imm false 1 c0))), (1, (.one (.clo 225 []))), (7, (.one (li c1))), (8, (.one (li c2)))], []⟩ => some ((V227v3_0.mk c0 c1 c2), true)
 | _ => none
def ev227v3_0 : St → Option (Pt Out) := evp Q163 [(14, K0), (15, K0)] [] true [] 0 2097152 F227b0
theorem hN227v3_0 (v : V227v3_0) : ((ev227v3_0 (s227v3_0 v)).bind (stpT true false 0 [0, 1, 7, 8])) = some ((N227v3_0 v).map (Option.map s227v3_0)) := by kernel_rfl
theorem hu227v3_0 (σ : St) (v : V227v3_0) (h : u227v3_0 σ = some (v, true)) : σ = s227v3_0 v := by
 unfold u227v3_0 at h
 split at h
 ·obtain ⟨hr, hk⟩ := qp (qi h)
  rw [← hr]
  rfl
 ·simp at h
theorem lt227v3_0 : TellsP (lqP true false 0 [0, 1, 7, 8] ev227v3_0 u227v3_0 s227v3_0 N227v3_0 2097152) (evc R 0 2097152 (.loop [0, 1, 7, 8] F227b0)) := lqP_tells (evp_tells Q163_ok (loops_of (l := []) (by kernel_rfl) trivial)) hu227v3_0 hN227v3_0
def lq227v3_0 : Lp   := (9, lqP true false 0 [0, 1, 7, 8] ev227v3_0 u227v3_0 s227v3_0 N227v3_0 2097152) :: []
def w227v3_0 (v : V227v3_0) : V227v3_0 := (hid (loopV N227v3_0 2097152 v)).getD v
def i227v3_0 (v : V227v3_0) : Bool := (hid (loopV N227v3_0 2097152 v)).isSome
section
variable (a : List Row)
def y227v3_0 : V227v3_0 := (w227v3_0 (V227v3_0.mk a (lenI a) 0))
end
def T227v3 (a : List Row) : Pt (Int) := (.ok true (.ok true (.ok true (.ok true (.ok (i227v3_0 (V227v3_0.mk a (lenI a) 0)) (.br (ltI (y227v3_0 a).s8 (y227v3_0 a).s7) (.ok true (.leaf (y227v3_0 a).s8)) (.ok true (.ok true (.leaf (-1))))))))))
def g227v3 (a : List Row) : Int := hid (T227v3 a).val
def k227v3 (a : List Row) : Bool := hid (T227v3 a).okv
def q227v3 := DS53 (fun a => n227 a (g227v3 a)) k227v3
theorem hL227v3 : Loops (fun live x => TellsP (lpAt lq227v3_0 (tagC x)) (evc R 0 2097152 (.loop live x))) F227.body := (loops_of (l := [([0, 1, 7, 8], F227b0)]) (by kernel_rfl) ⟨tellsAt (n := 9) (by kernel_rfl) fun σ σr t h ho hl => lt227v3_0 σ σr t h ho hl, trivial⟩)
theorem t227v3 : Con 227 q227v3 := DS53_t fun a hk => tcl at227 Q163_ok hL227v3 [(14, K0), (15, K0)] [] true (T227v3 a) (n227 a) hk
def Q227v3 := qcons 227 q227v3 Q163
theorem Q227v3_ok : QO Q227v3 := qcons_ok t227v3 Q163_ok
def T171v3 (a : List Row) : Pt (Bool) := (.ok true (.ok ((k227v3 a) && true) (.ok true (.leaf (geI (g227v3 a) 0)))))
def g171v3 (a : List Row) : Bool := hid (T171v3 a).val
def k171v3 (a : List Row) : Bool := hid (T171v3 a).okv
def q171v3 := DS53 (fun a => n164 a (g171v3 a)) k171v3
theorem t171v3 : Con 171 q171v3 := DS53_t fun a hk => tc at171 Q227v3_ok [] [] true (T171v3 a) (n164 a) hk
def Q171v3 := qcons 171 q171v3 Q227v3
theorem Q171v3_ok : QO Q171v3 := qcons_ok t171v3 Q227v3_ok
def T163v1 (a : List Row) (b : Int) : Pt (Bool) := (.ok true (.ok ((((k171v3 a) && true) || (!(leI (lenI a) b))) && true) (.ok true (.ok true (.leaf (bif (leI (lenI a) b) then (!(g171v3 a)) else false))))))
def g163v1 (a : List Row) (b : Int) : Bool := hid (T163v1 a b).val
def k163v1 (a : List Row) (b : Int) : Bool := hid (T163v1 a b).okv
def q163v1 := DS12 (fun a b => n163 a b (g163v1 a b)) k163v1
theorem t163v1 : Con 100163 q163v1 := DS12_t fun a b hk => tz at163 Q171v3_ok [] [] true (T163v1 a b) (n163 a b) hk
def Q163v1 := qcons 100163 q163v1 Q171v3
theorem Q163v1_ok : QO Q163v1 := qcons_ok t163v1 Q171v3_ok
def AS54 (a : List Row) (b : List Row) : List SV := [(.one (.imm true 1 a)), (.one (.imm false 1 b))]
def HS54 (a : List Row) (b : List Row) : List Blk := []
def DS54 (N : List Row → List Row → SV × List Blk) (K : List Row → List Row → Bool) : List SV → List Blk → Option ((SV × List Blk) × Bool)
 | [(.one (.imm true 1 c0)), (.one (.imm false 1 c1))], [] => some (N c0 c1, K c0 c1)
 | _, _ => none
theorem DS54_t {N : List Row → List Row → SV × List Blk} {K : List Row → List Row → Bool} {f : Nat} (h : ∀ (a : List Row) (b : List Row), K a b = true → frzR R f (AS54 a b) (HS54 a b) = some (N a b)) : Con f (DS54 N K) := fun _ _ _ e => by
 unfold DS54 at e
 split at e
 ·exact dsf e (h _ _)
 ·cases e
section
variable (a : List Row) (b : List Row)
def y91_0 : List Row := ((List.take (minN (ln a) 512) a) ++ (List.drop (0 + (minN (ln a) 512)) (List.replicate 512 (rowI 0))))
def y91_1 : Bool := ((leN 512 (ln (y91_0 a))) && true)
def y91_2 : List Row := ((List.take 384 (y91_0 a)) ++ ((List.take (minN (ln b) 128) b) ++ (List.drop (384 + (minN (ln b) 128)) (y91_0 a))))
end
def T91 (a : List Row) (b : List Row) : Pt (GBus × Bool) := (.ok true (.ok ((k163 a 384) && ((((k163v1 b 64) && true) || (!(g163 a 384))) && true)) (.br (bif (!(g163 a 384)) then true else (!(g163v1 b 64))) (.ok true (.ok true (.leaf ((GBus.mk [] []), false)))) (.ok true (.ok true (.ok ((y91_1 a) && (y91_1 a)) (.ok true (.ok ((((leN 512 (ln (y91_2 a b))) && true) && true) && ((((eqN 512 (ln (List.take 512 (y91_2 a b)))) && true) && true) && true)) (.leaf ((GBus.mk (List.take 512 (y91_2 a b)) []), true))))))))))
def g91 (a : List Row) (b : List Row) : GBus × Bool := hid (T91 a b).val
def k91 (a : List Row) (b : List Row) : Bool := hid (T91 a b).okv
def q91 := DS54 (fun a b => n93 a b (g91 a b)) k91
theorem t91 : Con 91 q91 := DS54_t fun a b hk => tc at91 Q163v1_ok [(19, K1), (23, K1), (27, K7), (1000000, [])] [] true (T91 a b) (n93 a b) hk
def Q91 := qcons 91 q91 Q163v1
theorem Q91_ok : QO Q91 := qcons_ok t91 Q163v1_ok
section
def y92_0 : Bool := (sameR (List.replicate 4 (rowI 0)) (List.replicate 4 (rowI 0)))
end
def T92 : Pt (GRegs) := (.ok true (.ok (((same (α := Nat) 4 4) && ((same (α := Nat) 4 4) && ((same (α := Int) 0 0) && ((same (α := Int) 0 0) && ((same (α := Int) 0 0) && ((same (α := Int) 7 7) && ((same (α := Bool) true true) && ((same (α := Bool) false false) && true)))))))) && (y92_0 && (y92_0 && true))) (.ok true (.leaf (GRegs.mk (List.replicate 4 (rowI 0)) (List.replicate 4 (rowI 0)) 0 0 0 7 true false)))))
def g92 : GRegs := hid (T92).val
def k92 : Bool := hid (T92).okv
def q92 := DS9 (n94 (g92)) k92
theorem t92 : Con 92 q92 := DS9_t fun hk => tc at92 Q91_ok [] [] true T92 n94 hk
def Q92 := qcons 92 q92 Q91
theorem Q92_ok : QO Q92 := qcons_ok t92 Q91_ok
section
variable (a : List Row)
def y19_0 : Bool := (eqN (ln (g92).D) (ln (g92).D))
def y19_1 : Bool := ((eqN (ln (g91 a []).1.Bytes) (ln (g91 a []).1.Bytes)) && ((eqN (ln (g91 a []).1.Log) (ln (g91 a []).1.Log)) && true))
def y19_2 : Bool := (y19_0 && ((eqN (ln (g92).A) (ln (List.set (g92).A 3 (rowI 384)))) && (y19_1 a)))
end
def T19 (a : List Row) (b : Int) : Pt (GCpu × Bool) := (.ok true (.ok ((k91 a []) && true) (.ok ((((k73 b) && true) || (!(g91 a []).2)) && true) (.br (bif (!(g91 a []).2) then true else (!(g73 b))) (.ok true (.ok true (.ok true (.leaf ((GCpu.mk (GRegs.mk [] [] 0 0 0 0 false false) (GBus.mk [] []) false false), false))))) (.ok ((k92) && true) (.ok ((ltI 3 (lenI (g92).A)) && (((blt 3 (ln (g92).A)) && (beqN (rlen (g92).A 3) 1)) && true)) (.ok true (.ok ((y19_2 a) && ((y19_0 && ((eqN (ln (g92).A) (ln (g92).A)) && (y19_1 a))) && true)) (.ok ((y19_2 a) && true) (.leaf ((GCpu.mk { (g92) with A := (List.set (g92).A 3 (rowI 384)), PC := b } (g91 a []).1 false false), true)))))))))))
def g19 (a : List Row) (b : Int) : GCpu × Bool := hid (T19 a b).val
def k19 (a : List Row) (b : Int) : Bool := hid (T19 a b).okv
def n19 (a : List Row) (b : Int) (r : GCpu × Bool) : SV × List Blk := ((.tup [(.agg [.imm true 1 r.1.R.D, .imm true 1 r.1.R.A, li r.1.R.Other, li r.1.R.PC, li r.1.R.Flags, li r.1.R.Mask, .lit (.bool r.1.R.Super), .lit (.bool r.1.R.Trace), .imm true 1 r.1.Bus.Bytes, .imm true 5 r.1.Bus.Log, .lit (.bool r.1.Stop), .lit (.bool r.1.Halt)]), (.one (.lit (.bool r.2)))]), [])
def q19 := DS52 (fun a b => n19 a b (g19 a b)) k19
theorem t19 : Con 100019 q19 := DS52_t fun a b hk => tz at19 Q92_ok [(24, K1), (27, K0), (28, K6), (29, K7)] [] true (T19 a b) (n19 a b) hk
def Q19 := qcons 100019 q19 Q92
theorem Q19_ok : QO Q19 := qcons_ok t19 Q92_ok
structure V93v1_0 where
 mk ::
 (b0 : GBus)
 (b1 : GBus)
 (s1 : List Row)
 (s32 : List Row)
 (s33 : Int)
 (s34 : Int)
section
variable (v : V93v1_0)
def y93v1_0_l_0 : Bool := (eqN (ln v.b0.Bytes) (ln v.b0.Bytes))
def y93v1_0_l_1 : Bool := (eqN (ln v.b0.Log) (ln v.b0.Log))
def y93v1_0_l_2 : Bool := ((y93v1_0_l_0 v) && ((y93v1_0_l_1 v) && true))
def y93v1_0_l_3 : Bool := ((eqN (ln v.b1.Log) (ln v.b1.Log)) && true)
def y93v1_0_l_4 : List Row := (List.set v.b1.Bytes (0 + (Int.toNat v.s34)) (rowI (intAt v.s32 (Int.toNat v.s34) 0)))
def y93v1_0_l_5 : Bool := ((eqN (ln v.b1.Bytes) (ln (y93v1_0_l_4 v))) && (y93v1_0_l_3 v))
end
def N93v1_0 (v : V93v1_0) : Pt (Option V93v1_0) := (.ok true (.br (ltI v.s34 v.s33) (.ok ((inRow [.int .i64] v.s32 v.s34) && true) (.ok (((leI 0 v.s34) && (ltI v.s34 (lenI v.b1.Bytes))) && (((blt (0 + (Int.toNat v.s34)) (ln v.b1.Bytes)) && (beqN (rlen v.b1.Bytes (0 + (Int.toNat v.s34))) 1)) && true)) (.ok true (.ok ((((y93v1_0_l_2 v) && (((eqN (ln v.b1.Bytes) (ln v.b1.Bytes)) && (y93v1_0_l_3 v)) && ((y93v1_0_l_0 v) && ((y93v1_0_l_1 v) && (y93v1_0_l_5 v))))) && true) && ((y93v1_0_l_2 v) && ((y93v1_0_l_5 v) && true))) (.leaf (some { v with b1 := { v.b1 with Bytes := (y93v1_0_l_4 v) }, s34 := (addI v.s34 1) })))))) (.leaf none)))
def s93v1_0 (v : V93v1_0) : St := ⟨[(1, (.one (.imm false 1 v.s1))), (4, (.one (.ptr 0 0 0))), (6, (.one (.ptr 1 0 0))), (32, (.one (.imm true 1 v.s32))), (33, (.one (li v.s33))), (34, (.one (li v.s34)))], [.box [.sl 2 0 (ln v.b0.Bytes), .sl 3 0 (ln v.b0.Log)], .box [.sl 4 0 (ln v.b1.Bytes), .sl 5 0 (ln v.b1.Log)], .lst 1 v.b0.Bytes, .lst 5 v.b0.Log, .lst 1 v.b1.Bytes, .lst 5 v.b1.Log]⟩
def u93v1_0 : St → Option (V93v1_0 × Bool)
 | ⟨[(1, (.one (.imm false 1 c0))), (4, (.one (.ptr 0 0 0))), (6, (.one (.ptr 1 0 0))), (32, (.one (.imm true 1 c1))), (33, (.one (li c2))), (34, (.one (li c3)))], [.box [.sl 2 0 l2, .sl 3 0 l3], .box [.sl 4 0 l4, .sl 5 0 l5], .lst 1 c_2, .lst 5 c_3, .lst 1 c_4, .lst 5 c_5]⟩ => some ((V93v1_0.mk (GBus.mk c_2 c_3) (GBus.mk c_4 c_5) c0 c1 c2 c3), eqN l2 (ln c_2) && (eqN l3 (ln c_3) && (eqN l4 (ln c_4) && (eqN l5 (ln c_5) && (true)))))
 | _ => none
def ev93v1_0 : St → Option (Pt Out) := evp Q19 [(37, K0), (38, K0), (40, K1), (43, K0), (50, K0), (51, K0), (53, K1), (57, K0), (59, K7), (1000003, [])] [] true [] 0 2097152 F93b0
theorem hN93v1_0 (v : V93v1_0) : ((ev93v1_0 (s93v1_0 v)).bind (stpT true true 0 [1, 4, 6, 32, 33, 34])) = some ((N93v1_0 v).map (Option.map s93v1_0)) := by kernel_rfl
theorem hu93v1_0 (σ : St) (v : V93v1_0) (h : u93v1_0 σ = some (v, true)) : σ = s93v1_0 v := by
 unfold u93v1_0 at h
 split at h
 ·obtain ⟨hr, hk⟩ := qp (qi h)
  obtain ⟨d0, hk0⟩ := and_t hk
  obtain ⟨d1, hk1⟩ := and_t hk0
  obtain ⟨d2, hk2⟩ := and_t hk1
  obtain ⟨d3, hk3⟩ := and_t hk2
  obtain rfl := of_decide_eq_true d0
  obtain rfl := of_decide_eq_true d1
  obtain rfl := of_decide_eq_true d2
  obtain rfl := of_decide_eq_true d3
  rw [← hr]
  rfl
 ·simp at h
theorem lt93v1_0 : TellsP (lqP true true 0 [1, 4, 6, 32, 33, 34] ev93v1_0 u93v1_0 s93v1_0 N93v1_0 2097152) (evc R 0 2097152 (.loop [1, 4, 6, 32, 33, 34] F93b0)) := lqP_tells (evp_tells Q19_ok (loops_of (l := []) (by kernel_rfl) trivial)) hu93v1_0 hN93v1_0
def lq93v1_0 : Lp   := (35, lqP true true 0 [1, 4, 6, 32, 33, 34] ev93v1_0 u93v1_0 s93v1_0 N93v1_0 2097152) :: []
def w93v1_0 (v : V93v1_0) : V93v1_0 := (hid (loopV N93v1_0 2097152 v)).getD v
def i93v1_0 (v : V93v1_0) : Bool := (hid (loopV N93v1_0 2097152 v)).isSome
structure V93v1_1 where
 mk ::
 (b0 : GBus)
 (b1 : GBus)
 (s45 : List Row)
 (s46 : Int)
 (s47 : Int)
section
variable (v : V93v1_1)
def y93v1_1_l_0 : Bool := (eqN (ln v.b0.Bytes) (ln v.b0.Bytes))
def y93v1_1_l_1 : Bool := (eqN (ln v.b0.Log) (ln v.b0.Log))
def y93v1_1_l_2 : Bool := ((y93v1_1_l_0 v) && ((y93v1_1_l_1 v) && true))
def y93v1_1_l_3 : Bool := ((eqN (ln v.b1.Log) (ln v.b1.Log)) && true)
def y93v1_1_l_4 : List Row := (List.set v.b1.Bytes (0 + (Int.toNat (addI 384 v.s47))) (rowI (intAt v.s45 (Int.toNat v.s47) 0)))
def y93v1_1_l_5 : Bool := ((eqN (ln v.b1.Bytes) (ln (y93v1_1_l_4 v))) && (y93v1_1_l_3 v))
end
def N93v1_1 (v : V93v1_1) : Pt (Option V93v1_1) := (.ok true (.br (ltI v.s47 v.s46) (.ok ((inRow [.int .i64] v.s45 v.s47) && true) (.ok (((leI 0 (addI 384 v.s47)) && (ltI (addI 384 v.s47) (lenI v.b1.Bytes))) && (((blt (0 + (Int.toNat (addI 384 v.s47))) (ln v.b1.Bytes)) && (beqN (rlen v.b1.Bytes (0 + (Int.toNat (addI 384 v.s47)))) 1)) && true)) (.ok true (.ok ((((y93v1_1_l_2 v) && (((eqN (ln v.b1.Bytes) (ln v.b1.Bytes)) && (y93v1_1_l_3 v)) && ((y93v1_1_l_0 v) && ((y93v1_1_l_1 v) && (y93v1_1_l_5 v))))) && true) && ((y93v1_1_l_2 v) && ((y93v1_1_l_5 v) && true))) (.leaf (some { v with b1 := { v.b1 with Bytes := (y93v1_1_l_4 v) }, s47 := (addI v.s47 1) })))))) (.leaf none)))
def s93v1_1 (v : V93v1_1) : St := ⟨[(4, (.one (.ptr 0 0 0))), (6, (.one (.ptr 1 0 0))), (45, (.one (.imm false 1 v.s45))), (46, (.one (li v.s46))), (47, (.one (li v.s47)))], [.box [.sl 2 0 (ln v.b0.Bytes), .sl 3 0 (ln v.b0.Log)], .box [.sl 4 0 (ln v.b1.Bytes), .sl 5 0 (ln v.b1.Log)], .lst 1 v.b0.Bytes, .lst 5 v.b0.Log, .lst 1 v.b1.Bytes, .lst 5 v.b1.Log]⟩
def u93v1_1 : St → Option (V93v1_1 × Bool)
 | ⟨[(4, (.one (.ptr 0 0 0))), (6, (.one (.ptr 1 0 0))), (45, (.one (.imm false 1 c0))), (46, (.one (li c1))), (47, (.one (li c2)))], [.box [.sl 2 0 l2, .sl 3 0 l3], .box [.sl 4 0 l4, .sl 5 0 l5], .lst 1 c_2, .lst 5 c_3, .lst 1 c_4, .lst 5 c_5]⟩ => some ((V93v1_1.mk (GBus.mk c_2 c_3) (GBus.mk c_4 c_5) c0 c1 c2), eqN l2 (ln c_2) && (eqN l3 (ln c_3) && (eqN l4 (ln c_4) && (eqN l5 (ln c_5) && (true)))))
 | _ => none
def ev93v1_1 : St → Option (Pt Out) := evp Q19 [(37, K0), (38, K0), (40, K1), (43, K0), (50, K0), (51, K0), (53, K1), (57, K0), (59, K7), (1000003, [])] [] true lq93v1_0 0 2097152 F93b1
theorem hN93v1_1 (v : V93v1_1) : ((ev93v1_1 (s93v1_1 v)).bind (stpT true true 0 [4, 6, 45, 46, 47])) = some ((N93v1_1 v).map (Option.map s93v1_1)) := by kernel_rfl
theorem hu93v1_1 (σ : St) (v : V93v1_1) (h : u93v1_1 σ = some (v, true)) : σ = s93v1_1 v := by
 unfold u93v1_1 at h
 split at h
 ·obtain ⟨hr, hk⟩ := qp (qi h)
  obtain ⟨d0, hk0⟩ := and_t hk
  obtain ⟨d1, hk1⟩ := and_t hk0
  obtain ⟨d2, hk2⟩ := and_t hk1
  obtain ⟨d3, hk3⟩ := and_t hk2
  obtain rfl := of_decide_eq_true d0
  obtain rfl := of_decide_eq_true d1
  obtain rfl := of_decide_eq_true d2
  obtain rfl := of_decide_eq_true d3
  rw [← hr]
  rfl
 ·simp at h
theorem lt93v1_1 : TellsP (lqP true true 0 [4, 6, 45, 46, 47] ev93v1_1 u93v1_1 s93v1_1 N93v1_1 2097152) (evc R 0 2097152 (.loop [4, 6, 45, 46, 47] F93b1)) := lqP_tells (evp_tells Q19_ok (loops_of (l := []) (by kernel_rfl) trivial)) hu93v1_1 hN93v1_1
def lq93v1_1 : Lp   := (48, lqP true true 0 [4, 6, 45, 46, 47] ev93v1_1 u93v1_1 s93v1_1 N93v1_1 2097152) :: lq93v1_0
def w93v1_1 (v : V93v1_1) : V93v1_1 := (hid (loopV N93v1_1 2097152 v)).getD v
def i93v1_1 (v : V93v1_1) : Bool := (hid (loopV N93v1_1 2097152 v)).isSome
section
variable (a : List Row) (b : List Row)
def y93v1_0 : V93v1_0 := (w93v1_0 (V93v1_0.mk (GBus.mk [] []) (GBus.mk (List.replicate 512 (rowI 0)) []) b a (lenI a) 0))
def y93v1_1 : Bool := (eqN (ln (y93v1_0 a b).b0.Bytes) (ln (y93v1_0 a b).b0.Bytes))
def y93v1_2 : Bool := (eqN (ln (y93v1_0 a b).b0.Log) (ln (y93v1_0 a b).b0.Log))
def y93v1_3 : Bool := ((y93v1_1 a b) && ((y93v1_2 a b) && true))
def y93v1_4 : Bool := ((eqN (ln (y93v1_0 a b).b1.Bytes) (ln (y93v1_0 a b).b1.Bytes)) && ((eqN (ln (y93v1_0 a b).b1.Log) (ln (y93v1_0 a b).b1.Log)) && true))
def y93v1_5 : Bool := ((y93v1_1 a b) && ((y93v1_2 a b) && (y93v1_4 a b)))
def y93v1_6 : Nat := (ln (w93v1_1 (V93v1_1.mk (y93v1_0 a b).b0 (y93v1_0 a b).b1 (y93v1_0 a b).s1 (lenI (y93v1_0 a b).s1) 0)).b1.Bytes)
def y93v1_7 : Nat := (ln (w93v1_1 (V93v1_1.mk (y93v1_0 a b).b0 (y93v1_0 a b).b1 (y93v1_0 a b).s1 (lenI (y93v1_0 a b).s1) 0)).b1.Log)
def y93v1_8 : Bool := ((eqN (y93v1_6 a b) (y93v1_6 a b)) && ((eqN (y93v1_7 a b) (y93v1_7 a b)) && true))
end
def T93v1 (a : List Row) (b : List Row) : Pt (GBus × Bool) := (.ok true (.ok ((k164v1 a) && ((((k164 b) && true) || (!(g164v1 a))) && true)) (.br (bif (bif (bif (!(g164v1 a)) then true else (!(g164 b))) then true else (gtI (lenI a) 384)) then true else (gtI (lenI b) 64)) (.ok true (.ok true (.leaf ((GBus.mk [] []), false)))) (.ok true (.ok true (.ok true (.ok true (.ok (i93v1_0 (V93v1_0.mk (GBus.mk [] []) (GBus.mk (List.replicate 512 (rowI 0)) []) b a (lenI a) 0)) (.ok true (.ok ((((y93v1_3 a b) && ((y93v1_4 a b) && (y93v1_5 a b))) && true) && ((y93v1_3 a b) && ((y93v1_4 a b) && true))) (.ok (y93v1_5 a b) (.ok (i93v1_1 (V93v1_1.mk (y93v1_0 a b).b0 (y93v1_0 a b).b1 (y93v1_0 a b).s1 (lenI (y93v1_0 a b).s1) 0)) (.ok true (.ok ((y93v1_8 a b) && ((y93v1_8 a b) && true)) (.leaf ((w93v1_1 (V93v1_1.mk (y93v1_0 a b).b0 (y93v1_0 a b).b1 (y93v1_0 a b).s1 (lenI (y93v1_0 a b).s1) 0)).b1, true))))))))))))))))
def g93v1 (a : List Row) (b : List Row) : GBus × Bool := hid (T93v1 a b).val
def k93v1 (a : List Row) (b : List Row) : Bool := hid (T93v1 a b).okv
def q93v1 := DS54 (fun a b => n93 a b (g93v1 a b)) k93v1
theorem hL93v1 : Loops (fun live x => TellsP (lpAt lq93v1_1 (tagC x)) (evc R 0 2097152 (.loop live x))) F93.body := (loops_of (l := [([1, 4, 6, 32, 33, 34], F93b0), ([4, 6, 45, 46, 47], F93b1)]) (by kernel_rfl) ⟨tellsAt (n := 35) (by kernel_rfl) fun σ σr t h ho hl => lt93v1_0 σ σr t h ho hl, tellsAt (n := 48) (by kernel_rfl) fun σ σr t h ho hl => lt93v1_1 σ σr t h ho hl, trivial⟩)
theorem t93v1 : Con 93 q93v1 := DS54_t fun a b hk => tcl at93 Q19_ok hL93v1 [(37, K0), (38, K0), (40, K1), (43, K0), (50, K0), (51, K0), (53, K1), (57, K0), (59, K7), (1000003, [])] [] true (T93v1 a b) (n93 a b) hk
def Q93v1 := qcons 93 q93v1 Q19
theorem Q93v1_ok : QO Q93v1 := qcons_ok t93v1 Q19_ok
section
variable (a : List Row)
def y20v1_0 : Bool := (eqN (ln (g94).D) (ln (g94).D))
def y20v1_1 : Bool := ((eqN (ln (g93v1 a []).1.Bytes) (ln (g93v1 a []).1.Bytes)) && ((eqN (ln (g93v1 a []).1.Log) (ln (g93v1 a []).1.Log)) && true))
def y20v1_2 : Bool := (y20v1_0 && ((eqN (ln (g94).A) (ln (List.set (g94).A 3 (rowI 384)))) && (y20v1_1 a)))
end
def T20v1 (a : List Row) (b : Int) : Pt (GCpu × Bool) := (.ok true (.ok ((k93v1 a []) && true) (.ok ((((k77 b) && true) || (!(g93v1 a []).2)) && true) (.br (bif (!(g93v1 a []).2) then true else (!(g77 b))) (.ok true (.ok true (.ok true (.leaf ((GCpu.mk (GRegs.mk [] [] 0 0 0 0 false false) (GBus.mk [] []) false false), false))))) (.ok ((k94) && true) (.ok true (.ok ((ltI 3 (lenI (g94).A)) && (((blt 3 (ln (g94).A)) && (beqN (rlen (g94).A 3) 1)) && true)) (.ok true (.ok ((y20v1_2 a) && ((y20v1_0 && ((eqN (ln (g94).A) (ln (g94).A)) && (y20v1_1 a))) && true)) (.ok ((y20v1_2 a) && true) (.leaf ((GCpu.mk { (g94) with A := (List.set (g94).A 3 (rowI 384)), PC := b } (g93v1 a []).1 false false), true))))))))))))
def g20v1 (a : List Row) (b : Int) : GCpu × Bool := hid (T20v1 a b).val
def k20v1 (a : List Row) (b : Int) : Bool := hid (T20v1 a b).okv
def q20v1 := DS52 (fun a b => n19 a b (g20v1 a b)) k20v1
theorem t20v1 : Con 100020 q20v1 := DS52_t fun a b hk => tz at20 Q93v1_ok [(26, K1), (27, K0), (28, K6), (29, K7)] [] true (T20v1 a b) (n19 a b) hk
def Q20v1 := qcons 100020 q20v1 Q93v1
theorem Q20v1_ok : QO Q20v1 := qcons_ok t20v1 Q93v1_ok
structure V96_0 where
 mk ::
 (s0 : List Row)
 (s1 : List Row)
 (s12 : Int)
 (s13 : Int)
def N96_0 (v : V96_0) : Pt (Option V96_0) := (.ok true (.br (ltI v.s13 v.s12) (.ok true (.ok ((inRow [.int .i64] v.s0 v.s13) && ((inRow [.int .i64] v.s1 v.s13) && true)) (.br (neI (intAt v.s0 (Int.toNat v.s13) 0) (intAt v.s1 (Int.toNat v.s13) 0)) (.ok true (.leaf none)) (.ok true (.ok true (.leaf (some { v with s13 := (addI v.s13 1) }))))))) (.leaf none)))
def s96_0 (v : V96_0) : St := ⟨[(0, (.one (.imm true 1 v.s0))), (1, (.one (.imm true 1 v.s1))), (12, (.one (li v.s12))), (13, (.one (li v.s13)))], []⟩
def u96_0 : St → Option (V96_0 × Bool)
 | ⟨[(0, (.one (.imm true 1 c0))), (1, (.one (.imm true 1 c1))), (12, (.one (li c2))), (13, (.one (li c3)))], []⟩ => some ((V96_0.mk c0 c1 c2 c3), true)
 | _ => none
def ev96_0 : St → Option (Pt Out) := evp Q20v1 [(18, K0), (19, K0), (22, K0), (23, K0)] [] true [] 0 2097152 F96b0
theorem hN96_0 (v : V96_0) : ((ev96_0 (s96_0 v)).bind (stpT true false 0 [0, 1, 12, 13])) = some ((N96_0 v).map (Option.map s96_0)) := by kernel_rfl
theorem hu96_0 (σ : St) (v : V96_0) (h : u96_0 σ = some (v, true)) : σ = s96_0 v := by
 unfold u96_0 at h
 split at h
 ·obtain ⟨hr, hk⟩ := qp (qi h)
  rw [← hr]
  rfl
 ·simp at h
theorem lt96_0 : TellsP (lqP true false 0 [0, 1, 12, 13] ev96_0 u96_0 s96_0 N96_0 2097152) (evc R 0 2097152 (.loop [0, 1, 12, 13] F96b0)) := lqP_tells (evp_tells Q20v1_ok (loops_of (l := []) (by kernel_rfl) trivial)) hu96_0 hN96_0
def lq96_0 : Lp   := (14, lqP true false 0 [0, 1, 12, 13] ev96_0 u96_0 s96_0 N96_0 2097152) :: []
def w96_0 (v : V96_0) : V96_0 := (hid (loopV N96_0 2097152 v)).getD v
def i96_0 (v : V96_0) : Bool := (hid (loopV N96_0 2097152 v)).isSome
section
variable (a : List Row) (b : List Row)
def y96_0 : V96_0 := (w96_0 (V96_0.mk a b (lenI a) 0))
end
def T96 (a : List Row) (b : List Row) : Pt (Bool) := (.ok true (.ok true (.br (neI (lenI a) (lenI b)) (.ok true (.ok true (.ok true (.leaf false)))) (.ok true (.ok true (.ok true (.ok (i96_0 (V96_0.mk a b (lenI a) 0)) (.br (ltI (y96_0 a b).s13 (y96_0 a b).s12) (.ok true (.ok true (.leaf false))) (.ok true (.ok true (.ok true (.leaf true))))))))))))
def g96 (a : List Row) (b : List Row) : Bool := hid (T96 a b).val
def k96 (a : List Row) (b : List Row) : Bool := hid (T96 a b).okv
def q96 := DS33 (fun a b => n14 a b (g96 a b)) k96
theorem hL96 : Loops (fun live x => TellsP (lpAt lq96_0 (tagC x)) (evc R 0 2097152 (.loop live x))) F96.body := (loops_of (l := [([0, 1, 12, 13], F96b0)]) (by kernel_rfl) ⟨tellsAt (n := 14) (by kernel_rfl) fun σ σr t h ho hl => lt96_0 σ σr t h ho hl, trivial⟩)
theorem t96 : Con 100096 q96 := DS33_t fun a b hk => tzl at96 Q20v1_ok hL96 [(18, K0), (19, K0), (22, K0), (23, K0)] [] true (T96 a b) (n14 a b) hk
def Q96 := qcons 100096 q96 Q20v1
theorem Q96_ok : QO Q96 := qcons_ok t96 Q20v1_ok
def T95 (a : GRegs) (b : GRegs) : Pt (Bool) := (.ok true (.ok ((k96 a.D b.D) && ((((k96 a.A b.A) && true) || (!(g96 a.D b.D))) && true)) (.ok true (.ok true (.leaf (bif (bif (bif (bif (bif (bif (bif (g96 a.D b.D) then (g96 a.A b.A) else false) then (eqI a.Other b.Other) else false) then (eqI a.PC b.PC) else false) then (eqI a.Flags b.Flags) else false) then (eqI a.Mask b.Mask) else false) then (eqB a.Super b.Super) else false) then (eqB a.Trace b.Trace) else false))))))
def g95 (a : GRegs) (b : GRegs) : Bool := hid (T95 a b).val
def k95 (a : GRegs) (b : GRegs) : Bool := hid (T95 a b).okv
def q95 := DS34 (fun a b => n13 a b (g95 a b)) k95
theorem t95 : Con 100095 q95 := DS34_t fun a b hk => tz at95 Q96_ok [(6, K1), (8, K1), (12, K1), (14, K1), (19, K0), (21, K0), (26, K0), (28, K0), (33, K0), (35, K0), (40, K0), (42, K0), (47, K11), (49, K11), (54, K11), (56, K11)] [] true (T95 a b) (n13 a b) hk
def Q95 := qcons 100095 q95 Q96
theorem Q95_ok : QO Q95 := qcons_ok t95 Q96_ok
structure V97_0 where
 mk ::
 (s0 : List Row)
 (s1 : List Row)
 (s12 : Int)
 (s13 : Int)
def N97_0 (v : V97_0) : Pt (Option V97_0) := (.ok true (.br (ltI v.s13 v.s12) (.ok true (.ok ((inRow [.int .i64, .int .i64, .int .i64, .int .i64, .int .i64] v.s0 v.s13) && ((inRow [.int .i64, .int .i64, .int .i64, .int .i64, .int .i64] v.s1 v.s13) && true)) (.br (!((eqI (intAt v.s0 (Int.toNat v.s13) 0) (intAt v.s1 (Int.toNat v.s13) 0)) && ((eqI (intAt v.s0 (Int.toNat v.s13) 1) (intAt v.s1 (Int.toNat v.s13) 1)) && ((eqI (intAt v.s0 (Int.toNat v.s13) 2) (intAt v.s1 (Int.toNat v.s13) 2)) && ((eqI (intAt v.s0 (Int.toNat v.s13) 3) (intAt v.s1 (Int.toNat v.s13) 3)) && ((eqI (intAt v.s0 (Int.toNat v.s13) 4) (intAt v.s1 (Int.toNat v.s13) 4)) && true)))))) (.ok true (.leaf none)) (.ok true (.ok true (.leaf (some { v with s13 := (addI v.s13 1) }))))))) (.leaf none)))
def s97_0 (v : V97_0) : St := ⟨[(0, (.one (.imm true 5 v.s0))), (1, (.one (.imm true 5 v.s1))), (12, (.one (li v.s12))), (13, (.one (li v.s13)))], []⟩
def u97_0 : St → Option (V97_0 × Bool)
 | ⟨[(0, (.one (.imm true 5 c0))), (1, (.one (.imm true 5 c1))), (12, (.one (li c2))), (13, (.one (li c3)))], []⟩ => some ((V97_0.mk c0 c1 c2 c3), true)
 | _ => none
def ev97_0 : St → Option (Pt Out) := evp Q95 [(18, K9), (19, K9), (22, K9), (23, K9)] [] true [] 0 2097152 F97b0
theorem hN97_0 (v : V97_0) : ((ev97_0 (s97_0 v)).bind (stpT true false 0 [0, 1, 12, 13])) = some ((N97_0 v).map (Option.map s97_0)) := by kernel_rfl
theorem hu97_0 (σ : St) (v : V97_0) (h : u97_0 σ = some (v, true)) : σ = s97_0 v := by
 unfold u97_0 at h
 split at h
 ·obtain ⟨hr, hk⟩ := qp (qi h)
  rw [← hr]
  rfl
 ·simp at h
theorem lt97_0 : TellsP (lqP true false 0 [0, 1, 12, 13] ev97_0 u97_0 s97_0 N97_0 2097152) (evc R 0 2097152 (.loop [0, 1, 12, 13] F97b0)) := lqP_tells (evp_tells Q95_ok (loops_of (l := []) (by kernel_rfl) trivial)) hu97_0 hN97_0
def lq97_0 : Lp   := (14, lqP true false 0 [0, 1, 12, 13] ev97_0 u97_0 s97_0 N97_0 2097152) :: []
def w97_0 (v : V97_0) : V97_0 := (hid (loopV N97_0 2097152 v)).getD v
def i97_0 (v : V97_0) : Bool := (hid (loopV N97_0 2097152 v)).isSome
section
variable (a : List Row) (b : List Row)
def y97_0 : V97_0 := (w97_0 (V97_0.mk a b (lenI a) 0))
end
def T97 (a : List Row) (b : List Row) : Pt (Bool) := (.ok true (.ok true (.br (neI (lenI a) (lenI b)) (.ok true (.ok true (.ok true (.leaf false)))) (.ok true (.ok true (.ok true (.ok (i97_0 (V97_0.mk a b (lenI a) 0)) (.br (ltI (y97_0 a b).s13 (y97_0 a b).s12) (.ok true (.ok true (.leaf false))) (.ok true (.ok true (.ok true (.leaf true))))))))))))
def g97 (a : List Row) (b : List Row) : Bool := hid (T97 a b).val
def k97 (a : List Row) (b : List Row) : Bool := hid (T97 a b).okv
def q97 := DS35 (fun a b => n14 a b (g97 a b)) k97
theorem hL97 : Loops (fun live x => TellsP (lpAt lq97_0 (tagC x)) (evc R 0 2097152 (.loop live x))) F97.body := (loops_of (l := [([0, 1, 12, 13], F97b0)]) (by kernel_rfl) ⟨tellsAt (n := 14) (by kernel_rfl) fun σ σr t h ho hl => lt97_0 σ σr t h ho hl, trivial⟩)
theorem t97 : Con 100097 q97 := DS35_t fun a b hk => tzl at97 Q95_ok hL97 [(18, K9), (19, K9), (22, K9), (23, K9)] [] true (T97 a b) (n14 a b) hk
def Q97 := qcons 100097 q97 Q95
theorem Q97_ok : QO Q97 := qcons_ok t97 Q95_ok
section
variable (a : GCpu) (b : GCpu)
def y21_0 : Bool := (bif (g95 a.R b.R) then (g96 a.Bus.Bytes b.Bus.Bytes) else false)
end
def T21 (a : GCpu) (b : GCpu) : Pt (Bool) := (.ok true (.ok ((k95 a.R b.R) && ((((k96 a.Bus.Bytes b.Bus.Bytes) && true) || (!(g95 a.R b.R))) && ((((k97 a.Bus.Log b.Bus.Log) && true) || (!(y21_0 a b))) && true))) (.ok true (.ok true (.leaf (bif (bif (bif (y21_0 a b) then (g97 a.Bus.Log b.Bus.Log) else false) then (eqB a.Stop b.Stop) else false) then (eqB a.Halt b.Halt) else false))))))
def g21 (a : GCpu) (b : GCpu) : Bool := hid (T21 a b).val
def k21 (a : GCpu) (b : GCpu) : Bool := hid (T21 a b).okv
def q21 := DS37 (fun a b => n11 a b (g21 a b)) k21
theorem t21 : Con 100021 q21 := DS37_t fun a b hk => tz at21 Q97_ok [(6, K6), (8, K6), (13, K1), (16, K1), (22, K10), (25, K10), (30, K11), (32, K11), (37, K11), (39, K11)] [] true (T21 a b) (n11 a b) hk
def Q21 := qcons 100021 q21 Q97
theorem Q21_ok : QO Q21 := qcons_ok t21 Q97_ok
structure V99_0 where
 mk ::
 (s0 : List Row)
 (s1 : List Row)
 (s12 : Int)
 (s13 : Int)
def N99_0 (v : V99_0) : Pt (Option V99_0) := (.ok true (.br (ltI v.s13 v.s12) (.ok true (.ok ((inRow [.int .i64] v.s0 v.s13) && ((inRow [.int .i64] v.s1 v.s13) && true)) (.br (neI (intAt v.s0 (Int.toNat v.s13) 0) (intAt v.s1 (Int.toNat v.s13) 0)) (.ok true (.leaf none)) (.ok true (.ok true (.leaf (some { v with s13 := (addI v.s13 1) }))))))) (.leaf none)))
def s99_0 (v : V99_0) : St := ⟨[(0, (.one (.imm true 1 v.s0))), (1, (.one (.imm true 1 v.s1))), (12, (.one (li v.s12))), (13, (.one (li v.s13)))], []⟩
def u99_0 : St → Option (V99_0 × Bool)
 | ⟨[(0, (.one (.imm true 1 c0))), (1, (.one (.imm true 1 c1))), (12, (.one (li c2))), (13, (.one (li c3)))], []⟩ => some ((V99_0.mk c0 c1 c2 c3), true)
 | _ => none
def ev99_0 : St → Option (Pt Out) := evp Q21 [(18, K0), (19, K0), (22, K0), (23, K0)] [] true [] 0 2097152 F99b0
theorem hN99_0 (v : V99_0) : ((ev99_0 (s99_0 v)).bind (stpT true false 0 [0, 1, 12, 13])) = some ((N99_0 v).map (Option.map s99_0)) := by kernel_rfl
theorem hu99_0 (σ : St) (v : V99_0) (h : u99_0 σ = some (v, true)) : σ = s99_0 v := by
 unfold u99_0 at h
 split at h
 ·obtain ⟨hr, hk⟩ := qp (qi h)
  rw [← hr]
  rfl
 ·simp at h
theorem lt99_0 : TellsP (lqP true false 0 [0, 1, 12, 13] ev99_0 u99_0 s99_0 N99_0 2097152) (evc R 0 2097152 (.loop [0, 1, 12, 13] F99b0)) := lqP_tells (evp_tells Q21_ok (loops_of (l := []) (by kernel_rfl) trivial)) hu99_0 hN99_0
def lq99_0 : Lp   := (14, lqP true false 0 [0, 1, 12, 13] ev99_0 u99_0 s99_0 N99_0 2097152) :: []
def w99_0 (v : V99_0) : V99_0 := (hid (loopV N99_0 2097152 v)).getD v
def i99_0 (v : V99_0) : Bool := (hid (loopV N99_0 2097152 v)).isSome
section
variable (a : List Row) (b : List Row)
def y99_0 : V99_0 := (w99_0 (V99_0.mk a b (lenI a) 0))
end
def T99 (a : List Row) (b : List Row) : Pt (Bool) := (.ok true (.ok true (.br (neI (lenI a) (lenI b)) (.ok true (.ok true (.ok true (.leaf false)))) (.ok true (.ok true (.ok true (.ok (i99_0 (V99_0.mk a b (lenI a) 0)) (.br (ltI (y99_0 a b).s13 (y99_0 a b).s12) (.ok true (.ok true (.leaf false))) (.ok true (.ok true (.ok true (.leaf true))))))))))))
def g99 (a : List Row) (b : List Row) : Bool := hid (T99 a b).val
def k99 (a : List Row) (b : List Row) : Bool := hid (T99 a b).okv
def q99 := DS33 (fun a b => n14 a b (g99 a b)) k99
theorem hL99 : Loops (fun live x => TellsP (lpAt lq99_0 (tagC x)) (evc R 0 2097152 (.loop live x))) F99.body := (loops_of (l := [([0, 1, 12, 13], F99b0)]) (by kernel_rfl) ⟨tellsAt (n := 14) (by kernel_rfl) fun σ σr t h ho hl => lt99_0 σ σr t h ho hl, trivial⟩)
theorem t99 : Con 100099 q99 := DS33_t fun a b hk => tzl at99 Q21_ok hL99 [(18, K0), (19, K0), (22, K0), (23, K0)] [] true (T99 a b) (n14 a b) hk
def Q99 := qcons 100099 q99 Q21
theorem Q99_ok : QO Q99 := qcons_ok t99 Q21_ok
def T98 (a : GRegs) (b : GRegs) : Pt (Bool) := (.ok true (.ok ((k99 a.D b.D) && ((((k99 a.A b.A) && true) || (!(g99 a.D b.D))) && true)) (.ok true (.ok true (.leaf (bif (bif (bif (bif (bif (bif (bif (g99 a.D b.D) then (g99 a.A b.A) else false) then (eqI a.Other b.Other) else false) then (eqI a.PC b.PC) else false) then (eqI a.Flags b.Flags) else false) then (eqI a.Mask b.Mask) else false) then (eqB a.Super b.Super) else false) then (eqB a.Trace b.Trace) else false))))))
def g98 (a : GRegs) (b : GRegs) : Bool := hid (T98 a b).val
def k98 (a : GRegs) (b : GRegs) : Bool := hid (T98 a b).okv
def q98 := DS34 (fun a b => n13 a b (g98 a b)) k98
theorem t98 : Con 100098 q98 := DS34_t fun a b hk => tz at98 Q99_ok [(6, K1), (8, K1), (12, K1), (14, K1), (19, K0), (21, K0), (26, K0), (28, K0), (33, K0), (35, K0), (40, K0), (42, K0), (47, K11), (49, K11), (54, K11), (56, K11)] [] true (T98 a b) (n13 a b) hk
def Q98 := qcons 100098 q98 Q99
theorem Q98_ok : QO Q98 := qcons_ok t98 Q99_ok
structure V100_0 where
 mk ::
 (s0 : List Row)
 (s1 : List Row)
 (s12 : Int)
 (s13 : Int)
def N100_0 (v : V100_0) : Pt (Option V100_0) := (.ok true (.br (ltI v.s13 v.s12) (.ok true (.ok ((inRow [.int .i64, .int .i64, .int .i64, .int .i64, .int .i64] v.s0 v.s13) && ((inRow [.int .i64, .int .i64, .int .i64, .int .i64, .int .i64] v.s1 v.s13) && true)) (.br (!((eqI (intAt v.s0 (Int.toNat v.s13) 0) (intAt v.s1 (Int.toNat v.s13) 0)) && ((eqI (intAt v.s0 (Int.toNat v.s13) 1) (intAt v.s1 (Int.toNat v.s13) 1)) && ((eqI (intAt v.s0 (Int.toNat v.s13) 2) (intAt v.s1 (Int.toNat v.s13) 2)) && ((eqI (intAt v.s0 (Int.toNat v.s13) 3) (intAt v.s1 (Int.toNat v.s13) 3)) && ((eqI (intAt v.s0 (Int.toNat v.s13) 4) (intAt v.s1 (Int.toNat v.s13) 4)) && true)))))) (.ok true (.leaf none)) (.ok true (.ok true (.leaf (some { v with s13 := (addI v.s13 1) }))))))) (.leaf none)))
def s100_0 (v : V100_0) : St := ⟨[(0, (.one (.imm true 5 v.s0))), (1, (.one (.imm true 5 v.s1))), (12, (.one (li v.s12))), (13, (.one (li v.s13)))], []⟩
def u100_0 : St → Option (V100_0 × Bool)
 | ⟨[(0, (.one (.imm true 5 c0))), (1, (.one (.imm true 5 c1))), (12, (.one (li c2))), (13, (.one (li c3)))], []⟩ => some ((V100_0.mk c0 c1 c2 c3), true)
 | _ => none
def ev100_0 : St → Option (Pt Out) := evp Q98 [(18, K9), (19, K9), (22, K9), (23, K9)] [] true [] 0 2097152 F100b0
theorem hN100_0 (v : V100_0) : ((ev100_0 (s100_0 v)).bind (stpT true false 0 [0, 1, 12, 13])) = some ((N100_0 v).map (Option.map s100_0)) := by kernel_rfl
theorem hu100_0 (σ : St) (v : V100_0) (h : u100_0 σ = some (v, true)) : σ = s100_0 v := by
 unfold u100_0 at h
 split at h
 ·obtain ⟨hr, hk⟩ := qp (qi h)
  rw [← hr]
  rfl
 ·simp at h
theorem lt100_0 : TellsP (lqP true false 0 [0, 1, 12, 13] ev100_0 u100_0 s100_0 N100_0 2097152) (evc R 0 2097152 (.loop [0, 1, 12, 13] F100b0)) := lqP_tells (evp_tells Q98_ok (loops_of (l := []) (by kernel_rfl) trivial)) hu100_0 hN100_0
def lq100_0 : Lp   := (14, lqP true false 0 [0, 1, 12, 13] ev100_0 u100_0 s100_0 N100_0 2097152) :: []
def w100_0 (v : V100_0) : V100_0 := (hid (loopV N100_0 2097152 v)).getD v
def i100_0 (v : V100_0) : Bool := (hid (loopV N100_0 2097152 v)).isSome
section
variable (a : List Row) (b : List Row)
def y100_0 : V100_0 := (w100_0 (V100_0.mk a b (lenI a) 0))
end
def T100 (a : List Row) (b : List Row) : Pt (Bool) := (.ok true (.ok true (.br (neI (lenI a) (lenI b)) (.ok true (.ok true (.ok true (.leaf false)))) (.ok true (.ok true (.ok true (.ok (i100_0 (V100_0.mk a b (lenI a) 0)) (.br (ltI (y100_0 a b).s13 (y100_0 a b).s12) (.ok true (.ok true (.leaf false))) (.ok true (.ok true (.ok true (.leaf true))))))))))))
def g100 (a : List Row) (b : List Row) : Bool := hid (T100 a b).val
def k100 (a : List Row) (b : List Row) : Bool := hid (T100 a b).okv
def q100 := DS35 (fun a b => n14 a b (g100 a b)) k100
theorem hL100 : Loops (fun live x => TellsP (lpAt lq100_0 (tagC x)) (evc R 0 2097152 (.loop live x))) F100.body := (loops_of (l := [([0, 1, 12, 13], F100b0)]) (by kernel_rfl) ⟨tellsAt (n := 14) (by kernel_rfl) fun σ σr t h ho hl => lt100_0 σ σr t h ho hl, trivial⟩)
theorem t100 : Con 100100 q100 := DS35_t fun a b hk => tzl at100 Q98_ok hL100 [(18, K9), (19, K9), (22, K9), (23, K9)] [] true (T100 a b) (n14 a b) hk
def Q100 := qcons 100100 q100 Q98
theorem Q100_ok : QO Q100 := qcons_ok t100 Q98_ok
section
variable (a : GCpu) (b : GCpu)
def y22_0 : Bool := (bif (g98 a.R b.R) then (g99 a.Bus.Bytes b.Bus.Bytes) else false)
end
def T22 (a : GCpu) (b : GCpu) : Pt (Bool) := (.ok true (.ok ((k98 a.R b.R) && ((((k99 a.Bus.Bytes b.Bus.Bytes) && true) || (!(g98 a.R b.R))) && ((((k100 a.Bus.Log b.Bus.Log) && true) || (!(y22_0 a b))) && true))) (.ok true (.ok true (.leaf (bif (bif (bif (y22_0 a b) then (g100 a.Bus.Log b.Bus.Log) else false) then (eqB a.Stop b.Stop) else false) then (eqB a.Halt b.Halt) else false))))))
def g22 (a : GCpu) (b : GCpu) : Bool := hid (T22 a b).val
def k22 (a : GCpu) (b : GCpu) : Bool := hid (T22 a b).okv
def q22 := DS37 (fun a b => n11 a b (g22 a b)) k22
theorem t22 : Con 100022 q22 := DS37_t fun a b hk => tz at22 Q100_ok [(6, K6), (8, K6), (13, K1), (16, K1), (22, K10), (25, K10), (30, K11), (32, K11), (37, K11), (39, K11)] [] true (T22 a b) (n11 a b) hk
def Q22 := qcons 100022 q22 Q100
theorem Q22_ok : QO Q22 := qcons_ok t22 Q100_ok
section
variable (a : List Row) (b : List Row)
def y3_0 : GCpu × Bool × Bool := (g10 (g8 a).1 (g8 a).2)
def y3_1 : Bool := (bif (!(eqB (g9 (g8 a).1 (g8 a).2).2.2 (y3_0 a).2.2)) then true else (!(eqB (g9 (g8 a).1 (g8 a).2).2.1 (y3_0 a).2.1)))
def y3_2 : GCpu × Int × Bool × Bool := (g12 (g9 (g8 a).1 (g8 a).2).1)
def y3_3 : Bool := (bif (bif (!(y3_2 a).2.2.2) then true else (!(y3_2 a).2.2.1)) then true else (neI (y3_2 a).2.1 (g8 a).2))
def y3_4 : Bool := (bif (y3_3 a) then true else (!(g13 (y3_2 a).1.R (g8 a).1.R)))
def y3_5 : Bool := (!(g13 (g9 (g8 a).1 (g8 a).2).1.R (g8 a).1.R))
def y3_6 : Bool := (bif (g9 (g8 a).1 (g8 a).2).2.2 then (!(g9 (g8 a).1 (g8 a).2).2.1) else false)
def y3_7 : Bool := ((((k13 (g9 (g8 a).1 (g8 a).2).1.R (g8 a).1.R) && ((((k14 (g9 (g8 a).1 (g8 a).2).1.Bus.Bytes (g8 a).1.Bus.Bytes) && true) || (y3_5 a)) && true)) || (!(y3_6 a))) && true)
def y3_8 : Bool := (bif (y3_6 a) then (bif (y3_5 a) then true else (!(g14 (g9 (g8 a).1 (g8 a).2).1.Bus.Bytes (g8 a).1.Bus.Bytes))) else false)
def y3_9 : Bool := (bif (bif (eqB (g12 (g15 b)).2.2.2 (g16 (g15 b)).2.2.2) then (eqB (g12 (g15 b)).2.2.1 (g16 (g15 b)).2.2.1) else false) then (eqI (g12 (g15 b)).2.1 (g16 (g15 b)).2.1) else false)
def y3_10 : Bool := (k21 (g17 b).1 (g17 b).2)
def y3_11 : Bool := (bif (y3_9 b) then (g11 (g12 (g15 b)).1 (g16 (g15 b)).1) else false)
def y3_12 : Bool := (g21 (g17 b).1 (g17 b).2)
def y3_13 : Bool := (bif (y3_11 b) then (eqB (y3_12 b) (g22 (g17 b).1 (g17 b).2)) else false)
def y3_14 : GCpu × Bool := (g19 (g18 b).1 (g18 b).2)
def y3_15 : GCpu × Bool := (g20v1 (g18 b).1 (g18 b).2)
def y3_16 : Bool := (bif (bif (y3_13 b) then (eqB (y3_12 b) (g11 (g17 b).1 (g17 b).2)) else false) then (eqB (y3_14 b).2 (y3_15 b).2) else false)
def y3_17 : Bool := ((((k11 (g12 (g15 b)).1 (g16 (g15 b)).1) && true) || (!(y3_9 b))) && ((((y3_10 b) && ((k22 (g17 b).1 (g17 b).2) && true)) || (!(y3_11 b))) && ((((y3_10 b) && ((k11 (g17 b).1 (g17 b).2) && true)) || (!(y3_13 b))) && ((((k11 (y3_14 b).1 (y3_15 b).1) && true) || (!(y3_16 b))) && true))))
def y3_18 : Bool := (bif (y3_16 b) then (g11 (y3_14 b).1 (y3_15 b).1) else false)
end
def T3 (a : List Row) (b : List Row) : Pt (Bool) := (.ok true (.ok true (.br (gtI (addI (lenI a) (lenI b)) 1048576) (.ok true (.ok true (.leaf true))) (.ok ((k8 a) && true) (.ok ((k9 (g8 a).1 (g8 a).2) && true) (.ok ((k10 (g8 a).1 (g8 a).2) && true) (.ok ((((k11 (g9 (g8 a).1 (g8 a).2).1 (y3_0 a).1) && true) || (y3_1 a)) && true) (.br (bif (y3_1 a) then true else (!(g11 (g9 (g8 a).1 (g8 a).2).1 (y3_0 a).1))) (.ok true (.ok true (.leaf false))) (.ok true (.br (bif (g9 (g8 a).1 (g8 a).2).2.2 then (g9 (g8 a).1 (g8 a).2).2.1 else false) (.ok ((k12 (g9 (g8 a).1 (g8 a).2).1) && true) (.ok ((((k13 (y3_2 a).1.R (g8 a).1.R) && true) || (y3_3 a)) && ((((inRow [.int .i64] (g9 (g8 a).1 (g8 a).2).1.R.A 3) && ((inRow [.int .i64] (g8 a).1.R.A 3) && true)) || (y3_4 a)) && true)) (.br (bif (y3_4 a) then true else (neI (intAt (g9 (g8 a).1 (g8 a).2).1.R.A 3 0) (remI (addI (intAt (g8 a).1.R.A 3 0) 65534) 65536))) (.ok true (.ok true (.leaf false))) (.ok (y3_7 a) (.br (y3_8 a) (.ok true (.ok true (.leaf false))) (.ok ((k15 b) && true) (.ok ((k12 (g15 b)) && true) (.ok ((k16 (g15 b)) && true) (.ok ((k17 b) && true) (.ok ((k18 b) && true) (.ok ((k19 (g18 b).1 (g18 b).2) && true) (.ok ((k20v1 (g18 b).1 (g18 b).2) && true) (.ok (y3_17 b) (.ok true (.leaf (y3_18 b)))))))))))))))) (.ok (y3_7 a) (.br (y3_8 a) (.ok true (.ok true (.leaf false))) (.ok ((k15 b) && true) (.ok ((k12 (g15 b)) && true) (.ok ((k16 (g15 b)) && true) (.ok ((k17 b) && true) (.ok ((k18 b) && true) (.ok ((k19 (g18 b).1 (g18 b).2) && true) (.ok ((k20v1 (g18 b).1 (g18 b).2) && true) (.ok (y3_17 b) (.ok true (.leaf (y3_18 b)))))))))))))))))))))))
def g3 (a : List Row) (b : List Row) : Bool := hid (T3 a b).val
def k3 (a : List Row) (b : List Row) : Bool := hid (T3 a b).okv
def q3 := DS33 (fun a b => n14 a b (g3 a b)) k3
theorem t3 : Con 3 q3 := DS33_t fun a b hk => tc at3 Q22_ok [(46, K8), (53, K8), (68, K8), (69, K8), (78, K8), (97, K6), (99, K6), (106, K1), (107, K0), (108, K0), (111, K1), (112, K0), (113, K0), (125, K6), (127, K6), (133, K1), (136, K1), (144, K8), (151, K8), (193, K8), (194, K8), (198, K8), (199, K8), (201, K8), (202, K8), (207, K8), (208, K8), (210, K8), (211, K8), (221, K8), (222, K8)] [] true (T3 a b) (n14 a b) hk
end
end Go.Proofs.YtdipcnijfkdnfaaGreatStack
