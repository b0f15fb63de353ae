import Derived.Test.YtdipcnijfkdnfaaGreatZqTabStack
import Derived.Test.YtdipcnijfkdnfaaGreatZmc
import Derived.KernelRfl
import Derived.Test.YtdipcnijfkdnfaaGreatZqStackR
set_option linter.unusedVariables false
set_option linter.unusedSimpArgs false
namespace Go.Proofs.YtdipcnijfkdnfaaGreatStack
open Option.some renaming inj → qi
open Prod.mk renaming inj → qp
open Go Go.Zq
open List renaming length → ln
set_option maxRecDepth 100000
noncomputable section
structure Gl1Cur where
 mk ::
 (fcode : List Row)
 (fat : Int)
 (fseed : Int)
def Gl1Cur.row (x : Gl1Cur) : Row := [.imm true 1 x.fcode, .lit (.int .i64 x.fat), .lit (.int .u64 x.fseed)]
def Gl1Cur.at (r : List Row) (j i : Nat) : Gl1Cur := ⟨rowsAt r j i, intAt r j (i + 1), intAt r j (i + 2)⟩
structure GOperand where
 mk ::
 (Mode : Int)
 (Reg : Int)
 (Ext : Int)
def GOperand.row (x : GOperand) : Row := [.lit (.int .i64 x.Mode), .lit (.int .i64 x.Reg), .lit (.int .i64 x.Ext)]
def GOperand.at (r : List Row) (j i : Nat) : GOperand := ⟨intAt r j i, intAt r j (i + 1), intAt r j (i + 2)⟩
structure GIns where
 mk ::
 (Op : Int)
 (Size : Int)
 (Reg : Int)
 (Ea : GOperand)
 (Sub : Int)
def GIns.row (x : GIns) : Row := [.lit (.int .i64 x.Op), .lit (.int .i64 x.Size), .lit (.int .i64 x.Reg), .lit (.int .i64 x.Ea.Mode), .lit (.int .i64 x.Ea.Reg), .lit (.int .i64 x.Ea.Ext), .lit (.int .i64 x.Sub)]
def GIns.at (r : List Row) (j i : Nat) : GIns := ⟨intAt r j i, intAt r j (i + 1), intAt r j (i + 2), ⟨intAt r j (i + 3), intAt r j (i + 4), intAt r j (i + 5)⟩, intAt r j (i + 6)⟩
structure GRegs where
 mk ::
 (D : List Row)
 (A : List Row)
 (Other : Int)
 (PC : Int)
 (Flags : Int)
 (Mask : Int)
 (Super : Bool)
 (Trace : Bool)
def GRegs.row (x : GRegs) : Row := [.imm true 1 x.D, .imm true 1 x.A, .lit (.int .i64 x.Other), .lit (.int .i64 x.PC), .lit (.int .i64 x.Flags), .lit (.int .i64 x.Mask), .lit (.bool x.Super), .lit (.bool x.Trace)]
def GRegs.at (r : List Row) (j i : Nat) : GRegs := ⟨rowsAt r j i, rowsAt r j (i + 1), intAt r j (i + 2), intAt r j (i + 3), intAt r j (i + 4), intAt r j (i + 5), boolAt r j (i + 6), boolAt r j (i + 7)⟩
structure GBus where
 mk ::
 (Bytes : List Row)
 (Log : List Row)
def GBus.row (x : GBus) : Row := [.imm true 1 x.Bytes, .imm true 5 x.Log]
def GBus.at (r : List Row) (j i : Nat) : GBus := ⟨rowsAt r j i, rowsAt r j (i + 1)⟩
structure GCpu where
 mk ::
 (R : GRegs)
 (Bus : GBus)
 (Stop : Bool)
 (Halt : Bool)
def GCpu.row (x : GCpu) : Row := [.imm true 1 x.R.D, .imm true 1 x.R.A, .lit (.int .i64 x.R.Other), .lit (.int .i64 x.R.PC), .lit (.int .i64 x.R.Flags), .lit (.int .i64 x.R.Mask), .lit (.bool x.R.Super), .lit (.bool x.R.Trace), .imm true 1 x.Bus.Bytes, .imm true 5 x.Bus.Log, .lit (.bool x.Stop), .lit (.bool x.Halt)]
def GCpu.at (r : List Row) (j i : Nat) : GCpu := ⟨⟨rowsAt r j i, rowsAt r j (i + 1), intAt r j (i + 2), intAt r j (i + 3), intAt r j (i + 4), intAt r j (i + 5), boolAt r j (i + 6), boolAt r j (i + 7)⟩, ⟨rowsAt r j (i + 8), rowsAt r j (i + 9)⟩, boolAt r j (i + 10), boolAt r j (i + 11)⟩
structure GAccess where
 mk ::
 (Kind : Int)
 (Size : Int)
 (Addr : Int)
 (Value : Int)
 (Code : Int)
def GAccess.row (x : GAccess) : Row := [.lit (.int .i64 x.Kind), .lit (.int .i64 x.Size), .lit (.int .i64 x.Addr), .lit (.int .i64 x.Value), .lit (.int .i64 x.Code)]
def GAccess.at (r : List Row) (j i : Nat) : GAccess := ⟨intAt r j i, intAt r j (i + 1), intAt r j (i + 2), intAt r j (i + 3), intAt r j (i + 4)⟩
structure GFault where
 mk ::
 (Vector : Int)
 (PC : Int)
 (Addr : Int)
 (Word : Int)
 (Write : Bool)
def GFault.row (x : GFault) : Row := [.lit (.int .i64 x.Vector), .lit (.int .i64 x.PC), .lit (.int .i64 x.Addr), .lit (.int .i64 x.Word), .lit (.bool x.Write)]
def GFault.at (r : List Row) (j i : Nat) : GFault := ⟨intAt r j i, intAt r j (i + 1), intAt r j (i + 2), intAt r j (i + 3), boolAt r j (i + 4)⟩
structure Gl10M where
 mk ::
 (fr : GRegs)
 (fbus : GBus)
 (fstop : Bool)
 (ffault : GFault)
def Gl10M.row (x : Gl10M) : Row := [.imm true 1 x.fr.D, .imm true 1 x.fr.A, .lit (.int .i64 x.fr.Other), .lit (.int .i64 x.fr.PC), .lit (.int .i64 x.fr.Flags), .lit (.int .i64 x.fr.Mask), .lit (.bool x.fr.Super), .lit (.bool x.fr.Trace), .imm true 1 x.fbus.Bytes, .imm true 5 x.fbus.Log, .lit (.bool x.fstop), .lit (.int .i64 x.ffault.Vector), .lit (.int .i64 x.ffault.PC), .lit (.int .i64 x.ffault.Addr), .lit (.int .i64 x.ffault.Word), .lit (.bool x.ffault.Write)]
def Gl10M.at (r : List Row) (j i : Nat) : Gl10M := ⟨⟨rowsAt r j i, rowsAt r j (i + 1), intAt r j (i + 2), intAt r j (i + 3), intAt r j (i + 4), intAt r j (i + 5), boolAt r j (i + 6), boolAt r j (i + 7)⟩, ⟨rowsAt r j (i + 8), rowsAt r j (i + 9)⟩, boolAt r j (i + 10), ⟨intAt r j (i + 11), intAt r j (i + 12), intAt r j (i + 13), intAt r j (i + 14), boolAt r j (i + 15)⟩⟩
def K0 : List Kd := [.int .i64]
def K1 : List Kd := [.imm 1]
def K2 : List Kd := [.int .u8]
def K3 : List Kd := [.int .u64]
def AS0 (a : Gl1Cur) : List SV := [(.one (.ptr 0 0 0))]
def HS0 (a : Gl1Cur) : List Blk := [.box [.imm true 1 a.fcode, li a.fat, .lit (.int .u64 a.fseed)]]
def DS0 (N : Gl1Cur → SV × List Blk) (K : Gl1Cur → Bool) : List SV → List Blk → Option ((SV × List Blk) × Bool)
 | [(.one (.ptr 0 0 0))], [.box [.imm true 1 c0, li c1, .lit (.int .u64 c2)]] => some (N (Gl1Cur.mk c0 c1 c2), K (Gl1Cur.mk c0 c1 c2))
 | _, _ => none
theorem DS0_t {N : Gl1Cur → SV × List Blk} {K : Gl1Cur → Bool} {f : Nat} (h : ∀ (a : Gl1Cur), K a = true → frzR R f (AS0 a) (HS0 a) = some (N a)) : Con f (DS0 N K) := fun _ _ _ e => by
 unfold DS0 at e
 split at e
 ·exact dsf e (h _)
 ·cases e
section
variable (a : Gl1Cur)
def y162_0 : Int := (bif (ltI a.fat (lenI a.fcode)) then (wrapK .i64 (intAt a.fcode (Int.toNat a.fat) 0)) else 0)
def y162_1 : Int := (addK .u64 (addK .u64 (mulK .u64 a.fseed 6364136223846793005) (wrapK .u64 (y162_0 a))) 1442695040888963407)
end
def T162 (a : Gl1Cur) : Pt (Gl1Cur × Int) := (.ok true (.ok true (.ok true (.ok ((((inRow [.int .u8] a.fcode a.fat) && true) || (!(ltI a.fat (lenI a.fcode)))) && true) (.ok true (.ok true (.ok true (.br (leI (addI a.fat 1) (lenI a.fcode)) (.ok true (.ok true (.leaf ((Gl1Cur.mk a.fcode (addI a.fat 1) (y162_1 a)), (y162_0 a))))) (.ok true (.ok true (.leaf ((Gl1Cur.mk a.fcode (addI a.fat 1) (y162_1 a)), (wrapK .i64 (andK .u64 (shrK .u64 (y162_1 a) 40) 255))))))))))))))
def g162 (a : Gl1Cur) : Gl1Cur × Int := hid (T162 a).val
def k162 (a : Gl1Cur) : Bool := hid (T162 a).okv
def n162 (a : Gl1Cur) (r : Gl1Cur × Int) : SV × List Blk := ((.one (li r.2)), [.box [.imm true 1 r.1.fcode, li r.1.fat, .lit (.int .u64 r.1.fseed)]])
def q162 := DS0 (fun a => n162 a (g162 a)) k162
theorem t162 : Con 162 q162 := DS0_t fun a hk => tc at162 qnil_ok [(7, K0), (11, K1), (17, K1), (21, K0), (22, K2), (23, K2), (28, K0), (36, K3), (47, K0), (51, K1), (58, K3)] [] true (T162 a) (n162 a) hk
def Q162 := qcons 162 q162 qnil
theorem Q162_ok : QO Q162 := qcons_ok t162 qnil_ok
def AS1 (b : Int) (a : Gl1Cur) : List SV := [(.one (.ptr 0 0 0)), (.one (li b))]
def HS1 (b : Int) (a : Gl1Cur) : List Blk := [.box [.imm true 1 a.fcode, li a.fat, .lit (.int .u64 a.fseed)]]
def DS1 (N : Int → Gl1Cur → SV × List Blk) (K : Int → Gl1Cur → Bool) : List SV → List Blk → Option ((SV × List Blk) × Bool)
 | [(.one (.ptr 0 0 0)), (.one (li c0))], [.box [.imm true 1 c1, li c2, .lit (.int .u64 c3)]] => some (N c0 (Gl1Cur.mk c1 c2 c3), K c0 (Gl1Cur.mk c1 c2 c3))
 | _, _ => none
theorem DS1_t {N : Int → Gl1Cur → SV × List Blk} {K : Int → Gl1Cur → Bool} {f : Nat} (h : ∀ (b : Int) (a : Gl1Cur), K b a = true → frzR R f (AS1 b a) (HS1 b a) = some (N b a)) : Con f (DS1 N K) := fun _ _ _ e => by
 unfold DS1 at e
 split at e
 ·exact dsf e (h _ _)
 ·cases e
def T89 (b : Int) (a : Gl1Cur) : Pt (Gl1Cur × Int) := (.ok true (.ok true (.br (leI b 1) (.ok true (.ok true (.leaf (a, 0)))) (.ok ((k162 a) && true) (.ok true (.br (gtI b 200) (.ok ((k162 (g162 a).1) && true) (.ok ((neI b 0) && true) (.ok true (.leaf ((g162 (g162 a).1).1, (remI (addI (mulI (g162 a).2 256) (g162 (g162 a).1).2) b)))))) (.ok ((neI b 0) && true) (.ok true (.leaf ((g162 a).1, (remI (g162 a).2 b)))))))))))
def g89 (b : Int) (a : Gl1Cur) : Gl1Cur × Int := hid (T89 b a).val
def k89 (b : Int) (a : Gl1Cur) : Bool := hid (T89 b a).okv
def n89 (b : Int) (a : Gl1Cur) (r : Gl1Cur × Int) : SV × List Blk := ((.one (li r.2)), [.box [.imm true 1 r.1.fcode, li r.1.fat, .lit (.int .u64 r.1.fseed)]])
def q89 := DS1 (fun b a => n89 b a (g89 b a)) k89
theorem t89 : Con 89 q89 := DS1_t fun b a hk => tc at89 Q162_ok [] [] true (T89 b a) (n89 b a) hk
def Q89 := qcons 89 q89 Q162
theorem Q89_ok : QO Q89 := qcons_ok t89 Q162_ok
def T86 (b : Int) (a : Gl1Cur) : Pt (Gl1Cur × Bool) := (.ok true (.ok ((k89 b a) && true) (.ok true (.leaf ((g89 b a).1, (eqI (g89 b a).2 0))))))
def g86 (b : Int) (a : Gl1Cur) : Gl1Cur × Bool := hid (T86 b a).val
def k86 (b : Int) (a : Gl1Cur) : Bool := hid (T86 b a).okv
def n86 (b : Int) (a : Gl1Cur) (r : Gl1Cur × Bool) : SV × List Blk := ((.one (.lit (.bool r.2))), [.box [.imm true 1 r.1.fcode, li r.1.fat, .lit (.int .u64 r.1.fseed)]])
def q86 := DS1 (fun b a => n86 b a (g86 b a)) k86
theorem t86 : Con 86 q86 := DS1_t fun b a hk => tc at86 Q89_ok [] [] true (T86 b a) (n86 b a) hk
def Q86 := qcons 86 q86 Q89
theorem Q86_ok : QO Q86 := qcons_ok t86 Q89_ok
def AS2 (a : Int) : List SV := [(.one (li a))]
def HS2 (a : Int) : List Blk := []
def DS2 (N : Int → SV × List Blk) (K : Int → Bool) : List SV → List Blk → Option ((SV × List Blk) × Bool)
 | [(.one (li c0))], [] => some (N c0, K c0)
 | _, _ => none
theorem DS2_t {N : Int → SV × List Blk} {K : Int → Bool} {f : Nat} (h : ∀ (a : Int), K a = true → frzR R f (AS2 a) (HS2 a) = some (N a)) : Con f (DS2 N K) := fun _ _ _ e => by
 unfold DS2 at e
 split at e
 ·exact dsf e (h _)
 ·cases e
def T240 (a : Int) : Pt (Bool) := (.ok true (.ok true (.ok true (.ok true (.leaf (geI a 5))))))
def g240 (a : Int) : Bool := hid (T240 a).val
def k240 (a : Int) : Bool := hid (T240 a).okv
def n240 (a : Int) (r : Bool) : SV × List Blk := ((.one (.lit (.bool r))), [])
def q240 := DS2 (fun a => n240 a (g240 a)) k240
theorem t240 : Con 100240 q240 := DS2_t fun a hk => tz at240 Q86_ok [] [] true (T240 a) (n240 a) hk
def Q240 := qcons 100240 q240 Q86
theorem Q240_ok : QO Q240 := qcons_ok t240 Q86_ok
def AS3 (b : List Row) (a : Gl1Cur) : List SV := [(.one (.ptr 0 0 0)), (.one (.imm false 1 b))]
def HS3 (b : List Row) (a : Gl1Cur) : List Blk := [.box [.imm true 1 a.fcode, li a.fat, .lit (.int .u64 a.fseed)]]
def DS3 (N : List Row → Gl1Cur → SV × List Blk) (K : List Row → Gl1Cur → Bool) : List SV → List Blk → Option ((SV × List Blk) × Bool)
 | [(.one (.ptr 0 0 0)), (.one (.imm false 1 c0))], [.box [.imm true 1 c1, li c2, .lit (.int .u64 c3)]] => some (N c0 (Gl1Cur.mk c1 c2 c3), K c0 (Gl1Cur.mk c1 c2 c3))
 | _, _ => none
theorem DS3_t {N : List Row → Gl1Cur → SV × List Blk} {K : List Row → Gl1Cur → Bool} {f : Nat} (h : ∀ (b : List Row) (a : Gl1Cur), K b a = true → frzR R f (AS3 b a) (HS3 b a) = some (N b a)) : Con f (DS3 N K) := fun _ _ _ e => by
 unfold DS3 at e
 split at e
 ·exact dsf e (h _ _)
 ·cases e
def T90 (b : List Row) (a : Gl1Cur) : Pt (Gl1Cur × Int) := (.ok true (.ok ((k89 (lenI b) a) && ((inRow [.int .i64] b (g89 (lenI b) a).2) && true)) (.ok true (.leaf ((g89 (lenI b) a).1, (intAt b (Int.toNat (g89 (lenI b) a).2) 0))))))
def g90 (b : List Row) (a : Gl1Cur) : Gl1Cur × Int := hid (T90 b a).val
def k90 (b : List Row) (a : Gl1Cur) : Bool := hid (T90 b a).okv
def n90 (b : List Row) (a : Gl1Cur) (r : Gl1Cur × Int) : SV × List Blk := ((.one (li r.2)), [.box [.imm true 1 r.1.fcode, li r.1.fat, .lit (.int .u64 r.1.fseed)]])
def q90 := DS3 (fun b a => n90 b a (g90 b a)) k90
theorem t90 : Con 90 q90 := DS3_t fun b a hk => tc at90 Q240_ok [(10, K0), (11, K0)] [] true (T90 b a) (n90 b a) hk
def Q90 := qcons 90 q90 Q240
theorem Q90_ok : QO Q90 := qcons_ok t90 Q240_ok
def K4 : List Kd := [.int .i64, .int .i64, .int .i64]
section
variable (a : Gl1Cur)
def y186_0 : Gl1Cur × Int := (g90 [(rowI 0), (rowI 1), (rowI 2), (rowI 20), (rowI 100), (rowI 200), (rowI 384), (rowI 448), (rowI 65535), (rowI 65534)] (g89 4 (g89 8 a).1).1)
def y186_1 : Gl1Cur × Int := (g89 9 (g86 60 (y186_0 a).1).1)
def y186_2 : Gl1Cur × Int := (g89 2 (g89 5 (y186_1 a).1).1)
def y186_3 : Gl1Cur × Bool := (g86 60 (g89 4 (g89 8 a).1).1)
def y186_4 : Gl1Cur × Int := (g89 5 (g89 9 (y186_3 a).1).1)
def y186_5 : Gl1Cur × Int := (g90 [(rowI 0), (rowI 1), (rowI 2), (rowI 20), (rowI 100), (rowI 200), (rowI 384), (rowI 448), (rowI 65535), (rowI 65534)] (g89 8 a).1)
def y186_6 : Gl1Cur × Int := (g89 9 (g86 60 (y186_5 a).1).1)
def y186_7 : Gl1Cur × Int := (g89 2 (g89 5 (y186_6 a).1).1)
def y186_8 : Gl1Cur × Int := (g89 9 (g86 60 (g89 8 a).1).1)
def y186_9 : Gl1Cur × Int := (g89 2 (g89 5 (y186_8 a).1).1)
end
def T186 (a : Gl1Cur) : Pt (Gl1Cur × GOperand) := (.ok true (.ok ((k89 8 a) && true) (.ok true (.br (ltI (g89 8 a).2 6) (.ok ((k89 4 (g89 8 a).1) && true) (.ok ((k240 (g89 8 a).2) && true) (.br (g240 (g89 8 a).2) (.ok ((k90 [(rowI 0), (rowI 1), (rowI 2), (rowI 20), (rowI 100), (rowI 200), (rowI 384), (rowI 448), (rowI 65535), (rowI 65534)] (g89 4 (g89 8 a).1).1) && true) (.ok ((k86 60 (y186_0 a).1) && true) (.br (g86 60 (y186_0 a).1).2 (.ok ((k89 9 (g86 60 (y186_0 a).1).1) && ((k89 5 (y186_1 a).1) && ((k89 2 (g89 5 (y186_1 a).1).1) && true))) (.ok true (.ok true (.leaf ((y186_2 a).1, (GOperand.mk (y186_1 a).2 (g89 5 (y186_1 a).1).2 (y186_2 a).2)))))) (.ok true (.ok true (.leaf ((g86 60 (y186_0 a).1).1, (GOperand.mk (g89 8 a).2 (g89 4 (g89 8 a).1).2 (y186_0 a).2)))))))) (.ok ((k86 60 (g89 4 (g89 8 a).1).1) && true) (.br (y186_3 a).2 (.ok ((k89 9 (y186_3 a).1) && ((k89 5 (g89 9 (y186_3 a).1).1) && ((k89 2 (y186_4 a).1) && true))) (.ok true (.ok true (.leaf ((g89 2 (y186_4 a).1).1, (GOperand.mk (g89 9 (y186_3 a).1).2 (y186_4 a).2 (g89 2 (y186_4 a).1).2)))))) (.ok true (.ok true (.leaf ((y186_3 a).1, (GOperand.mk (g89 8 a).2 (g89 4 (g89 8 a).1).2 0)))))))))) (.ok ((k240 (g89 8 a).2) && true) (.br (g240 (g89 8 a).2) (.ok ((k90 [(rowI 0), (rowI 1), (rowI 2), (rowI 20), (rowI 100), (rowI 200), (rowI 384), (rowI 448), (rowI 65535), (rowI 65534)] (g89 8 a).1) && true) (.ok ((k86 60 (y186_5 a).1) && true) (.br (g86 60 (y186_5 a).1).2 (.ok ((k89 9 (g86 60 (y186_5 a).1).1) && ((k89 5 (y186_6 a).1) && ((k89 2 (g89 5 (y186_6 a).1).1) && true))) (.ok true (.ok true (.leaf ((y186_7 a).1, (GOperand.mk (y186_6 a).2 (g89 5 (y186_6 a).1).2 (y186_7 a).2)))))) (.ok true (.ok true (.leaf ((g86 60 (y186_5 a).1).1, (GOperand.mk (g89 8 a).2 0 (y186_5 a).2)))))))) (.ok ((k86 60 (g89 8 a).1) && true) (.br (g86 60 (g89 8 a).1).2 (.ok ((k89 9 (g86 60 (g89 8 a).1).1) && ((k89 5 (y186_8 a).1) && ((k89 2 (g89 5 (y186_8 a).1).1) && true))) (.ok true (.ok true (.leaf ((y186_9 a).1, (GOperand.mk (y186_8 a).2 (g89 5 (y186_8 a).1).2 (y186_9 a).2)))))) (.ok true (.ok true (.leaf ((g86 60 (g89 8 a).1).1, (GOperand.mk (g89 8 a).2 0 0)))))))))))))
def g186 (a : Gl1Cur) : Gl1Cur × GOperand := hid (T186 a).val
def k186 (a : Gl1Cur) : Bool := hid (T186 a).okv
def n186 (a : Gl1Cur) (r : Gl1Cur × GOperand) : SV × List Blk := ((.agg [li r.2.Mode, li r.2.Reg, li r.2.Ext]), [.box [.imm true 1 r.1.fcode, li r.1.fat, .lit (.int .u64 r.1.fseed)]])
def q186 := DS0 (fun a => n186 a (g186 a)) k186
theorem t186 : Con 186 q186 := DS0_t fun a hk => tc at186 Q90_ok [(8, K0), (14, K0), (29, K4)] [] true (T186 a) (n186 a) hk
def Q186 := qcons 186 q186 Q90
theorem Q186_ok : QO Q186 := qcons_ok t186 Q90_ok
def AS4 (a : Bool) (b : Int) : List SV := [(.one (.lit (.bool a))), (.one (li b))]
def HS4 (a : Bool) (b : Int) : List Blk := []
def DS4 (N : Bool → Int → SV × List Blk) (K : Bool → Int → Bool) : List SV → List Blk → Option ((SV × List Blk) × Bool)
 | [(.one (.lit (.bool c0))), (.one (li c1))], [] => some (N c0 c1, K c0 c1)
 | _, _ => none
theorem DS4_t {N : Bool → Int → SV × List Blk} {K : Bool → Int → Bool} {f : Nat} (h : ∀ (a : Bool) (b : Int), K a b = true → frzR R f (AS4 a b) (HS4 a b) = some (N a b)) : Con f (DS4 N K) := fun _ _ _ e => by
 unfold DS4 at e
 split at e
 ·exact dsf e (h _ _)
 ·cases e
def T179 (a : Bool) (b : Int) : Pt (Int) := (.ok true (.ok true (.br a (.ok true (.ok true (.ok true (.leaf b)))) (.ok true (.ok true (.ok true (.leaf 0)))))))
def g179 (a : Bool) (b : Int) : Int := hid (T179 a b).val
def k179 (a : Bool) (b : Int) : Bool := hid (T179 a b).okv
def n179 (a : Bool) (b : Int) (r : Int) : SV × List Blk := ((.one (li r)), [])
def q179 := DS4 (fun a b => n179 a b (g179 a b)) k179
theorem t179 : Con 100179 q179 := DS4_t fun a b hk => tz at179 Q186_ok [] [] true (T179 a b) (n179 a b) hk
def Q179 := qcons 100179 q179 Q186
theorem Q179_ok : QO Q179 := qcons_ok t179 Q186_ok
def T190 (a : Int) : Pt (Bool) := (.ok true (.ok true (.ok true (.ok true (.leaf (bif (eqI a 1) then true else (eqI a 2)))))))
def g190 (a : Int) : Bool := hid (T190 a).val
def k190 (a : Int) : Bool := hid (T190 a).okv
def q190 := DS2 (fun a => n240 a (g190 a)) k190
theorem t190 : Con 100190 q190 := DS2_t fun a hk => tz at190 Q179_ok [] [] true (T190 a) (n240 a) hk
def Q190 := qcons 100190 q190 Q179
theorem Q190_ok : QO Q190 := qcons_ok t190 Q179_ok
def AS5 (a : Int) (b : Int) (c : Int) : List SV := [(.one (li a)), (.one (li b)), (.one (li c))]
def HS5 (a : Int) (b : Int) (c : Int) : List Blk := []
def DS5 (N : Int → Int → Int → SV × List Blk) (K : Int → Int → Int → Bool) : List SV → List Blk → Option ((SV × List Blk) × Bool)
 | [(.one (li c0)), (.one (li c1)), (.one (li c2))], [] => some (N c0 c1 c2, K c0 c1 c2)
 | _, _ => none
theorem DS5_t {N : Int → Int → Int → SV × List Blk} {K : Int → Int → Int → Bool} {f : Nat} (h : ∀ (a : Int) (b : Int) (c : Int), K a b c = true → frzR R f (AS5 a b c) (HS5 a b c) = some (N a b c)) : Con f (DS5 N K) := fun _ _ _ e => by
 unfold DS5 at e
 split at e
 ·exact dsf e (h _ _ _)
 ·cases e
def T108 (a : Int) (b : Int) (c : Int) : Pt (Bool) := (.ok true (.ok true (.ok true (.ok true (.leaf (bif (geI a b) then (leI a c) else false))))))
def g108 (a : Int) (b : Int) (c : Int) : Bool := hid (T108 a b c).val
def k108 (a : Int) (b : Int) (c : Int) : Bool := hid (T108 a b c).okv
def n108 (a : Int) (b : Int) (c : Int) (r : Bool) : SV × List Blk := ((.one (.lit (.bool r))), [])
def q108 := DS5 (fun a b c => n108 a b c (g108 a b c)) k108
theorem t108 : Con 100108 q108 := DS5_t fun a b c hk => tz at108 Q190_ok [] [] true (T108 a b c) (n108 a b c) hk
def Q108 := qcons 100108 q108 Q190
theorem Q108_ok : QO Q108 := qcons_ok t108 Q190_ok
def T77 (a : Int) : Pt (Bool) := (.ok true (.ok ((k108 a 0 65535) && true) (.ok true (.ok true (.leaf (g108 a 0 65535))))))
def g77 (a : Int) : Bool := hid (T77 a).val
def k77 (a : Int) : Bool := hid (T77 a).okv
def q77 := DS2 (fun a => n240 a (g77 a)) k77
theorem t77 : Con 100077 q77 := DS2_t fun a hk => tz at77 Q108_ok [] [] true (T77 a) (n240 a) hk
def Q77 := qcons 100077 q77 Q108
theorem Q77_ok : QO Q77 := qcons_ok t77 Q108_ok
def AS6 (a : GOperand) : List SV := [(.agg [li a.Mode, li a.Reg, li a.Ext])]
def HS6 (a : GOperand) : List Blk := []
def DS6 (N : GOperand → SV × List Blk) (K : GOperand → Bool) : List SV → List Blk → Option ((SV × List Blk) × Bool)
 | [(.agg [li c0, li c1, li c2])], [] => some (N (GOperand.mk c0 c1 c2), K (GOperand.mk c0 c1 c2))
 | _, _ => none
theorem DS6_t {N : GOperand → SV × List Blk} {K : GOperand → Bool} {f : Nat} (h : ∀ (a : GOperand), K a = true → frzR R f (AS6 a) (HS6 a) = some (N a)) : Con f (DS6 N K) := fun _ _ _ e => by
 unfold DS6 at e
 split at e
 ·exact dsf e (h _)
 ·cases e
def T191 (a : GOperand) : Pt (Bool) := (.ok true (.ok ((k108 a.Mode 0 7) && ((((k108 a.Reg 0 3) && true) || (!(g108 a.Mode 0 7))) && true)) (.br (bif (bif (!(g108 a.Mode 0 7)) then true else (!(g108 a.Reg 0 3))) then true else (bif (geI a.Mode 6) then (neI a.Reg 0) else false)) (.ok true (.ok true (.ok true (.leaf false)))) (.ok ((k77 a.Ext) && ((((k240 a.Mode) && true) || (!(g77 a.Ext))) && true)) (.ok true (.ok true (.leaf (bif (g77 a.Ext) then (bif (g240 a.Mode) then true else (eqI a.Ext 0)) else false))))))))
def g191 (a : GOperand) : Bool := hid (T191 a).val
def k191 (a : GOperand) : Bool := hid (T191 a).okv
def n191 (a : GOperand) (r : Bool) : SV × List Blk := ((.one (.lit (.bool r))), [])
def q191 := DS6 (fun a => n191 a (g191 a)) k191
theorem t191 : Con 100191 q191 := DS6_t fun a hk => tz at191 Q77_ok [(4, K0), (9, K0), (15, K0), (19, K0), (24, K0), (28, K0), (32, K0)] [] true (T191 a) (n191 a) hk
def Q191 := qcons 100191 q191 Q77
theorem Q191_ok : QO Q191 := qcons_ok t191 Q77_ok
def T192 (a : Int) : Pt (Bool) := (.ok true (.ok ((k108 a 2 6) && true) (.ok true (.ok true (.leaf (g108 a 2 6))))))
def g192 (a : Int) : Bool := hid (T192 a).val
def k192 (a : Int) : Bool := hid (T192 a).okv
def q192 := DS2 (fun a => n240 a (g192 a)) k192
theorem t192 : Con 100192 q192 := DS2_t fun a hk => tz at192 Q191_ok [] [] true (T192 a) (n240 a) hk
def Q192 := qcons 100192 q192 Q191
theorem Q192_ok : QO Q192 := qcons_ok t192 Q191_ok
def T193 (a : Int) : Pt (Bool) := (.ok true (.ok true (.ok true (.ok true (.leaf (bif (bif (eqI a 2) then true else (eqI a 5)) then true else (eqI a 6)))))))
def g193 (a : Int) : Bool := hid (T193 a).val
def k193 (a : Int) : Bool := hid (T193 a).okv
def q193 := DS2 (fun a => n240 a (g193 a)) k193
theorem t193 : Con 100193 q193 := DS2_t fun a hk => tz at193 Q192_ok [] [] true (T193 a) (n240 a) hk
def Q193 := qcons 100193 q193 Q192
theorem Q193_ok : QO Q193 := qcons_ok t193 Q192_ok
def T194 (a : GOperand) : Pt (Bool) := (.ok true (.ok true (.ok true (.ok true (.leaf (bif (eqI a.Mode 7) then (leI a.Ext 1023) else false))))))
def g194 (a : GOperand) : Bool := hid (T194 a).val
def k194 (a : GOperand) : Bool := hid (T194 a).okv
def q194 := DS6 (fun a => n191 a (g194 a)) k194
theorem t194 : Con 100194 q194 := DS6_t fun a hk => tz at194 Q193_ok [(4, K0), (8, K0)] [] true (T194 a) (n191 a) hk
def Q194 := qcons 100194 q194 Q193
theorem Q194_ok : QO Q194 := qcons_ok t194 Q193_ok
def T195 (a : GOperand) : Pt (Bool) := (.ok true (.ok true (.ok true (.ok true (.leaf ((eqI a.Mode 0) && ((eqI a.Reg 0) && ((eqI a.Ext 0) && true))))))))
def g195 (a : GOperand) : Bool := hid (T195 a).val
def k195 (a : GOperand) : Bool := hid (T195 a).okv
def q195 := DS6 (fun a => n191 a (g195 a)) k195
theorem t195 : Con 100195 q195 := DS6_t fun a hk => tz at195 Q194_ok [(3, K4)] [] true (T195 a) (n191 a) hk
def Q195 := qcons 100195 q195 Q194
theorem Q195_ok : QO Q195 := qcons_ok t195 Q194_ok
def AS7 (a : GIns) : List SV := [(.agg [li a.Op, li a.Size, li a.Reg, li a.Ea.Mode, li a.Ea.Reg, li a.Ea.Ext, li a.Sub])]
def HS7 (a : GIns) : List Blk := []
def DS7 (N : GIns → SV × List Blk) (K : GIns → Bool) : List SV → List Blk → Option ((SV × List Blk) × Bool)
 | [(.agg [li c0, li c1, li c2, li c3, li c4, li c5, li c6])], [] => some (N (GIns.mk c0 c1 c2 (GOperand.mk c3 c4 c5) c6), K (GIns.mk c0 c1 c2 (GOperand.mk c3 c4 c5) c6))
 | _, _ => none
theorem DS7_t {N : GIns → SV × List Blk} {K : GIns → Bool} {f : Nat} (h : ∀ (a : GIns), K a = true → frzR R f (AS7 a) (HS7 a) = some (N a)) : Con f (DS7 N K) := fun _ _ _ e => by
 unfold DS7 at e
 split at e
 ·exact dsf e (h _)
 ·cases e
section
variable (a : GIns)
def y126_0 : Bool := (bif (!(g190 a.Size)) then true else (!(g108 a.Reg 0 3)))
def y126_1 : Bool := (bif (y126_0 a) then true else (!(g191 a.Ea)))
def y126_2 : Bool := ((((k192 a.Ea.Mode) && true) || (eqI a.Ea.Mode 0)) && true)
def y126_3 : Bool := (bif (eqI a.Ea.Mode 0) then true else (g192 a.Ea.Mode))
def y126_4 : Bool := (bif (eqI a.Size 2) then (eqI a.Sub 0) else false)
def y126_5 : Bool := (bif (eqI a.Reg 0) then (leI a.Sub 3) else false)
def y126_6 : Bool := (bif (eqI a.Size 2) then (eqI a.Reg 0) else false)
def y126_7 : Bool := (bif (y126_6 a) then (leI a.Sub 1) else false)
def y126_8 : Bool := (bif (eqI a.Sub 0) then (eqI a.Reg 0) else false)
def y126_9 : Bool := (bif (y126_8 a) then (g194 a.Ea) else false)
def y126_10 : Bool := (bif (eqI a.Size 2) then (leI a.Sub 6) else false)
end
def T126 (a : GIns) : Pt (Bool) := (.ok true (.ok ((k190 a.Size) && ((((k108 a.Reg 0 3) && true) || (!(g190 a.Size))) && ((((k191 a.Ea) && true) || (y126_0 a)) && ((((k108 a.Sub 0 7) && true) || (y126_1 a)) && true)))) (.br (bif (bif (y126_1 a) then true else (!(g108 a.Sub 0 7))) then true else (bif (bif (eqI a.Ea.Mode 7) then (eqI a.Size 1) else false) then (gtI a.Ea.Ext 255) else false)) (.ok true (.ok true (.ok true (.leaf false)))) (.ok true (.ok true (.ok true (.ok true (.ok true (.br (bif (eqI a.Op 1) then (eqI a.Op 1) else (bif (eqI a.Op 3) then (eqI a.Op 3) else (bif (eqI a.Op 4) then (eqI a.Op 4) else (bif (eqI a.Op 5) then (eqI a.Op 5) else (bif (eqI a.Op 6) then (eqI a.Op 6) else (bif (eqI a.Op 7) then (eqI a.Op 7) else (eqI a.Op 8))))))) (.ok true (.ok true (.ok true (.leaf (bif (eqI a.Sub 0) then (bif (eqI a.Size 2) then true else (neI a.Ea.Mode 1)) else false))))) (.ok true (.br (eqI a.Op 2) (.ok (((y126_2 a) || (!(eqI a.Sub 0))) && true) (.ok true (.ok true (.leaf (bif (eqI a.Sub 0) then (y126_3 a) else false))))) (.ok true (.br (eqI a.Op 9) (.ok true (.ok true (.ok true (.leaf (y126_4 a))))) (.ok true (.br (eqI a.Op 10) (.ok ((((k193 a.Ea.Mode) && true) || (!(y126_4 a))) && true) (.ok true (.ok true (.leaf (bif (y126_4 a) then (g193 a.Ea.Mode) else false))))) (.ok true (.br (eqI a.Op 11) (.ok (((y126_2 a) || (!(y126_5 a))) && true) (.ok true (.ok true (.leaf (bif (y126_5 a) then (y126_3 a) else false))))) (.ok true (.br (eqI a.Op 12) (.ok true (.ok true (.ok true (.leaf (eqI a.Ea.Mode 0))))) (.ok true (.br (eqI a.Op 13) (.ok true (.ok true (.ok true (.leaf (bif (bif (eqI a.Size 2) then (leI a.Reg 1) else false) then (eqI a.Ea.Mode 7) else false))))) (.ok true (.br (eqI a.Op 14) (.ok ((((k193 a.Ea.Mode) && true) || (!(y126_7 a))) && true) (.ok true (.ok true (.leaf (bif (y126_7 a) then (g193 a.Ea.Mode) else false))))) (.ok true (.ok true (.br (bif (eqI a.Op 16) then (eqI a.Op 16) else (eqI a.Op 17)) (.ok true (.ok true (.ok true (.leaf (bif (y126_4 a) then (neI a.Ea.Mode 1) else false))))) (.ok true (.br (eqI a.Op 18) (.ok true (.ok true (.ok true (.leaf (bif (bif (!(eqI a.Size 2)) then (leI a.Sub 1) else false) then (eqI a.Ea.Mode 0) else false))))) (.ok true (.br (eqI a.Op 19) (.ok ((((((k194 a.Ea) && true) || (!(y126_8 a))) && ((((((k195 a.Ea) && true) || (!(eqI a.Sub 1))) && true) || (y126_9 a)) && true)) || (!(eqI a.Size 2))) && true) (.ok true (.ok true (.leaf (bif (eqI a.Size 2) then (bif (y126_9 a) then true else (bif (eqI a.Sub 1) then (g195 a.Ea) else false)) else false))))) (.ok true (.br (eqI a.Op 15) (.ok true (.br (eqI a.Sub 3) (.ok ((((k194 a.Ea) && true) || (!(y126_6 a))) && true) (.ok true (.ok true (.leaf (bif (y126_6 a) then (g194 a.Ea) else false))))) (.ok ((((k195 a.Ea) && true) || (!(y126_10 a))) && true) (.ok true (.ok true (.leaf (bif (bif (y126_10 a) then (g195 a.Ea) else false) then (bif (gtI a.Sub 3) then true else (eqI a.Reg 0)) else false))))))) (.ok true (.ok true (.ok true (.leaf false))))))))))))))))))))))))))))))))))))
def g126 (a : GIns) : Bool := hid (T126 a).val
def k126 (a : GIns) : Bool := hid (T126 a).okv
def n126 (a : GIns) (r : Bool) : SV × List Blk := ((.one (.lit (.bool r))), [])
def q126 := DS7 (fun a => n126 a (g126 a)) k126
theorem t126 : Con 100126 q126 := DS7_t fun a hk => tz at126 Q195_ok [(6, K0), (11, K0), (17, K4), (23, K0), (30, K0), (34, K0), (40, K0), (45, K0), (49, K0), (51, K0), (61, K0), (73, K0), (88, K0), (96, K0), (106, K0), (110, K0), (130, K0), (142, K0), (147, K0), (160, K0), (173, K0), (185, K0), (189, K0), (194, K4), (199, K0), (203, K4), (211, K0), (216, K0), (221, K4), (227, K0), (232, K4), (237, K0), (241, K0)] [] true (T126 a) (n126 a) hk
def Q126 := qcons 100126 q126 Q195
theorem Q126_ok : QO Q126 := qcons_ok t126 Q195_ok
def K5 : List Kd := [.int .i64, .int .i64, .int .i64, .int .i64, .int .i64, .int .i64, .int .i64]
structure V185_0 where
 mk ::
 (b0 : Gl1Cur)
 (b1 : GIns)
 (s3 : Int)
section
variable (v : V185_0)
def y185_0_l_0 : Gl1Cur × Int := (g89 4 (g89 2 (g89 19 v.b0).1).1)
def y185_0_l_1 : Bool := (eqI (addI 1 (g89 2 (g89 19 v.b0).1).2) 1)
def y185_0_l_2 : Bool := (bif (y185_0_l_1 v) then (eqI (g186 (y185_0_l_0 v).1).2.Mode 7) else false)
def y185_0_l_3 : GOperand := { (g186 (y185_0_l_0 v).1).2 with Ext := (andI (g186 (y185_0_l_0 v).1).2.Ext 255) }
def y185_0_l_4 : Gl1Cur × Int := (g89 4 (g186 (y185_0_l_0 v).1).1)
def y185_0_l_5 : Bool := (k89 2 (g186 (y185_0_l_0 v).1).1)
def y185_0_l_6 : Gl1Cur × Int := (g89 2 (g186 (y185_0_l_0 v).1).1)
def y185_0_l_7 : Bool := (((y185_0_l_5 v) && ((k89 7 (y185_0_l_6 v).1) && ((k179 (eqI (addI 1 (g89 19 v.b0).2) 12) 1) && true))) && true)
def y185_0_l_8 : Int := (mulI (y185_0_l_6 v).2 (addI 1 (mulI (g89 7 (y185_0_l_6 v).1).2 (g179 (eqI (addI 1 (g89 19 v.b0).2) 12) 1))))
def y185_0_l_9 : Bool := ((same (α := Int) (addI 1 (g89 2 (g89 19 v.b0).1).2) (addI 1 (g89 2 (g89 19 v.b0).1).2)) && ((same (α := Int) (y185_0_l_0 v).2 (y185_0_l_0 v).2) && ((same (α := Int) (g186 (y185_0_l_0 v).1).2.Mode (g186 (y185_0_l_0 v).1).2.Mode) && ((same (α := Int) (g186 (y185_0_l_0 v).1).2.Reg (g186 (y185_0_l_0 v).1).2.Reg) && ((same (α := Int) (g186 (y185_0_l_0 v).1).2.Ext (g186 (y185_0_l_0 v).1).2.Ext) && ((same (α := Int) (y185_0_l_8 v) (y185_0_l_8 v)) && true))))))
def y185_0_l_10 : Bool := (((same (α := Int) v.b1.Op v.b1.Op) && ((same (α := Int) v.b1.Size v.b1.Size) && ((same (α := Int) v.b1.Reg v.b1.Reg) && ((same (α := Int) v.b1.Ea.Mode v.b1.Ea.Mode) && ((same (α := Int) v.b1.Ea.Reg v.b1.Ea.Reg) && ((same (α := Int) v.b1.Ea.Ext v.b1.Ea.Ext) && ((same (α := Int) v.b1.Sub v.b1.Sub) && true))))))) && (((same (α := Int) (addI 1 (g89 19 v.b0).2) (addI 1 (g89 19 v.b0).2)) && (y185_0_l_9 v)) && true))
def y185_0_l_11 : Bool := (((same (α := Int) v.s3 v.s3) && true) && ((((same (α := Bool) true true) && (sameR (g89 7 (y185_0_l_6 v).1).1.fcode (g89 7 (y185_0_l_6 v).1).1.fcode)) && ((same (α := Int) (g89 7 (y185_0_l_6 v).1).1.fat (g89 7 (y185_0_l_6 v).1).1.fat) && ((same (α := Int) (g89 7 (y185_0_l_6 v).1).1.fseed (g89 7 (y185_0_l_6 v).1).1.fseed) && true))) && (y185_0_l_10 v)))
def y185_0_l_12 : Gl1Cur × Int := (g89 4 (g89 7 (y185_0_l_6 v).1).1)
def y185_0_l_13 : Bool := ((k126 (GIns.mk (addI 1 (g89 19 v.b0).2) 1 (y185_0_l_0 v).2 (GOperand.mk 0 (y185_0_l_12 v).2 0) (andI (y185_0_l_8 v) 7))) && true)
def y185_0_l_14 : Bool := (g126 (GIns.mk (addI 1 (g89 19 v.b0).2) 1 (y185_0_l_0 v).2 (GOperand.mk 0 (y185_0_l_12 v).2 0) (andI (y185_0_l_8 v) 7)))
def y185_0_l_15 : V185_0 := (V185_0.mk (y185_0_l_12 v).1 v.b1 (addI v.s3 1))
def y185_0_l_16 : Bool := ((k126 (GIns.mk (addI 1 (g89 19 v.b0).2) (addI 1 (g89 2 (g89 19 v.b0).1).2) (y185_0_l_0 v).2 (GOperand.mk 0 (y185_0_l_12 v).2 0) (andI (y185_0_l_8 v) 7))) && true)
def y185_0_l_17 : Bool := (g126 (GIns.mk (addI 1 (g89 19 v.b0).2) (addI 1 (g89 2 (g89 19 v.b0).1).2) (y185_0_l_0 v).2 (GOperand.mk 0 (y185_0_l_12 v).2 0) (andI (y185_0_l_8 v) 7)))
def y185_0_l_18 : Gl1Cur × Int := (g90 [(rowI 2), (rowI 4), (rowI 6), (rowI 8), (rowI 65526), (rowI 65530), (rowI 0), (rowI 3)] (g89 8 (y185_0_l_6 v).1).1)
def y185_0_l_19 : Gl1Cur × Int := (g90 [(rowI 0), (rowI 1), (rowI 2), (rowI 2), (rowI 3), (rowI 4), (rowI 5), (rowI 6)] (g186 (y185_0_l_0 v).1).1)
def y185_0_l_20 : Gl1Cur × Int := (g89 4 (y185_0_l_19 v).1)
def y185_0_l_21 : Gl1Cur × Int := (g90 [(rowI 0), (rowI 256), (rowI 512), (rowI 1023)] (y185_0_l_20 v).1)
def y185_0_l_22 : Bool := ((k126 (GIns.mk 15 2 (y185_0_l_20 v).2 (GOperand.mk 0 0 0) (y185_0_l_19 v).2)) && true)
def y185_0_l_23 : Bool := (g126 (GIns.mk 15 2 (y185_0_l_20 v).2 (GOperand.mk 0 0 0) (y185_0_l_19 v).2))
def y185_0_l_24 : Gl1Cur × Int := (g90 [(rowI 0), (rowI 256), (rowI 512), (rowI 1023)] (y185_0_l_19 v).1)
def y185_0_l_25 : Bool := ((k126 (GIns.mk 15 2 0 (GOperand.mk 0 0 0) (y185_0_l_19 v).2)) && true)
def y185_0_l_26 : Bool := (g126 (GIns.mk 15 2 0 (GOperand.mk 0 0 0) (y185_0_l_19 v).2))
def y185_0_l_27 : Gl1Cur × Int := (g90 [(rowI 0), (rowI 256), (rowI 480), (rowI 768), (rowI 31)] (g186 (y185_0_l_0 v).1).1)
def y185_0_l_28 : Gl1Cur × Bool := (g86 2 (y185_0_l_27 v).1)
def y185_0_l_29 : Gl1Cur × Int := (g89 4 (y185_0_l_28 v).1)
def y185_0_l_30 : Bool := ((k126 (GIns.mk 19 2 (y185_0_l_29 v).2 (GOperand.mk 0 0 0) 1)) && true)
def y185_0_l_31 : Bool := (g126 (GIns.mk 19 2 (y185_0_l_29 v).2 (GOperand.mk 0 0 0) 1))
def y185_0_l_32 : V185_0 := (V185_0.mk (g186 (y185_0_l_0 v).1).1 v.b1 (addI v.s3 1))
end
def N185_0 (v : V185_0) : Pt (Option V185_0) := (.ok true (.br (ltI v.s3 6) (.ok ((k89 19 v.b0) && ((k89 2 (g89 19 v.b0).1) && ((k89 4 (g89 2 (g89 19 v.b0).1).1) && ((k186 (y185_0_l_0 v).1) && true)))) (.ok true (.ok true (.br (eqI (addI 1 (g89 19 v.b0).2) 11) (.ok true (.ok ((k89 4 (g186 (y185_0_l_0 v).1).1) && true) (.ok true (.br (y185_0_l_2 v) (.ok true (.ok ((k126 (GIns.mk (addI 1 (g89 19 v.b0).2) (addI 1 (g89 2 (g89 19 v.b0).1).2) 0 (y185_0_l_3 v) (y185_0_l_4 v).2)) && true) (.br (g126 (GIns.mk (addI 1 (g89 19 v.b0).2) (addI 1 (g89 2 (g89 19 v.b0).1).2) 0 (y185_0_l_3 v) (y185_0_l_4 v).2)) (.ok true (.leaf none)) (.ok true (.ok true (.leaf (some (V185_0.mk (y185_0_l_4 v).1 v.b1 (addI v.s3 1))))))))) (.ok ((k126 (GIns.mk (addI 1 (g89 19 v.b0).2) (addI 1 (g89 2 (g89 19 v.b0).1).2) 0 (g186 (y185_0_l_0 v).1).2 (y185_0_l_4 v).2)) && true) (.br (g126 (GIns.mk (addI 1 (g89 19 v.b0).2) (addI 1 (g89 2 (g89 19 v.b0).1).2) 0 (g186 (y185_0_l_0 v).1).2 (y185_0_l_4 v).2)) (.ok true (.leaf none)) (.ok true (.ok true (.leaf (some (V185_0.mk (y185_0_l_4 v).1 v.b1 (addI v.s3 1)))))))))))) (.ok true (.ok true (.br (bif (eqI (addI 1 (g89 19 v.b0).2) 12) then (eqI (addI 1 (g89 19 v.b0).2) 12) else (eqI (addI 1 (g89 19 v.b0).2) 18)) (.ok ((y185_0_l_7 v) && (((y185_0_l_7 v) && ((y185_0_l_7 v) && (y185_0_l_11 v))) && (y185_0_l_11 v))) (.ok true (.ok ((k89 4 (g89 7 (y185_0_l_6 v).1).1) && true) (.ok true (.br (eqI (addI 1 (g89 19 v.b0).2) 18) (.ok true (.ok true (.br false (.ok true (.ok (y185_0_l_13 v) (.br (y185_0_l_14 v) (.ok true (.leaf none)) (.ok true (.ok true (.leaf (some (y185_0_l_15 v)))))))) (.ok (y185_0_l_13 v) (.br (y185_0_l_14 v) (.ok true (.leaf none)) (.ok true (.ok true (.leaf (some (y185_0_l_15 v)))))))))) (.ok true (.br (bif (y185_0_l_1 v) then false else false) (.ok true (.ok (y185_0_l_16 v) (.br (y185_0_l_17 v) (.ok true (.leaf none)) (.ok true (.ok true (.leaf (some (y185_0_l_15 v)))))))) (.ok (y185_0_l_16 v) (.br (y185_0_l_17 v) (.ok true (.leaf none)) (.ok true (.ok true (.leaf (some (y185_0_l_15 v)))))))))))))) (.ok true (.br (eqI (addI 1 (g89 19 v.b0).2) 13) (.ok ((y185_0_l_5 v) && ((k89 8 (y185_0_l_6 v).1) && ((k90 [(rowI 2), (rowI 4), (rowI 6), (rowI 8), (rowI 65526), (rowI 65530), (rowI 0), (rowI 3)] (g89 8 (y185_0_l_6 v).1).1) && true))) (.ok true (.br false (.ok true (.ok ((k126 (GIns.mk 13 2 (y185_0_l_6 v).2 (GOperand.mk 7 0 (andI (y185_0_l_18 v).2 255)) (g89 8 (y185_0_l_6 v).1).2)) && true) (.br (g126 (GIns.mk 13 2 (y185_0_l_6 v).2 (GOperand.mk 7 0 (andI (y185_0_l_18 v).2 255)) (g89 8 (y185_0_l_6 v).1).2)) (.ok true (.leaf none)) (.ok true (.ok true (.leaf (some (V185_0.mk (y185_0_l_18 v).1 v.b1 (addI v.s3 1))))))))) (.ok ((k126 (GIns.mk 13 2 (y185_0_l_6 v).2 (GOperand.mk 7 0 (y185_0_l_18 v).2) (g89 8 (y185_0_l_6 v).1).2)) && true) (.br (g126 (GIns.mk 13 2 (y185_0_l_6 v).2 (GOperand.mk 7 0 (y185_0_l_18 v).2) (g89 8 (y185_0_l_6 v).1).2)) (.ok true (.leaf none)) (.ok true (.ok true (.leaf (some (V185_0.mk (y185_0_l_18 v).1 v.b1 (addI v.s3 1))))))))))) (.ok true (.br (eqI (addI 1 (g89 19 v.b0).2) 14) (.ok true (.ok true (.ok ((y185_0_l_5 v) && true) (.ok true (.br false (.ok true (.ok ((k126 (GIns.mk (addI 1 (g89 19 v.b0).2) 2 0 (y185_0_l_3 v) (y185_0_l_6 v).2)) && true) (.br (g126 (GIns.mk (addI 1 (g89 19 v.b0).2) 2 0 (y185_0_l_3 v) (y185_0_l_6 v).2)) (.ok true (.leaf none)) (.ok true (.ok true (.leaf (some (V185_0.mk (y185_0_l_6 v).1 v.b1 (addI v.s3 1))))))))) (.ok ((k126 (GIns.mk (addI 1 (g89 19 v.b0).2) 2 0 (g186 (y185_0_l_0 v).1).2 (y185_0_l_6 v).2)) && true) (.br (g126 (GIns.mk (addI 1 (g89 19 v.b0).2) 2 0 (g186 (y185_0_l_0 v).1).2 (y185_0_l_6 v).2)) (.ok true (.leaf none)) (.ok true (.ok true (.leaf (some (V185_0.mk (y185_0_l_6 v).1 v.b1 (addI v.s3 1))))))))))))) (.ok true (.br (eqI (addI 1 (g89 19 v.b0).2) 15) (.ok ((k90 [(rowI 0), (rowI 1), (rowI 2), (rowI 2), (rowI 3), (rowI 4), (rowI 5), (rowI 6)] (g186 (y185_0_l_0 v).1).1) && true) (.ok true (.br (gtI (y185_0_l_19 v).2 3) (.ok ((k89 4 (y185_0_l_19 v).1) && true) (.ok true (.br (eqI (y185_0_l_19 v).2 3) (.ok ((k90 [(rowI 0), (rowI 256), (rowI 512), (rowI 1023)] (y185_0_l_20 v).1) && true) (.ok true (.br false (.ok true (.ok ((k126 (GIns.mk 15 2 (y185_0_l_20 v).2 (GOperand.mk 7 0 (andI (y185_0_l_21 v).2 255)) (y185_0_l_19 v).2)) && true) (.br (g126 (GIns.mk 15 2 (y185_0_l_20 v).2 (GOperand.mk 7 0 (andI (y185_0_l_21 v).2 255)) (y185_0_l_19 v).2)) (.ok true (.leaf none)) (.ok true (.ok true (.leaf (some (V185_0.mk (y185_0_l_21 v).1 v.b1 (addI v.s3 1))))))))) (.ok ((k126 (GIns.mk 15 2 (y185_0_l_20 v).2 (GOperand.mk 7 0 (y185_0_l_21 v).2) (y185_0_l_19 v).2)) && true) (.br (g126 (GIns.mk 15 2 (y185_0_l_20 v).2 (GOperand.mk 7 0 (y185_0_l_21 v).2) (y185_0_l_19 v).2)) (.ok true (.leaf none)) (.ok true (.ok true (.leaf (some (V185_0.mk (y185_0_l_21 v).1 v.b1 (addI v.s3 1))))))))))) (.ok true (.br false (.ok true (.ok (y185_0_l_22 v) (.br (y185_0_l_23 v) (.ok true (.leaf none)) (.ok true (.ok true (.leaf (some (V185_0.mk (y185_0_l_20 v).1 v.b1 (addI v.s3 1))))))))) (.ok (y185_0_l_22 v) (.br (y185_0_l_23 v) (.ok true (.leaf none)) (.ok true (.ok true (.leaf (some (V185_0.mk (y185_0_l_20 v).1 v.b1 (addI v.s3 1))))))))))))) (.ok true (.br (eqI (y185_0_l_19 v).2 3) (.ok ((k90 [(rowI 0), (rowI 256), (rowI 512), (rowI 1023)] (y185_0_l_19 v).1) && true) (.ok true (.br false (.ok true (.ok ((k126 (GIns.mk 15 2 0 (GOperand.mk 7 0 (andI (y185_0_l_24 v).2 255)) (y185_0_l_19 v).2)) && true) (.br (g126 (GIns.mk 15 2 0 (GOperand.mk 7 0 (andI (y185_0_l_24 v).2 255)) (y185_0_l_19 v).2)) (.ok true (.leaf none)) (.ok true (.ok true (.leaf (some (V185_0.mk (y185_0_l_24 v).1 v.b1 (addI v.s3 1))))))))) (.ok ((k126 (GIns.mk 15 2 0 (GOperand.mk 7 0 (y185_0_l_24 v).2) (y185_0_l_19 v).2)) && true) (.br (g126 (GIns.mk 15 2 0 (GOperand.mk 7 0 (y185_0_l_24 v).2) (y185_0_l_19 v).2)) (.ok true (.leaf none)) (.ok true (.ok true (.leaf (some (V185_0.mk (y185_0_l_24 v).1 v.b1 (addI v.s3 1))))))))))) (.ok true (.br false (.ok true (.ok (y185_0_l_25 v) (.br (y185_0_l_26 v) (.ok true (.leaf none)) (.ok true (.ok true (.leaf (some (V185_0.mk (y185_0_l_19 v).1 v.b1 (addI v.s3 1))))))))) (.ok (y185_0_l_25 v) (.br (y185_0_l_26 v) (.ok true (.leaf none)) (.ok true (.ok true (.leaf (some (V185_0.mk (y185_0_l_19 v).1 v.b1 (addI v.s3 1))))))))))))))) (.ok true (.br (eqI (addI 1 (g89 19 v.b0).2) 19) (.ok ((k90 [(rowI 0), (rowI 256), (rowI 480), (rowI 768), (rowI 31)] (g186 (y185_0_l_0 v).1).1) && true) (.ok ((k86 2 (y185_0_l_27 v).1) && true) (.br (y185_0_l_28 v).2 (.ok ((k89 4 (y185_0_l_28 v).1) && true) (.ok true (.br false (.ok true (.ok (y185_0_l_30 v) (.br (y185_0_l_31 v) (.ok true (.leaf none)) (.ok true (.ok true (.leaf (some (V185_0.mk (y185_0_l_29 v).1 v.b1 (addI v.s3 1))))))))) (.ok (y185_0_l_30 v) (.br (y185_0_l_31 v) (.ok true (.leaf none)) (.ok true (.ok true (.leaf (some (V185_0.mk (y185_0_l_29 v).1 v.b1 (addI v.s3 1))))))))))) (.ok true (.br false (.ok true (.ok ((k126 (GIns.mk 19 2 0 (GOperand.mk 7 0 (andI (y185_0_l_27 v).2 255)) 0)) && true) (.br (g126 (GIns.mk 19 2 0 (GOperand.mk 7 0 (andI (y185_0_l_27 v).2 255)) 0)) (.ok true (.leaf none)) (.ok true (.ok true (.leaf (some (V185_0.mk (y185_0_l_28 v).1 v.b1 (addI v.s3 1))))))))) (.ok ((k126 (GIns.mk 19 2 0 (GOperand.mk 7 0 (y185_0_l_27 v).2) 0)) && true) (.br (g126 (GIns.mk 19 2 0 (GOperand.mk 7 0 (y185_0_l_27 v).2) 0)) (.ok true (.leaf none)) (.ok true (.ok true (.leaf (some (V185_0.mk (y185_0_l_28 v).1 v.b1 (addI v.s3 1))))))))))))) (.ok true (.ok true (.br (bif (eqI (addI 1 (g89 19 v.b0).2) 16) then (eqI (addI 1 (g89 19 v.b0).2) 16) else (bif (eqI (addI 1 (g89 19 v.b0).2) 17) then (eqI (addI 1 (g89 19 v.b0).2) 17) else (bif (eqI (addI 1 (g89 19 v.b0).2) 9) then (eqI (addI 1 (g89 19 v.b0).2) 9) else (eqI (addI 1 (g89 19 v.b0).2) 10)))) (.ok true (.ok true (.br false (.ok true (.ok ((k126 (GIns.mk (addI 1 (g89 19 v.b0).2) 2 (y185_0_l_0 v).2 (y185_0_l_3 v) 0)) && true) (.br (g126 (GIns.mk (addI 1 (g89 19 v.b0).2) 2 (y185_0_l_0 v).2 (y185_0_l_3 v) 0)) (.ok true (.leaf none)) (.ok true (.ok true (.leaf (some (y185_0_l_32 v)))))))) (.ok ((k126 (GIns.mk (addI 1 (g89 19 v.b0).2) 2 (y185_0_l_0 v).2 (g186 (y185_0_l_0 v).1).2 0)) && true) (.br (g126 (GIns.mk (addI 1 (g89 19 v.b0).2) 2 (y185_0_l_0 v).2 (g186 (y185_0_l_0 v).1).2 0)) (.ok true (.leaf none)) (.ok true (.ok true (.leaf (some (y185_0_l_32 v)))))))))) (.ok true (.br (y185_0_l_2 v) (.ok true (.ok ((k126 (GIns.mk (addI 1 (g89 19 v.b0).2) (addI 1 (g89 2 (g89 19 v.b0).1).2) (y185_0_l_0 v).2 (y185_0_l_3 v) 0)) && true) (.br (g126 (GIns.mk (addI 1 (g89 19 v.b0).2) (addI 1 (g89 2 (g89 19 v.b0).1).2) (y185_0_l_0 v).2 (y185_0_l_3 v) 0)) (.ok true (.leaf none)) (.ok true (.ok true (.leaf (some (y185_0_l_32 v)))))))) (.ok ((k126 (GIns.mk (addI 1 (g89 19 v.b0).2) (addI 1 (g89 2 (g89 19 v.b0).1).2) (y185_0_l_0 v).2 (g186 (y185_0_l_0 v).1).2 0)) && true) (.br (g126 (GIns.mk (addI 1 (g89 19 v.b0).2) (addI 1 (g89 2 (g89 19 v.b0).1).2) (y185_0_l_0 v).2 (g186 (y185_0_l_0 v).1).2 0)) (.ok true (.leaf none)) (.ok true (.ok true (.leaf (some (y185_0_l_32 v))))))))))))))))))))))))))) (.leaf none)))
def s185_0 (v : V185_0) : St := ⟨[(0, (.one (.ptr 0 0 0))), (2, (.one (.ptr 1 0 0))), (3, (.one (li v.s3)))], [.box [.imm true 1 v.b0.fcode, li v.b0.fat, .lit (.int .u64 v.b0.fseed)], .box [li v.b1.Op, li v.b1.Size, li v.b1.Reg, li v.b1.Ea.Mode, li v.b1.Ea.Reg, li v.b1.Ea.Ext, li v.b1.Sub]]⟩
def u185_0 : St → Option (V185_0 × Bool)
 | ⟨[(0, (.one (.ptr 0 0 0))), (2, (.one (.ptr 1 0 0))), (3, (.one (li c10)))], [.box [.imm true 1 c0, li c1, .lit (.int .u64 c2)], .box [li c3, li c4, li c5, li c6, li c7, li c8, li c9]]⟩ => some ((V185_0.mk (Gl1Cur.mk c0 c1 c2) (GIns.mk c3 c4 c5 (GOperand.mk c6 c7 c8) c9) c10), true)
 | _ => none
def ev185_0 : St → Option (Pt Out) := evp Q126 [(21, K0), (36, K0), (44, K0), (52, K0), (80, K0), (86, K0), (112, K0), (117, K0), (122, K0), (126, K5), (128, K5)] [] true [] 1 2097152 F185b0
theorem hN185_0 (v : V185_0) : ((ev185_0 (s185_0 v)).bind (stpT true false 1 [0, 2, 3])) = some ((N185_0 v).map (Option.map s185_0)) := by kernel_rfl
theorem hu185_0 (σ : St) (v : V185_0) (h : u185_0 σ = some (v, true)) : σ = s185_0 v := by
 unfold u185_0 at h
 split at h
 ·obtain ⟨hr, hk⟩ := qp (qi h)
  rw [← hr]
  rfl
 ·simp at h
theorem lt185_0 : TellsP (lqP true false 1 [0, 2, 3] ev185_0 u185_0 s185_0 N185_0 2097152) (evc R 1 2097152 (.loop [0, 2, 3] F185b0)) := lqP_tells (evp_tells Q126_ok (loops_of (l := []) (by kernel_rfl) trivial)) hu185_0 hN185_0
def lq185_0 : Lp   := (5, lqP true false 1 [0, 2, 3] ev185_0 u185_0 s185_0 N185_0 2097152) :: []
def w185_0 (v : V185_0) : V185_0 := (hid (loopV N185_0 2097152 v)).getD v
def i185_0 (v : V185_0) : Bool := (hid (loopV N185_0 2097152 v)).isSome
section
variable (a : Gl1Cur)
def y185_0 : V185_0 := (w185_0 (V185_0.mk a (GIns.mk 0 0 0 (GOperand.mk 0 0 0) 0) 0))
def y185_1 : Gl1Cur × Int := (g89 2 (g89 19 (y185_0 a).b0).1)
def y185_2 : Gl1Cur × GOperand := (g186 (g89 4 (y185_1 a).1).1)
def y185_3 : Bool := (bif (eqI (addI 1 (y185_1 a).2) 1) then (eqI (y185_2 a).2.Mode 7) else false)
def y185_4 : GOperand := { (y185_2 a).2 with Ext := (andI (y185_2 a).2.Ext 255) }
def y185_5 : Bool := (eqI (addI 1 (g89 19 (y185_0 a).b0).2) 12)
def y185_6 : Bool := (eqI (addI 1 (g89 19 (y185_0 a).b0).2) 18)
def y185_7 : Gl1Cur × Int := (g89 7 (g89 2 (y185_2 a).1).1)
def y185_8 : Int := (andI (mulI (g89 2 (y185_2 a).1).2 (addI 1 (mulI (y185_7 a).2 (g179 (y185_5 a) 1)))) 7)
def y185_9 : Gl1Cur × Int := (g89 8 (g89 2 (y185_2 a).1).1)
def y185_10 : Gl1Cur × Int := (g90 [(rowI 2), (rowI 4), (rowI 6), (rowI 8), (rowI 65526), (rowI 65530), (rowI 0), (rowI 3)] (y185_9 a).1)
def y185_11 : Gl1Cur × Int := (g90 [(rowI 0), (rowI 1), (rowI 2), (rowI 2), (rowI 3), (rowI 4), (rowI 5), (rowI 6)] (y185_2 a).1)
def y185_12 : Gl1Cur × Int := (g90 [(rowI 0), (rowI 256), (rowI 512), (rowI 1023)] (g89 4 (y185_11 a).1).1)
def y185_13 : Gl1Cur × Int := (g90 [(rowI 0), (rowI 256), (rowI 512), (rowI 1023)] (y185_11 a).1)
def y185_14 : Gl1Cur × Int := (g90 [(rowI 0), (rowI 256), (rowI 480), (rowI 768), (rowI 31)] (y185_2 a).1)
def y185_15 : Gl1Cur × Int := (g89 4 (g86 2 (y185_14 a).1).1)
def y185_16 : Bool := (eqI (addI 1 (g89 19 (y185_0 a).b0).2) 16)
def y185_17 : Bool := (eqI (addI 1 (g89 19 (y185_0 a).b0).2) 17)
def y185_18 : Bool := (eqI (addI 1 (g89 19 (y185_0 a).b0).2) 9)
end
def T185 (a : Gl1Cur) : Pt (Gl1Cur × GIns) := (.ok true (.ok true (.ok true (.ok true (.ok (i185_0 (V185_0.mk a (GIns.mk 0 0 0 (GOperand.mk 0 0 0) 0) 0)) (.br (ltI (y185_0 a).s3 6) (.br (eqI (addI 1 (g89 19 (y185_0 a).b0).2) 11) (.br (y185_3 a) (.ok true (.leaf ((g89 4 (y185_2 a).1).1, (GIns.mk (addI 1 (g89 19 (y185_0 a).b0).2) (addI 1 (y185_1 a).2) 0 (y185_4 a) (g89 4 (y185_2 a).1).2)))) (.ok true (.leaf ((g89 4 (y185_2 a).1).1, (GIns.mk (addI 1 (g89 19 (y185_0 a).b0).2) (addI 1 (y185_1 a).2) 0 (y185_2 a).2 (g89 4 (y185_2 a).1).2))))) (.br (bif (y185_5 a) then (y185_5 a) else (y185_6 a)) (.br (y185_6 a) (.br false (.ok true (.leaf ((g89 4 (y185_7 a).1).1, (GIns.mk (addI 1 (g89 19 (y185_0 a).b0).2) 1 (g89 4 (y185_1 a).1).2 (GOperand.mk 0 (g89 4 (y185_7 a).1).2 0) (y185_8 a))))) (.ok true (.leaf ((g89 4 (y185_7 a).1).1, (GIns.mk (addI 1 (g89 19 (y185_0 a).b0).2) 1 (g89 4 (y185_1 a).1).2 (GOperand.mk 0 (g89 4 (y185_7 a).1).2 0) (y185_8 a)))))) (.br (bif (eqI (addI 1 (y185_1 a).2) 1) then false else false) (.ok true (.leaf ((g89 4 (y185_7 a).1).1, (GIns.mk (addI 1 (g89 19 (y185_0 a).b0).2) (addI 1 (y185_1 a).2) (g89 4 (y185_1 a).1).2 (GOperand.mk 0 (g89 4 (y185_7 a).1).2 0) (y185_8 a))))) (.ok true (.leaf ((g89 4 (y185_7 a).1).1, (GIns.mk (addI 1 (g89 19 (y185_0 a).b0).2) (addI 1 (y185_1 a).2) (g89 4 (y185_1 a).1).2 (GOperand.mk 0 (g89 4 (y185_7 a).1).2 0) (y185_8 a))))))) (.br (eqI (addI 1 (g89 19 (y185_0 a).b0).2) 13) (.br false (.ok true (.leaf ((y185_10 a).1, (GIns.mk 13 2 (g89 2 (y185_2 a).1).2 (GOperand.mk 7 0 (andI (y185_10 a).2 255)) (y185_9 a).2)))) (.ok true (.leaf ((y185_10 a).1, (GIns.mk 13 2 (g89 2 (y185_2 a).1).2 (GOperand.mk 7 0 (y185_10 a).2) (y185_9 a).2))))) (.br (eqI (addI 1 (g89 19 (y185_0 a).b0).2) 14) (.br false (.ok true (.leaf ((g89 2 (y185_2 a).1).1, (GIns.mk (addI 1 (g89 19 (y185_0 a).b0).2) 2 0 (y185_4 a) (g89 2 (y185_2 a).1).2)))) (.ok true (.leaf ((g89 2 (y185_2 a).1).1, (GIns.mk (addI 1 (g89 19 (y185_0 a).b0).2) 2 0 (y185_2 a).2 (g89 2 (y185_2 a).1).2))))) (.br (eqI (addI 1 (g89 19 (y185_0 a).b0).2) 15) (.br (gtI (y185_11 a).2 3) (.br (eqI (y185_11 a).2 3) (.br false (.ok true (.leaf ((y185_12 a).1, (GIns.mk 15 2 (g89 4 (y185_11 a).1).2 (GOperand.mk 7 0 (andI (y185_12 a).2 255)) (y185_11 a).2)))) (.ok true (.leaf ((y185_12 a).1, (GIns.mk 15 2 (g89 4 (y185_11 a).1).2 (GOperand.mk 7 0 (y185_12 a).2) (y185_11 a).2))))) (.br false (.ok true (.leaf ((g89 4 (y185_11 a).1).1, (GIns.mk 15 2 (g89 4 (y185_11 a).1).2 (GOperand.mk 0 0 0) (y185_11 a).2)))) (.ok true (.leaf ((g89 4 (y185_11 a).1).1, (GIns.mk 15 2 (g89 4 (y185_11 a).1).2 (GOperand.mk 0 0 0) (y185_11 a).2)))))) (.br (eqI (y185_11 a).2 3) (.br false (.ok true (.leaf ((y185_13 a).1, (GIns.mk 15 2 0 (GOperand.mk 7 0 (andI (y185_13 a).2 255)) (y185_11 a).2)))) (.ok true (.leaf ((y185_13 a).1, (GIns.mk 15 2 0 (GOperand.mk 7 0 (y185_13 a).2) (y185_11 a).2))))) (.br false (.ok true (.leaf ((y185_11 a).1, (GIns.mk 15 2 0 (GOperand.mk 0 0 0) (y185_11 a).2)))) (.ok true (.leaf ((y185_11 a).1, (GIns.mk 15 2 0 (GOperand.mk 0 0 0) (y185_11 a).2))))))) (.br (eqI (addI 1 (g89 19 (y185_0 a).b0).2) 19) (.br (g86 2 (y185_14 a).1).2 (.br false (.ok true (.leaf ((y185_15 a).1, (GIns.mk 19 2 (y185_15 a).2 (GOperand.mk 0 0 0) 1)))) (.ok true (.leaf ((y185_15 a).1, (GIns.mk 19 2 (y185_15 a).2 (GOperand.mk 0 0 0) 1))))) (.br false (.ok true (.leaf ((g86 2 (y185_14 a).1).1, (GIns.mk 19 2 0 (GOperand.mk 7 0 (andI (y185_14 a).2 255)) 0)))) (.ok true (.leaf ((g86 2 (y185_14 a).1).1, (GIns.mk 19 2 0 (GOperand.mk 7 0 (y185_14 a).2) 0)))))) (.br (bif (y185_16 a) then (y185_16 a) else (bif (y185_17 a) then (y185_17 a) else (bif (y185_18 a) then (y185_18 a) else (eqI (addI 1 (g89 19 (y185_0 a).b0).2) 10)))) (.br false (.ok true (.leaf ((y185_2 a).1, (GIns.mk (addI 1 (g89 19 (y185_0 a).b0).2) 2 (g89 4 (y185_1 a).1).2 (y185_4 a) 0)))) (.ok true (.leaf ((y185_2 a).1, (GIns.mk (addI 1 (g89 19 (y185_0 a).b0).2) 2 (g89 4 (y185_1 a).1).2 (y185_2 a).2 0))))) (.br (y185_3 a) (.ok true (.leaf ((y185_2 a).1, (GIns.mk (addI 1 (g89 19 (y185_0 a).b0).2) (addI 1 (y185_1 a).2) (g89 4 (y185_1 a).1).2 (y185_4 a) 0)))) (.ok true (.leaf ((y185_2 a).1, (GIns.mk (addI 1 (g89 19 (y185_0 a).b0).2) (addI 1 (y185_1 a).2) (g89 4 (y185_1 a).1).2 (y185_2 a).2 0)))))))))))) (.ok true (.ok true (.leaf ((y185_0 a).b0, (GIns.mk 15 2 0 (GOperand.mk 0 0 0) 2)))))))))))
def g185 (a : Gl1Cur) : Gl1Cur × GIns := hid (T185 a).val
def k185 (a : Gl1Cur) : Bool := hid (T185 a).okv
def n185 (a : Gl1Cur) (r : Gl1Cur × GIns) : SV × List Blk := ((.agg [li r.2.Op, li r.2.Size, li r.2.Reg, li r.2.Ea.Mode, li r.2.Ea.Reg, li r.2.Ea.Ext, li r.2.Sub]), [.box [.imm true 1 r.1.fcode, li r.1.fat, .lit (.int .u64 r.1.fseed)]])
def q185 := DS0 (fun a => n185 a (g185 a)) k185
theorem hL185 : Loops (fun live x => TellsP (lpAt lq185_0 (tagC x)) (evc R 1 2097152 (.loop live x))) F185.body := (loops_of (l := [([0, 2, 3], F185b0)]) (by kernel_rfl) ⟨tellsAt (n := 5) (by kernel_rfl) fun σ σr t h ho hl => lt185_0 σ σr t h ho hl, trivial⟩)
theorem t185 : Con 185 q185 := DS0_t fun a hk => tcl at185 Q126_ok hL185 [(21, K0), (36, K0), (44, K0), (52, K0), (80, K0), (86, K0), (112, K0), (117, K0), (122, K0), (126, K5), (128, K5)] [] true (T185 a) (n185 a) hk
def Q185 := qcons 185 q185 Q126
theorem Q185_ok : QO Q185 := qcons_ok t185 Q126_ok
section
variable (a : Gl1Cur)
def y123_0 : Gl1Cur × Int := (g89 22 (g86 20 (g185 a).1).1)
def y123_1 : Gl1Cur × Int := (g89 5 (g89 4 (y123_0 a).1).1)
def y123_2 : Gl1Cur × Int := (g89 9 (g186 (y123_1 a).1).1)
end
def T123 (a : Gl1Cur) : Pt (Gl1Cur × GIns) := (.ok true (.ok ((k185 a) && true) (.ok ((k86 20 (g185 a).1) && true) (.br (g86 20 (g185 a).1).2 (.ok ((k89 22 (g86 20 (g185 a).1).1) && ((k89 4 (y123_0 a).1) && ((k89 5 (g89 4 (y123_0 a).1).1) && ((k186 (y123_1 a).1) && ((k89 9 (g186 (y123_1 a).1).1) && true))))) (.ok true (.ok true (.leaf ((y123_2 a).1, (GIns.mk (y123_0 a).2 (g89 4 (y123_0 a).1).2 (y123_1 a).2 (g186 (y123_1 a).1).2 (y123_2 a).2)))))) (.ok true (.ok true (.leaf ((g86 20 (g185 a).1).1, (g185 a).2))))))))
def g123 (a : Gl1Cur) : Gl1Cur × GIns := hid (T123 a).val
def k123 (a : Gl1Cur) : Bool := hid (T123 a).okv
def q123 := DS0 (fun a => n185 a (g123 a)) k123
theorem t123 : Con 123 q123 := DS0_t fun a hk => tc at123 Q185_ok [(19, K5)] [] true (T123 a) (n185 a) hk
def Q123 := qcons 123 q123 Q185
theorem Q123_ok : QO Q123 := qcons_ok t123 Q185_ok
structure V202_0 where
 mk ::
 (b0 : Gl1Cur)
 (s3 : List Row)
 (s4 : Int)
section
variable (v : V202_0)
def y202_0_l_0 : Nat := (ln (v.s3 ++ [(GIns.row (g185 v.b0).2)]))
def y202_0_l_1 : Bool := ((eqN (y202_0_l_0 v) (y202_0_l_0 v)) && true)
end
def N202_0 (v : V202_0) : Pt (Option V202_0) := (.ok true (.br (gtI v.s4 0) (.ok ((k185 v.b0) && (((eqN (ln v.s3) (ln v.s3)) && ((eqN (0 + (ln v.s3)) (ln v.s3)) && ((leN (mulN ((ln v.s3) + 1) 56) 140737488355328) && (leN ((ln v.s3) + 1) 140737488355328)))) && true)) (.ok true (.ok ((y202_0_l_1 v) && (y202_0_l_1 v)) (.leaf (some (V202_0.mk (g185 v.b0).1 (v.s3 ++ [(GIns.row (g185 v.b0).2)]) (subI v.s4 1))))))) (.leaf none)))
def s202_0 (v : V202_0) : St := ⟨[(0, (.one (.ptr 0 0 0))), (3, (.one (.sl 1 0 (ln v.s3)))), (4, (.one (li v.s4)))], [.box [.imm true 1 v.b0.fcode, li v.b0.fat, .lit (.int .u64 v.b0.fseed)], .lst 7 v.s3]⟩
def u202_0 : St → Option (V202_0 × Bool)
 | ⟨[(0, (.one (.ptr 0 0 0))), (3, (.one (.sl 1 0 l1))), (4, (.one (li c3)))], [.box [.imm true 1 c0, li c1, .lit (.int .u64 c2)], .lst 7 c_1]⟩ => some ((V202_0.mk (Gl1Cur.mk c0 c1 c2) c_1 c3), eqN l1 (ln c_1) && (true))
 | _ => none
def ev202_0 : St → Option (Pt Out) := evp Q123 [(31, K5), (1000000, [])] [] true [] 1 2097152 F202b0
theorem hN202_0 (v : V202_0) : ((ev202_0 (s202_0 v)).bind (stpT true false 1 [0, 3, 4])) = some ((N202_0 v).map (Option.map s202_0)) := by kernel_rfl
theorem hu202_0 (σ : St) (v : V202_0) (h : u202_0 σ = some (v, true)) : σ = s202_0 v := by
 unfold u202_0 at h
 split at h
 ·obtain ⟨hr, hk⟩ := qp (qi h)
  obtain ⟨d0, hk0⟩ := and_t hk
  obtain rfl := of_decide_eq_true d0
  rw [← hr]
  rfl
 ·simp at h
theorem lt202_0 : TellsP (lqP true false 1 [0, 3, 4] ev202_0 u202_0 s202_0 N202_0 2097152) (evc R 1 2097152 (.loop [0, 3, 4] F202b0)) := lqP_tells (evp_tells Q123_ok (loops_of (l := []) (by kernel_rfl) trivial)) hu202_0 hN202_0
def lq202_0 : Lp   := (12, lqP true false 1 [0, 3, 4] ev202_0 u202_0 s202_0 N202_0 2097152) :: []
def w202_0 (v : V202_0) : V202_0 := (hid (loopV N202_0 2097152 v)).getD v
def i202_0 (v : V202_0) : Bool := (hid (loopV N202_0 2097152 v)).isSome
section
variable (a : Gl1Cur)
def y202_0 : Gl1Cur × Int := (g89 2 (g86 20 (g89 8 a).1).1)
def y202_1 : V202_0 := (w202_0 (V202_0.mk (y202_0 a).1 [] (addI 40 (y202_0 a).2)))
def y202_2 : Gl1Cur := (Gl1Cur.mk (bif (gtI (lenI (y202_1 a).s3) 0) then (g86 20 (y202_1 a).b0).1.fcode else (y202_1 a).b0.fcode) (bif (gtI (lenI (y202_1 a).s3) 0) then (g86 20 (y202_1 a).b0).1.fat else (y202_1 a).b0.fat) (bif (gtI (lenI (y202_1 a).s3) 0) then (g86 20 (y202_1 a).b0).1.fseed else (y202_1 a).b0.fseed))
def y202_3 : List Row := (bif (gtI (lenI (y202_1 a).s3) 0) then (y202_1 a).s3 else (y202_1 a).s3)
def y202_4 : List Row := (List.set (y202_3 a) 0 (GIns.row (g123 (y202_2 a)).2))
def y202_5 : Bool := ((eqN (ln (y202_1 a).s3) (ln (y202_1 a).s3)) && true)
def y202_6 : List Row := (List.take (ln (y202_1 a).s3) (y202_4 a))
def y202_7 : List Row := (List.take (ln (y202_1 a).s3) (y202_3 a))
def y202_8 : V202_0 := (w202_0 (V202_0.mk (g86 20 (g89 8 a).1).1 [] (g89 8 a).2))
def y202_9 : Gl1Cur := (Gl1Cur.mk (bif (gtI (lenI (y202_8 a).s3) 0) then (g86 20 (y202_8 a).b0).1.fcode else (y202_8 a).b0.fcode) (bif (gtI (lenI (y202_8 a).s3) 0) then (g86 20 (y202_8 a).b0).1.fat else (y202_8 a).b0.fat) (bif (gtI (lenI (y202_8 a).s3) 0) then (g86 20 (y202_8 a).b0).1.fseed else (y202_8 a).b0.fseed))
def y202_10 : List Row := (bif (gtI (lenI (y202_8 a).s3) 0) then (y202_8 a).s3 else (y202_8 a).s3)
def y202_11 : List Row := (List.set (y202_10 a) 0 (GIns.row (g123 (y202_9 a)).2))
def y202_12 : Bool := ((eqN (ln (y202_8 a).s3) (ln (y202_8 a).s3)) && true)
def y202_13 : List Row := (List.take (ln (y202_8 a).s3) (y202_11 a))
def y202_14 : List Row := (List.take (ln (y202_8 a).s3) (y202_10 a))
end
def T202 (a : Gl1Cur) : Pt (Gl1Cur × List Row) := (.ok true (.ok true (.ok ((k89 8 a) && true) (.ok ((k86 20 (g89 8 a).1) && true) (.br (g86 20 (g89 8 a).1).2 (.ok ((k89 2 (g86 20 (g89 8 a).1).1) && true) (.ok true (.ok true (.ok (i202_0 (V202_0.mk (y202_0 a).1 [] (addI 40 (y202_0 a).2))) (.ok ((leN (0 + (ln (y202_1 a).s3)) (ln (y202_1 a).s3)) && ((((k86 20 (y202_1 a).b0) && true) || (!(gtI (lenI (y202_1 a).s3) 0))) && true)) (.br (bif (gtI (lenI (y202_1 a).s3) 0) then (g86 20 (y202_1 a).b0).2 else false) (.ok ((k123 (y202_2 a)) && ((ltI 0 (lenI (y202_1 a).s3)) && (((blt 0 (ln (y202_3 a))) && (beqN (rlen (y202_3 a) 0) 7)) && true))) (.ok true (.ok ((((leN (0 + (ln (y202_1 a).s3)) (ln (y202_4 a))) && true) && (y202_5 a)) && ((eqN (ln (y202_1 a).s3) (ln (y202_6 a))) && true)) (.leaf ((g123 (y202_2 a)).1, (y202_6 a)))))) (.ok true (.ok ((((leN (0 + (ln (y202_1 a).s3)) (ln (y202_3 a))) && true) && (y202_5 a)) && ((eqN (ln (y202_1 a).s3) (ln (y202_7 a))) && true)) (.leaf ((y202_2 a), (y202_7 a))))))))))) (.ok true (.ok true (.ok (i202_0 (V202_0.mk (g86 20 (g89 8 a).1).1 [] (g89 8 a).2)) (.ok ((leN (0 + (ln (y202_8 a).s3)) (ln (y202_8 a).s3)) && ((((k86 20 (y202_8 a).b0) && true) || (!(gtI (lenI (y202_8 a).s3) 0))) && true)) (.br (bif (gtI (lenI (y202_8 a).s3) 0) then (g86 20 (y202_8 a).b0).2 else false) (.ok ((k123 (y202_9 a)) && ((ltI 0 (lenI (y202_8 a).s3)) && (((blt 0 (ln (y202_10 a))) && (beqN (rlen (y202_10 a) 0) 7)) && true))) (.ok true (.ok ((((leN (0 + (ln (y202_8 a).s3)) (ln (y202_11 a))) && true) && (y202_12 a)) && ((eqN (ln (y202_8 a).s3) (ln (y202_13 a))) && true)) (.leaf ((g123 (y202_9 a)).1, (y202_13 a)))))) (.ok true (.ok ((((leN (0 + (ln (y202_8 a).s3)) (ln (y202_10 a))) && true) && (y202_12 a)) && ((eqN (ln (y202_8 a).s3) (ln (y202_14 a))) && true)) (.leaf ((y202_9 a), (y202_14 a)))))))))))))))
def g202 (a : Gl1Cur) : Gl1Cur × List Row := hid (T202 a).val
def k202 (a : Gl1Cur) : Bool := hid (T202 a).okv
def n202 (a : Gl1Cur) (r : Gl1Cur × List Row) : SV × List Blk := ((.one (.sl 1 0 (ln r.2))), [.box [.imm true 1 r.1.fcode, li r.1.fat, .lit (.int .u64 r.1.fseed)], .lst 7 r.2])
def q202 := DS0 (fun a => n202 a (g202 a)) k202
theorem hL202 : Loops (fun live x => TellsP (lpAt lq202_0 (tagC x)) (evc R 1 2097152 (.loop live x))) F202.body := (loops_of (l := [([0, 3, 4], F202b0)]) (by kernel_rfl) ⟨tellsAt (n := 12) (by kernel_rfl) fun σ σr t h ho hl => lt202_0 σ σr t h ho hl, trivial⟩)
theorem t202 : Con 202 q202 := DS0_t fun a hk => tcl at202 Q123_ok hL202 [(31, K5), (1000000, [])] [] true (T202 a) (n202 a) hk
def Q202 := qcons 202 q202 Q123
theorem Q202_ok : QO Q202 := qcons_ok t202 Q123_ok
def T196 (a : GIns) : Pt (List Row) := (.ok true (.ok true (.ok ((k240 a.Ea.Mode) && true) (.br (g240 a.Ea.Mode) (.ok true (.ok true (.ok true (.leaf [(rowI (orI (orI (orI (orI (orI (shlI a.Op 11) (shlI (subI a.Size 1) 10)) (shlI a.Reg 8)) (shlI a.Ea.Mode 5)) (shlI a.Ea.Reg 3)) a.Sub)), (rowI a.Ea.Ext)])))) (.ok true (.ok true (.leaf [(rowI (orI (orI (orI (orI (orI (shlI a.Op 11) (shlI (subI a.Size 1) 10)) (shlI a.Reg 8)) (shlI a.Ea.Mode 5)) (shlI a.Ea.Reg 3)) a.Sub))])))))))
def g196 (a : GIns) : List Row := hid (T196 a).val
def k196 (a : GIns) : Bool := hid (T196 a).okv
def n196 (a : GIns) (r : List Row) : SV × List Blk := ((.one (.sl 0 0 (ln r))), [.lst 1 r])
def q196 := DS7 (fun a => n196 a (g196 a)) k196
theorem t196 : Con 196 q196 := DS7_t fun a hk => tc at196 Q202_ok [(5, K0), (8, K0), (13, K0), (18, K0), (23, K0), (27, K0), (32, K0), (37, K0)] [] true (T196 a) (n196 a) hk
def Q196 := qcons 196 q196 Q202
theorem Q196_ok : QO Q196 := qcons_ok t196 Q202_ok
def AS8 (a : List Row) : List SV := [(.one (.imm false 7 a))]
def HS8 (a : List Row) : List Blk := []
def DS8 (N : List Row → SV × List Blk) (K : List Row → Bool) : List SV → List Blk → Option ((SV × List Blk) × Bool)
 | [(.one (.imm false 7 c0))], [] => some (N c0, K c0)
 | _, _ => none
theorem DS8_t {N : List Row → SV × List Blk} {K : List Row → Bool} {f : Nat} (h : ∀ (a : List Row), K a = true → frzR R f (AS8 a) (HS8 a) = some (N a)) : Con f (DS8 N K) := fun _ _ _ e => by
 unfold DS8 at e
 split at e
 ·exact dsf e (h _)
 ·cases e
structure V201_0 where
 mk ::
 (s0 : List Row)
 (s4 : List Row)
 (s7 : List Row)
 (s8 : Int)
 (s9 : Int)
section
variable (v : V201_0)
def y201_0_l_0 : List Row := (g196 (GIns.at v.s7 (Int.toNat v.s9) 0))
def y201_0_l_1 : Nat := ((ln v.s4) + (ln (y201_0_l_0 v)))
def y201_0_l_2 : Bool := ((eqN (ln (v.s4 ++ (y201_0_l_0 v))) (ln (v.s4 ++ (y201_0_l_0 v)))) && true)
end
def N201_0 (v : V201_0) : Pt (Option V201_0) := (.ok true (.br (ltI v.s9 v.s8) (.ok ((inRow [.int .i64, .int .i64, .int .i64, .int .i64, .int .i64, .int .i64, .int .i64] v.s7 v.s9) && true) (.ok ((k126 (GIns.at v.s7 (Int.toNat v.s9) 0)) && true) (.br (!(g126 (GIns.at v.s7 (Int.toNat v.s9) 0))) (.ok true (.leaf none)) (.ok ((k196 (GIns.at v.s7 (Int.toNat v.s9) 0)) && (((eqN (ln v.s4) (ln v.s4)) && ((eqN (ln (y201_0_l_0 v)) (ln (y201_0_l_0 v))) && ((eqN (0 + (ln v.s4)) (ln v.s4)) && ((leN (mulN (y201_0_l_1 v) 8) 140737488355328) && (leN (y201_0_l_1 v) 140737488355328))))) && true)) (.ok true (.ok ((y201_0_l_2 v) && (y201_0_l_2 v)) (.leaf (some { v with s4 := (v.s4 ++ (y201_0_l_0 v)), s9 := (addI v.s9 1) })))))))) (.leaf none)))
def s201_0 (v : V201_0) : St := ⟨[(0, (.one (.imm false 7 v.s0))), (4, (.one (.sl 0 0 (ln v.s4)))), (7, (.one (.imm false 7 v.s7))), (8, (.one (li v.s8))), (9, (.one (li v.s9)))], [.lst 1 v.s4]⟩
def u201_0 : St → Option (V201_0 × Bool)
 | ⟨[(0, (.one (.imm false 7 c0))), (4, (.one (.sl 0 0 l0))), (7, (.one (.imm false 7 c1))), (8, (.one (li c2))), (9, (.one (li c3)))], [.lst 1 c_0]⟩ => some ((V201_0.mk c0 c_0 c1 c2 c3), eqN l0 (ln c_0) && (true))
 | _ => none
def ev201_0 : St → Option (Pt Out) := evp Q196 [(11, K5), (12, K5), (13, K5), (17, K5)] [] true [] 0 2097152 F201b0
theorem hN201_0 (v : V201_0) : ((ev201_0 (s201_0 v)).bind (stpT true false 0 [0, 4, 7, 8, 9])) = some ((N201_0 v).map (Option.map s201_0)) := by kernel_rfl
theorem hu201_0 (σ : St) (v : V201_0) (h : u201_0 σ = some (v, true)) : σ = s201_0 v := by
 unfold u201_0 at h
 split at h
 ·obtain ⟨hr, hk⟩ := qp (qi h)
  obtain ⟨d0, hk0⟩ := and_t hk
  obtain rfl := of_decide_eq_true d0
  rw [← hr]
  rfl
 ·simp at h
theorem lt201_0 : TellsP (lqP true false 0 [0, 4, 7, 8, 9] ev201_0 u201_0 s201_0 N201_0 2097152) (evc R 0 2097152 (.loop [0, 4, 7, 8, 9] F201b0)) := lqP_tells (evp_tells Q196_ok (loops_of (l := []) (by kernel_rfl) trivial)) hu201_0 hN201_0
def lq201_0 : Lp   := (10, lqP true false 0 [0, 4, 7, 8, 9] ev201_0 u201_0 s201_0 N201_0 2097152) :: []
def w201_0 (v : V201_0) : V201_0 := (hid (loopV N201_0 2097152 v)).getD v
def i201_0 (v : V201_0) : Bool := (hid (loopV N201_0 2097152 v)).isSome
section
variable (a : List Row)
def y201_0 : V201_0 := (w201_0 (V201_0.mk a [] a (lenI a) 0))
def y201_1 : Bool := ((eqN (ln (y201_0 a).s4) (ln (y201_0 a).s4)) && true)
end
def T201 (a : List Row) : Pt (List Row × Bool) := (.ok true (.ok true (.ok true (.ok true (.ok true (.ok (i201_0 (V201_0.mk a [] a (lenI a) 0)) (.br (ltI (y201_0 a).s9 (y201_0 a).s8) (.ok true (.leaf ([], false))) (.ok true (.br (gtI (lenI (y201_0 a).s0) 40) (.ok true (.ok true (.leaf ([], false)))) (.ok true (.ok ((y201_1 a) && (y201_1 a)) (.leaf ((y201_0 a).s4, true)))))))))))))
def g201 (a : List Row) : List Row × Bool := hid (T201 a).val
def k201 (a : List Row) : Bool := hid (T201 a).okv
def n201 (a : List Row) (r : List Row × Bool) : SV × List Blk := ((.tup [(.one (.sl 0 0 (ln r.1))), (.one (.lit (.bool r.2)))]), [.lst 1 r.1])
def q201 := DS8 (fun a => n201 a (g201 a)) k201
theorem hL201 : Loops (fun live x => TellsP (lpAt lq201_0 (tagC x)) (evc R 0 2097152 (.loop live x))) F201.body := (loops_of (l := [([0, 4, 7, 8, 9], F201b0)]) (by kernel_rfl) ⟨tellsAt (n := 10) (by kernel_rfl) fun σ σr t h ho hl => lt201_0 σ σr t h ho hl, trivial⟩)
theorem t201 : Con 201 q201 := DS8_t fun a hk => tcl at201 Q196_ok hL201 [(11, K5), (12, K5), (13, K5), (17, K5)] [] true (T201 a) (n201 a) hk
def Q201 := qcons 201 q201 Q196
theorem Q201_ok : QO Q201 := qcons_ok t201 Q196_ok
structure V149_0 where
 mk ::
 (b0 : Gl1Cur)
 (s4 : Int)
 (s5 : List Row)
 (s16 : Int)
 (s17 : Int)
section
variable (v : V149_0)
def y149_0_l_0 : List Row := (List.set v.s5 (0 + (Int.toNat v.s17)) (rowI (g89 256 (g86 8 v.b0).1).2))
def y149_0_l_1 : Bool := ((eqN (ln v.s5) (ln (y149_0_l_0 v))) && true)
def y149_0_l_2 : Bool := ((eqN (ln v.s5) (ln v.s5)) && true)
end
def N149_0 (v : V149_0) : Pt (Option V149_0) := (.ok true (.br (ltI v.s17 v.s16) (.ok true (.ok ((k86 8 v.b0) && true) (.br (g86 8 v.b0).2 (.ok ((k89 256 (g86 8 v.b0).1) && (((leI 0 v.s17) && (ltI v.s17 (lenI v.s5))) && (((blt (0 + (Int.toNat v.s17)) (ln v.s5)) && (beqN (rlen v.s5 (0 + (Int.toNat v.s17))) 1)) && true))) (.ok true (.ok (((y149_0_l_1 v) && (y149_0_l_2 v)) && ((y149_0_l_1 v) && true)) (.leaf (some (V149_0.mk (g89 256 (g86 8 v.b0).1).1 v.s4 (y149_0_l_0 v) v.s16 (addI v.s17 1))))))) (.ok true (.ok (((y149_0_l_2 v) && (y149_0_l_2 v)) && ((y149_0_l_2 v) && true)) (.leaf (some { v with b0 := (g86 8 v.b0).1, s17 := (addI v.s17 1) }))))))) (.leaf none)))
def s149_0 (v : V149_0) : St := ⟨[(0, (.one (.ptr 0 0 0))), (4, (.one (li v.s4))), (5, (.one (.sl 1 0 (ln v.s5)))), (16, (.one (li v.s16))), (17, (.one (li v.s17)))], [.box [.imm true 1 v.b0.fcode, li v.b0.fat, .lit (.int .u64 v.b0.fseed)], .lst 1 v.s5]⟩
def u149_0 : St → Option (V149_0 × Bool)
 | ⟨[(0, (.one (.ptr 0 0 0))), (4, (.one (li c3))), (5, (.one (.sl 1 0 l1))), (16, (.one (li c4))), (17, (.one (li c5)))], [.box [.imm true 1 c0, li c1, .lit (.int .u64 c2)], .lst 1 c_1]⟩ => some ((V149_0.mk (Gl1Cur.mk c0 c1 c2) c3 c_1 c4 c5), eqN l1 (ln c_1) && (true))
 | _ => none
def ev149_0 : St → Option (Pt Out) := evp Q86 [(26, K0), (39, K0), (40, K0), (56, K0), (65, K0), (1000003, [])] [] true [] 1 2097152 F149b0
theorem hN149_0 (v : V149_0) : ((ev149_0 (s149_0 v)).bind (stpT true true 1 [0, 4, 5, 16, 17])) = some ((N149_0 v).map (Option.map s149_0)) := by kernel_rfl
theorem hu149_0 (σ : St) (v : V149_0) (h : u149_0 σ = some (v, true)) : σ = s149_0 v := by
 unfold u149_0 at h
 split at h
 ·obtain ⟨hr, hk⟩ := qp (qi h)
  obtain ⟨d0, hk0⟩ := and_t hk
  obtain rfl := of_decide_eq_true d0
  rw [← hr]
  rfl
 ·simp at h
theorem lt149_0 : TellsP (lqP true true 1 [0, 4, 5, 16, 17] ev149_0 u149_0 s149_0 N149_0 2097152) (evc R 1 2097152 (.loop [0, 4, 5, 16, 17] F149b0)) := lqP_tells (evp_tells Q86_ok (loops_of (l := []) (by kernel_rfl) trivial)) hu149_0 hN149_0
def lq149_0 : Lp   := (18, lqP true true 1 [0, 4, 5, 16, 17] ev149_0 u149_0 s149_0 N149_0 2097152) :: []
def w149_0 (v : V149_0) : V149_0 := (hid (loopV N149_0 2097152 v)).getD v
def i149_0 (v : V149_0) : Bool := (hid (loopV N149_0 2097152 v)).isSome
structure V149_1 where
 mk ::
 (b0 : Gl1Cur)
 (s4 : Int)
 (s5 : List Row)
 (s34 : List Row)
 (s35 : Int)
 (s36 : Int)
section
variable (v : V149_1)
def y149_1_l_0 : Bool := (ltI (addI (addI v.s4 (mulI 2 v.s36)) 1) (lenI v.s5))
def y149_1_l_1 : Nat := (0 + (Int.toNat (addI v.s4 (mulI 2 v.s36))))
def y149_1_l_2 : Nat := (0 + (Int.toNat (addI (addI v.s4 (mulI 2 v.s36)) 1)))
def y149_1_l_3 : List Row := (List.set v.s5 (y149_1_l_1 v) (rowI (shrI (intAt v.s34 (0 + (Int.toNat v.s36)) 0) 8)))
def y149_1_l_4 : List Row := (List.set (y149_1_l_3 v) (y149_1_l_2 v) (rowI (andI (intAt v.s34 (0 + (Int.toNat v.s36)) 0) 255)))
def y149_1_l_5 : Bool := ((eqN (ln v.s34) (ln v.s34)) && true)
def y149_1_l_6 : Bool := ((eqN (ln v.s5) (ln (y149_1_l_4 v))) && (y149_1_l_5 v))
def y149_1_l_7 : Bool := ((eqN (ln v.s5) (ln v.s5)) && (y149_1_l_5 v))
end
def N149_1 (v : V149_1) : Pt (Option V149_1) := (.ok true (.br (ltI v.s36 v.s35) (.ok (((leI 0 v.s36) && (ltI v.s36 (lenI v.s34))) && ((hasRow [.int .i64] v.s34 (0 + (Int.toNat v.s36)) 0) && true)) (.ok ((leN (0 + (ln v.s5)) (ln v.s5)) && true) (.br (y149_1_l_0 v) (.ok (((leI 0 (addI v.s4 (mulI 2 v.s36))) && (ltI (addI v.s4 (mulI 2 v.s36)) (lenI v.s5))) && (((blt (y149_1_l_1 v) (ln v.s5)) && (beqN (rlen v.s5 (y149_1_l_1 v)) 1)) && true)) (.ok (((leI 0 (addI (addI v.s4 (mulI 2 v.s36)) 1)) && (y149_1_l_0 v)) && (((blt (y149_1_l_2 v) (ln (y149_1_l_3 v))) && (beqN (rlen (y149_1_l_3 v) (y149_1_l_2 v)) 1)) && true)) (.ok true (.ok (((y149_1_l_6 v) && (y149_1_l_7 v)) && ((y149_1_l_6 v) && true)) (.leaf (some { v with s5 := (y149_1_l_4 v), s36 := (addI v.s36 1) })))))) (.ok true (.ok (((y149_1_l_7 v) && (y149_1_l_7 v)) && ((y149_1_l_7 v) && true)) (.leaf (some { v with s36 := (addI v.s36 1) }))))))) (.leaf none)))
def s149_1 (v : V149_1) : St := ⟨[(4, (.one (li v.s4))), (5, (.one (.sl 1 0 (ln v.s5)))), (34, (.one (.sl 2 0 (ln v.s34)))), (35, (.one (li v.s35))), (36, (.one (li v.s36)))], [.box [.imm true 1 v.b0.fcode, li v.b0.fat, .lit (.int .u64 v.b0.fseed)], .lst 1 v.s5, .lst 1 v.s34]⟩
def u149_1 : St → Option (V149_1 × Bool)
 | ⟨[(4, (.one (li c3))), (5, (.one (.sl 1 0 l1))), (34, (.one (.sl 2 0 l2))), (35, (.one (li c4))), (36, (.one (li c5)))], [.box [.imm true 1 c0, li c1, .lit (.int .u64 c2)], .lst 1 c_1, .lst 1 c_2]⟩ => some ((V149_1.mk (Gl1Cur.mk c0 c1 c2) c3 c_1 c_2 c4 c5), eqN l1 (ln c_1) && (eqN l2 (ln c_2) && (true)))
 | _ => none
def ev149_1 : St → Option (Pt Out) := evp Q201 [(26, K0), (39, K0), (40, K0), (56, K0), (65, K0), (1000003, [])] [] true lq149_0 1 2097152 F149b1
theorem hN149_1 (v : V149_1) : ((ev149_1 (s149_1 v)).bind (stpT true true 1 [4, 5, 34, 35, 36])) = some ((N149_1 v).map (Option.map s149_1)) := by kernel_rfl
theorem hu149_1 (σ : St) (v : V149_1) (h : u149_1 σ = some (v, true)) : σ = s149_1 v := by
 unfold u149_1 at h
 split at h
 ·obtain ⟨hr, hk⟩ := qp (qi h)
  obtain ⟨d0, hk0⟩ := and_t hk
  obtain ⟨d1, hk1⟩ := and_t hk0
  obtain rfl := of_decide_eq_true d0
  obtain rfl := of_decide_eq_true d1
  rw [← hr]
  rfl
 ·simp at h
theorem lt149_1 : TellsP (lqP true true 1 [4, 5, 34, 35, 36] ev149_1 u149_1 s149_1 N149_1 2097152) (evc R 1 2097152 (.loop [4, 5, 34, 35, 36] F149b1)) := lqP_tells (evp_tells Q201_ok (loops_of (l := []) (by kernel_rfl) trivial)) hu149_1 hN149_1
def lq149_1 : Lp   := (37, lqP true true 1 [4, 5, 34, 35, 36] ev149_1 u149_1 s149_1 N149_1 2097152) :: lq149_0
def w149_1 (v : V149_1) : V149_1 := (hid (loopV N149_1 2097152 v)).getD v
def i149_1 (v : V149_1) : Bool := (hid (loopV N149_1 2097152 v)).isSome
section
variable (a : Gl1Cur)
def y149_0 : V149_0 := (w149_0 (V149_0.mk (g89 30 a).1 (mulI 2 (g89 30 a).2) (List.replicate 384 (rowI 0)) 384 0))
def y149_1 : Nat := (ln (g201 (g202 (y149_0 a).b0).2).1)
def y149_2 : Bool := ((eqN (ln (y149_0 a).s5) (ln (y149_0 a).s5)) && ((eqN (y149_1 a) (y149_1 a)) && true))
def y149_3 : V149_1 := (w149_1 (V149_1.mk (g202 (y149_0 a).b0).1 (y149_0 a).s4 (y149_0 a).s5 (g201 (g202 (y149_0 a).b0).2).1 (lenI (g201 (g202 (y149_0 a).b0).2).1) 0))
def y149_4 : Bool := ((eqN (ln (y149_3 a).s5) (ln (y149_3 a).s5)) && true)
end
def T149 (a : Gl1Cur) : Pt (Gl1Cur × List Row × Int) := (.ok true (.ok ((k89 30 a) && true) (.ok true (.ok true (.ok true (.ok true (.ok (i149_0 (V149_0.mk (g89 30 a).1 (mulI 2 (g89 30 a).2) (List.replicate 384 (rowI 0)) 384 0)) (.ok ((k202 (y149_0 a).b0) && ((((eqN (ln (g202 (y149_0 a).b0).2) (ln (g202 (y149_0 a).b0).2)) && true) && (k201 (g202 (y149_0 a).b0).2)) && true)) (.ok ((leN (0 + (y149_1 a)) (y149_1 a)) && true) (.ok (((y149_2 a) && (y149_2 a)) && ((y149_2 a) && true)) (.ok (y149_2 a) (.ok (i149_1 (V149_1.mk (g202 (y149_0 a).b0).1 (y149_0 a).s4 (y149_0 a).s5 (g201 (g202 (y149_0 a).b0).2).1 (lenI (g201 (g202 (y149_0 a).b0).2).1) 0)) (.ok true (.ok ((y149_4 a) && (y149_4 a)) (.leaf ((y149_3 a).b0, (y149_3 a).s5, (y149_3 a).s4))))))))))))))))
def g149 (a : Gl1Cur) : Gl1Cur × List Row × Int := hid (T149 a).val
def k149 (a : Gl1Cur) : Bool := hid (T149 a).okv
def n149 (a : Gl1Cur) (r : Gl1Cur × List Row × Int) : SV × List Blk := ((.tup [(.one (.sl 1 0 (ln r.2.1))), (.one (li r.2.2))]), [.box [.imm true 1 r.1.fcode, li r.1.fat, .lit (.int .u64 r.1.fseed)], .lst 1 r.2.1])
def q149 := DS0 (fun a => n149 a (g149 a)) k149
theorem hL149 : Loops (fun live x => TellsP (lpAt lq149_1 (tagC x)) (evc R 1 2097152 (.loop live x))) F149.body := (loops_of (l := [([0, 4, 5, 16, 17], F149b0), ([4, 5, 34, 35, 36], F149b1)]) (by kernel_rfl) ⟨tellsAt (n := 18) (by kernel_rfl) fun σ σr t h ho hl => lt149_0 σ σr t h ho hl, tellsAt (n := 37) (by kernel_rfl) fun σ σr t h ho hl => lt149_1 σ σr t h ho hl, trivial⟩)
theorem t149 : Con 149 q149 := DS0_t fun a hk => tcl at149 Q201_ok hL149 [(26, K0), (39, K0), (40, K0), (56, K0), (65, K0), (1000003, [])] [] true (T149 a) (n149 a) hk
def Q149 := qcons 149 q149 Q201
theorem Q149_ok : QO Q149 := qcons_ok t149 Q201_ok
def AS9 : List SV := []
def HS9 : List Blk := []
def DS9 (N : SV × List Blk) (K : Bool) : List SV → List Blk → Option ((SV × List Blk) × Bool)
 | [], [] => some (N, K)
 | _, _ => none
theorem DS9_t {N : SV × List Blk} {K : Bool} {f : Nat} (h : K = true → frzR R f AS9 HS9 = some N) : Con f (DS9 N K) := fun args hp r e => by
 unfold DS9 at e
 split at e
 ·obtain ⟨hr, hk⟩ := qp (qi e)
  rw [← hr]
  exact h hk
 ·simp at e
def T94 : Pt (GRegs) := (.ok true (.ok true (.ok true (.leaf (GRegs.mk [(rowI 0), (rowI 0), (rowI 0), (rowI 0)] [(rowI 0), (rowI 0), (rowI 0), (rowI 0)] 0 0 0 7 true false)))))
def g94 : GRegs := hid (T94).val
def k94 : Bool := hid (T94).okv
def n94 (r : GRegs) : SV × List Blk := ((.agg [.sl 0 0 (ln r.D), .sl 1 0 (ln r.A), li r.Other, li r.PC, li r.Flags, li r.Mask, .lit (.bool r.Super), .lit (.bool r.Trace)]), [.lst 1 r.D, .lst 1 r.A])
def q94 := DS9 (n94 (g94)) k94
theorem t94 : Con 94 q94 := DS9_t fun hk => tc at94 Q149_ok [] [] true T94 n94 hk
def Q94 := qcons 94 q94 Q149
theorem Q94_ok : QO Q94 := qcons_ok t94 Q149_ok
def K6 : List Kd := [.imm 1, .imm 1, .int .i64, .int .i64, .int .i64, .int .i64, .bool, .bool]
structure V150_0 where
 mk ::
 (b0 : Gl1Cur)
 (b1 : GRegs)
 (b2 : GRegs)
 (s4 : Int)
section
variable (v : V150_0)
def y150_0_l_0 : Bool := (((k90 [(rowI 0), (rowI 1), (rowI 2), (rowI 5), (rowI 128), (rowI 255), (rowI 32768), (rowI 65535)] v.b0) && (((leI 0 v.s4) && (ltI v.s4 (lenI v.b2.D))) && (((blt (0 + (Int.toNat v.s4)) (ln v.b2.D)) && (beqN (rlen v.b2.D (0 + (Int.toNat v.s4))) 1)) && true))) && true)
def y150_0_l_1 : Gl1Cur × Int := (g90 [(rowI 0), (rowI 1), (rowI 2), (rowI 5), (rowI 128), (rowI 255), (rowI 32768), (rowI 65535)] v.b0)
def y150_0_l_2 : Bool := ((same (α := Nat) (ln v.b1.D) (ln v.b1.D)) && ((same (α := Nat) (ln v.b1.A) (ln v.b1.A)) && ((same (α := Int) v.b1.Other v.b1.Other) && ((same (α := Int) v.b1.PC v.b1.PC) && ((same (α := Int) v.b1.Flags v.b1.Flags) && ((same (α := Int) v.b1.Mask v.b1.Mask) && ((same (α := Bool) v.b1.Super v.b1.Super) && ((same (α := Bool) v.b1.Trace v.b1.Trace) && true))))))))
def y150_0_l_3 : Bool := ((same (α := Nat) (ln v.b2.D) (ln v.b2.D)) && ((same (α := Nat) (ln v.b2.A) (ln v.b2.A)) && ((same (α := Int) v.b2.Other v.b2.Other) && ((same (α := Int) v.b2.PC v.b2.PC) && ((same (α := Int) v.b2.Flags v.b2.Flags) && ((same (α := Int) v.b2.Mask v.b2.Mask) && ((same (α := Bool) v.b2.Super v.b2.Super) && ((same (α := Bool) v.b2.Trace v.b2.Trace) && true))))))))
def y150_0_l_4 : List Row := (List.set v.b2.D (0 + (Int.toNat v.s4)) (rowI (y150_0_l_1 v).2))
def y150_0_l_5 : Bool := (sameR [(rowI 0), (rowI 1), (rowI 2), (rowI 5), (rowI 128), (rowI 255), (rowI 32768), (rowI 65535)] [(rowI 0), (rowI 1), (rowI 2), (rowI 5), (rowI 128), (rowI 255), (rowI 32768), (rowI 65535)])
def y150_0_l_6 : Bool := ((((same (α := Bool) true true) && (sameR (y150_0_l_1 v).1.fcode (y150_0_l_1 v).1.fcode)) && ((same (α := Int) (y150_0_l_1 v).1.fat (y150_0_l_1 v).1.fat) && ((same (α := Int) (y150_0_l_1 v).1.fseed (y150_0_l_1 v).1.fseed) && true))) && ((y150_0_l_2 v) && ((y150_0_l_3 v) && ((sameR v.b1.D v.b1.D) && ((sameR v.b1.A v.b1.A) && ((sameR (y150_0_l_4 v) (y150_0_l_4 v)) && ((sameR v.b2.A v.b2.A) && (y150_0_l_5 && true))))))))
def y150_0_l_7 : Bool := (((same (α := Int) v.s4 v.s4) && true) && (y150_0_l_6 v))
def y150_0_l_8 : Bool := (((k90 [(rowI 0), (rowI 2), (rowI 20), (rowI 40), (rowI 100), (rowI 300), (rowI 301), (rowI 384), (rowI 448), (rowI 500), (rowI 65534)] (y150_0_l_1 v).1) && (((leI 0 v.s4) && (ltI v.s4 (lenI v.b2.A))) && (((blt (0 + (Int.toNat v.s4)) (ln v.b2.A)) && (beqN (rlen v.b2.A (0 + (Int.toNat v.s4))) 1)) && true))) && true)
def y150_0_l_9 : Gl1Cur × Int := (g90 [(rowI 0), (rowI 2), (rowI 20), (rowI 40), (rowI 100), (rowI 300), (rowI 301), (rowI 384), (rowI 448), (rowI 500), (rowI 65534)] (y150_0_l_1 v).1)
def y150_0_l_10 : List Row := (List.set v.b2.A (0 + (Int.toNat v.s4)) (rowI (y150_0_l_9 v).2))
def y150_0_l_11 : Bool := ((sameR v.b1.A v.b1.A) && ((sameR (y150_0_l_4 v) (y150_0_l_4 v)) && ((sameR (y150_0_l_10 v) (y150_0_l_10 v)) && (y150_0_l_5 && ((sameR [(rowI 0), (rowI 2), (rowI 20), (rowI 40), (rowI 100), (rowI 300), (rowI 301), (rowI 384), (rowI 448), (rowI 500), (rowI 65534)] [(rowI 0), (rowI 2), (rowI 20), (rowI 40), (rowI 100), (rowI 300), (rowI 301), (rowI 384), (rowI 448), (rowI 500), (rowI 65534)]) && true)))))
def y150_0_l_12 : Bool := (((same (α := Int) v.s4 v.s4) && true) && ((((same (α := Bool) true true) && (sameR (y150_0_l_9 v).1.fcode (y150_0_l_9 v).1.fcode)) && ((same (α := Int) (y150_0_l_9 v).1.fat (y150_0_l_9 v).1.fat) && ((same (α := Int) (y150_0_l_9 v).1.fseed (y150_0_l_9 v).1.fseed) && true))) && ((y150_0_l_2 v) && ((y150_0_l_3 v) && ((sameR v.b1.D v.b1.D) && (y150_0_l_11 v))))))
def y150_0_l_13 : Bool := (eqN (ln v.b1.D) (ln v.b1.D))
def y150_0_l_14 : Bool := (eqN (ln v.b1.A) (ln v.b1.A))
def y150_0_l_15 : Bool := ((y150_0_l_13 v) && ((y150_0_l_14 v) && true))
def y150_0_l_16 : Bool := ((eqN (ln v.b2.D) (ln (y150_0_l_4 v))) && ((eqN (ln v.b2.A) (ln (y150_0_l_10 v))) && true))
end
def N150_0 (v : V150_0) : Pt (Option V150_0) := (.ok true (.br (ltI v.s4 4) (.ok ((y150_0_l_0 v) && (((y150_0_l_0 v) && ((y150_0_l_0 v) && (y150_0_l_7 v))) && (y150_0_l_7 v))) (.ok ((y150_0_l_8 v) && (((y150_0_l_8 v) && ((y150_0_l_8 v) && (y150_0_l_12 v))) && (y150_0_l_12 v))) (.ok true (.ok ((((y150_0_l_15 v) && (((eqN (ln v.b2.D) (ln v.b2.D)) && ((eqN (ln v.b2.A) (ln v.b2.A)) && true)) && ((y150_0_l_13 v) && ((y150_0_l_14 v) && (y150_0_l_16 v))))) && true) && ((y150_0_l_15 v) && ((y150_0_l_16 v) && true))) (.leaf (some (V150_0.mk (y150_0_l_9 v).1 v.b1 { v.b2 with D := (y150_0_l_4 v), A := (y150_0_l_10 v) } (addI v.s4 1)))))))) (.leaf none)))
def s150_0 (v : V150_0) : St := ⟨[(0, (.one (.ptr 0 0 0))), (2, (.one (.ptr 1 0 0))), (3, (.one (.ptr 2 0 0))), (4, (.one (li v.s4)))], [.box [.imm true 1 v.b0.fcode, li v.b0.fat, .lit (.int .u64 v.b0.fseed)], .box [.sl 3 0 (ln v.b1.D), .sl 4 0 (ln v.b1.A), li v.b1.Other, li v.b1.PC, li v.b1.Flags, li v.b1.Mask, .lit (.bool v.b1.Super), .lit (.bool v.b1.Trace)], .box [.sl 5 0 (ln v.b2.D), .sl 6 0 (ln v.b2.A), li v.b2.Other, li v.b2.PC, li v.b2.Flags, li v.b2.Mask, .lit (.bool v.b2.Super), .lit (.bool v.b2.Trace)], .lst 1 v.b1.D, .lst 1 v.b1.A, .lst 1 v.b2.D, .lst 1 v.b2.A]⟩
def u150_0 : St → Option (V150_0 × Bool)
 | ⟨[(0, (.one (.ptr 0 0 0))), (2, (.one (.ptr 1 0 0))), (3, (.one (.ptr 2 0 0))), (4, (.one (li c15)))], [.box [.imm true 1 c0, li c1, .lit (.int .u64 c2)], .box [.sl 3 0 l3, .sl 4 0 l4, li c3, li c4, li c5, li c6, .lit (.bool c7), .lit (.bool c8)], .box [.sl 5 0 l5, .sl 6 0 l6, li c9, li c10, li c11, li c12, .lit (.bool c13), .lit (.bool c14)], .lst 1 c_3, .lst 1 c_4, .lst 1 c_5, .lst 1 c_6]⟩ => some ((V150_0.mk (Gl1Cur.mk c0 c1 c2) (GRegs.mk c_3 c_4 c3 c4 c5 c6 c7 c8) (GRegs.mk c_5 c_6 c9 c10 c11 c12 c13 c14) c15), eqN l3 (ln c_3) && (eqN l4 (ln c_4) && (eqN l5 (ln c_5) && (eqN l6 (ln c_6) && (true)))))
 | _ => none
def ev150_0 : St → Option (Pt Out) := evp Q94 [(11, K1), (16, K0), (18, K1), (23, K0), (25, K1), (29, K0), (56, K1), (57, K0), (61, K6), (1000001, []), (1000003, [])] [] true [] 1 2097152 F150b0
theorem hN150_0 (v : V150_0) : ((ev150_0 (s150_0 v)).bind (stpT true true 1 [0, 2, 3, 4])) = some ((N150_0 v).map (Option.map s150_0)) := by kernel_rfl
theorem hu150_0 (σ : St) (v : V150_0) (h : u150_0 σ = some (v, true)) : σ = s150_0 v := by
 unfold u150_0 at h
 split at h
 ·obtain ⟨hr, hk⟩ := qp (qi h)
  obtain ⟨d0, hk0⟩ := and_t hk
  obtain ⟨d1, hk1⟩ := and_t hk0
  obtain ⟨d2, hk2⟩ := and_t hk1
  obtain ⟨d3, hk3⟩ := and_t hk2
  obtain rfl := of_decide_eq_true d0
  obtain rfl := of_decide_eq_true d1
  obtain rfl := of_decide_eq_true d2
  obtain rfl := of_decide_eq_true d3
  rw [← hr]
  rfl
 ·simp at h
theorem lt150_0 : TellsP (lqP true true 1 [0, 2, 3, 4] ev150_0 u150_0 s150_0 N150_0 2097152) (evc R 1 2097152 (.loop [0, 2, 3, 4] F150b0)) := lqP_tells (evp_tells Q94_ok (loops_of (l := []) (by kernel_rfl) trivial)) hu150_0 hN150_0
def lq150_0 : Lp   := (6, lqP true true 1 [0, 2, 3, 4] ev150_0 u150_0 s150_0 N150_0 2097152) :: []
def w150_0 (v : V150_0) : V150_0 := (hid (loopV N150_0 2097152 v)).getD v
def i150_0 (v : V150_0) : Bool := (hid (loopV N150_0 2097152 v)).isSome
section
variable (a : Gl1Cur)
def y150_0 : Bool := ((eqN (ln (g94).D) (ln (g94).D)) && ((eqN (ln (g94).A) (ln (g94).A)) && true))
def y150_1 : V150_0 := (w150_0 (V150_0.mk a (GRegs.mk [] [] 0 0 0 0 false false) (g94) 0))
def y150_2 : Bool := (((k90 [(rowI 200), (rowI 202), (rowI 380), (rowI 65534), (rowI 0), (rowI 301)] (y150_1 a).b0) && ((ltI 3 (lenI (y150_1 a).b2.A)) && (((blt 3 (ln (y150_1 a).b2.A)) && (beqN (rlen (y150_1 a).b2.A 3) 1)) && true))) && true)
def y150_3 : Gl1Cur × Int := (g90 [(rowI 200), (rowI 202), (rowI 380), (rowI 65534), (rowI 0), (rowI 301)] (y150_1 a).b0)
def y150_4 : Bool := ((same (α := Nat) (ln (y150_1 a).b1.A) (ln (y150_1 a).b1.A)) && ((same (α := Int) (y150_1 a).b1.Other (y150_1 a).b1.Other) && ((same (α := Int) (y150_1 a).b1.PC (y150_1 a).b1.PC) && ((same (α := Int) (y150_1 a).b1.Flags (y150_1 a).b1.Flags) && ((same (α := Int) (y150_1 a).b1.Mask (y150_1 a).b1.Mask) && ((same (α := Bool) (y150_1 a).b1.Super (y150_1 a).b1.Super) && ((same (α := Bool) (y150_1 a).b1.Trace (y150_1 a).b1.Trace) && true)))))))
def y150_5 : Bool := ((same (α := Nat) (ln (y150_1 a).b2.A) (ln (y150_1 a).b2.A)) && ((same (α := Int) (y150_1 a).b2.Other (y150_1 a).b2.Other) && ((same (α := Int) (y150_1 a).b2.PC (y150_1 a).b2.PC) && ((same (α := Int) (y150_1 a).b2.Flags (y150_1 a).b2.Flags) && ((same (α := Int) (y150_1 a).b2.Mask (y150_1 a).b2.Mask) && ((same (α := Bool) (y150_1 a).b2.Super (y150_1 a).b2.Super) && ((same (α := Bool) (y150_1 a).b2.Trace (y150_1 a).b2.Trace) && true)))))))
def y150_6 : List Row := (List.set (y150_1 a).b2.A 3 (rowI (y150_3 a).2))
def y150_7 : Bool := (((same (α := Nat) (ln (y150_1 a).b2.D) (ln (y150_1 a).b2.D)) && (y150_5 a)) && ((sameR (y150_1 a).b1.D (y150_1 a).b1.D) && ((sameR (y150_1 a).b1.A (y150_1 a).b1.A) && ((sameR (y150_1 a).b2.D (y150_1 a).b2.D) && ((sameR (y150_6 a) (y150_6 a)) && ((sameR [(rowI 200), (rowI 202), (rowI 380), (rowI 65534), (rowI 0), (rowI 301)] [(rowI 200), (rowI 202), (rowI 380), (rowI 65534), (rowI 0), (rowI 301)]) && true))))))
def y150_8 : Bool := ((((same (α := Bool) true true) && (sameR (y150_3 a).1.fcode (y150_3 a).1.fcode)) && ((same (α := Int) (y150_3 a).1.fat (y150_3 a).1.fat) && ((same (α := Int) (y150_3 a).1.fseed (y150_3 a).1.fseed) && true))) && (((same (α := Nat) (ln (y150_1 a).b1.D) (ln (y150_1 a).b1.D)) && (y150_4 a)) && (y150_7 a)))
def y150_9 : Gl1Cur × Int := (g90 [(rowI 300), (rowI 0), (rowI 447)] (y150_3 a).1)
def y150_10 : Gl1Cur × Int := (g90 [(rowI 0), (rowI 2), (rowI 10), (rowI 40), (rowI 384), (rowI 3), (rowI 448)] (y150_9 a).1)
def y150_11 : Gl1Cur × Int := (g89 8 (g89 32 (y150_10 a).1).1)
def y150_12 : Gl1Cur × Bool := (g86 8 (g86 3 (y150_11 a).1).1)
def y150_13 : List Row := (List.set (y150_1 a).b2.D 0 (rowI 65536))
def y150_14 : Bool := ((eqN (ln (y150_1 a).b2.A) (ln (y150_6 a))) && true)
def y150_15 : Bool := ((eqN (ln (y150_1 a).b2.D) (ln (y150_13 a))) && (y150_14 a))
def y150_16 : Bool := (eqN (ln (y150_1 a).b2.D) (ln (y150_1 a).b2.D))
def y150_17 : Bool := (((y150_16 a) && ((eqN (ln (y150_1 a).b2.A) (ln (y150_1 a).b2.A)) && true)) && true)
def y150_18 : Bool := ((((y150_16 a) && (y150_14 a)) && (y150_17 a)) && (((y150_16 a) && (y150_14 a)) && true))
end
def T150 (a : Gl1Cur) : Pt (Gl1Cur × GRegs) := (.ok true (.ok ((k94) && true) (.ok true (.ok (((y150_0 && y150_0) && true) && (y150_0 && true)) (.ok y150_0 (.ok (i150_0 (V150_0.mk a (GRegs.mk [] [] 0 0 0 0 false false) (g94) 0)) (.ok ((y150_2 a) && (((y150_2 a) && ((y150_2 a) && (y150_8 a))) && (y150_8 a))) (.ok ((k90 [(rowI 300), (rowI 0), (rowI 447)] (y150_3 a).1) && true) (.ok ((k90 [(rowI 0), (rowI 2), (rowI 10), (rowI 40), (rowI 384), (rowI 3), (rowI 448)] (y150_9 a).1) && true) (.ok ((k89 32 (y150_10 a).1) && true) (.ok ((k89 8 (g89 32 (y150_10 a).1).1) && true) (.ok ((k86 3 (y150_11 a).1) && true) (.ok ((k86 8 (g86 3 (y150_11 a).1).1) && true) (.ok ((k89 60 (y150_12 a).1) && true) (.ok true (.br (eqI (g89 60 (y150_12 a).1).2 0) (.ok ((ltI 0 (lenI (y150_1 a).b2.D)) && (((blt 0 (ln (y150_1 a).b2.D)) && (beqN (rlen (y150_1 a).b2.D 0) 1)) && true)) (.ok true (.ok (((y150_15 a) && (y150_17 a)) && ((y150_15 a) && true)) (.leaf ((g89 60 (y150_12 a).1).1, (GRegs.mk (y150_13 a) (y150_6 a) (y150_9 a).2 (y150_10 a).2 (g89 32 (y150_10 a).1).2 (y150_11 a).2 (!(g86 3 (y150_11 a).1).2) (y150_12 a).2)))))) (.ok true (.br (eqI (g89 60 (y150_12 a).1).2 1) (.ok true (.ok true (.ok (y150_18 a) (.leaf ((g89 60 (y150_12 a).1).1, (GRegs.mk (y150_1 a).b2.D (y150_6 a) (y150_9 a).2 (y150_10 a).2 (g89 32 (y150_10 a).1).2 8 (!(g86 3 (y150_11 a).1).2) (y150_12 a).2)))))) (.ok true (.ok (y150_18 a) (.leaf ((g89 60 (y150_12 a).1).1, (GRegs.mk (y150_1 a).b2.D (y150_6 a) (y150_9 a).2 (y150_10 a).2 (g89 32 (y150_10 a).1).2 (y150_11 a).2 (!(g86 3 (y150_11 a).1).2) (y150_12 a).2)))))))))))))))))))))))
def g150 (a : Gl1Cur) : Gl1Cur × GRegs := hid (T150 a).val
def k150 (a : Gl1Cur) : Bool := hid (T150 a).okv
def n150 (a : Gl1Cur) (r : Gl1Cur × GRegs) : SV × List Blk := ((.agg [.sl 1 0 (ln r.2.D), .sl 2 0 (ln r.2.A), li r.2.Other, li r.2.PC, li r.2.Flags, li r.2.Mask, .lit (.bool r.2.Super), .lit (.bool r.2.Trace)]), [.box [.imm true 1 r.1.fcode, li r.1.fat, .lit (.int .u64 r.1.fseed)], .lst 1 r.2.D, .lst 1 r.2.A])
def q150 := DS0 (fun a => n150 a (g150 a)) k150
theorem hL150 : Loops (fun live x => TellsP (lpAt lq150_0 (tagC x)) (evc R 1 2097152 (.loop live x))) F150.body := (loops_of (l := [([0, 2, 3, 4], F150b0)]) (by kernel_rfl) ⟨tellsAt (n := 6) (by kernel_rfl) fun σ σr t h ho hl => lt150_0 σ σr t h ho hl, trivial⟩)
theorem t150 : Con 150 q150 := DS0_t fun a hk => tcl at150 Q94_ok hL150 [(11, K1), (16, K0), (18, K1), (23, K0), (25, K1), (29, K0), (56, K1), (57, K0), (61, K6), (1000001, []), (1000003, [])] [] true (T150 a) (n150 a) hk
def Q150 := qcons 150 q150 Q94
theorem Q150_ok : QO Q150 := qcons_ok t150 Q94_ok
def AS10 (a : List Row) : List SV := [(.one (.imm false 1 a))]
def HS10 (a : List Row) : List Blk := []
def DS10 (N : List Row → SV × List Blk) (K : List Row → Bool) : List SV → List Blk → Option ((SV × List Blk) × Bool)
 | [(.one (.imm false 1 c0))], [] => some (N c0, K c0)
 | _, _ => none
theorem DS10_t {N : List Row → SV × List Blk} {K : List Row → Bool} {f : Nat} (h : ∀ (a : List Row), K a = true → frzR R f (AS10 a) (HS10 a) = some (N a)) : Con f (DS10 N K) := fun _ _ _ e => by
 unfold DS10 at e
 split at e
 ·exact dsf e (h _)
 ·cases e
structure V164_0 where
 mk ::
 (s5 : List Row)
 (s6 : Int)
 (s7 : Int)
def N164_0 (v : V164_0) : Pt (Option V164_0) := (.ok true (.br (ltI v.s7 v.s6) (.ok ((inRow [.int .i64] v.s5 v.s7) && true) (.ok ((k108 (intAt v.s5 (Int.toNat v.s7) 0) 0 255) && true) (.br (!(g108 (intAt v.s5 (Int.toNat v.s7) 0) 0 255)) (.ok true (.leaf none)) (.ok true (.ok true (.leaf (some { v with s7 := (addI v.s7 1) }))))))) (.leaf none)))
def s164_0 (v : V164_0) : St := ⟨[(5, (.one (.imm false 1 v.s5))), (6, (.one (li v.s6))), (7, (.one (li v.s7)))], []⟩
def u164_0 : St → Option (V164_0 × Bool)
 | ⟨[(5, (.one (.imm false 1 c0))), (6, (.one (li c1))), (7, (.one (li c2)))], []⟩ => some ((V164_0.mk c0 c1 c2), true)
 | _ => none
def ev164_0 : St → Option (Pt Out) := evp Q150 [(9, K0), (10, K0)] [] true [] 0 2097152 F164b0
theorem hN164_0 (v : V164_0) : ((ev164_0 (s164_0 v)).bind (stpT true false 0 [5, 6, 7])) = some ((N164_0 v).map (Option.map s164_0)) := by kernel_rfl
theorem hu164_0 (σ : St) (v : V164_0) (h : u164_0 σ = some (v, true)) : σ = s164_0 v := by
 unfold u164_0 at h
 split at h
 ·obtain ⟨hr, hk⟩ := qp (qi h)
  rw [← hr]
  rfl
 ·simp at h
theorem lt164_0 : TellsP (lqP true false 0 [5, 6, 7] ev164_0 u164_0 s164_0 N164_0 2097152) (evc R 0 2097152 (.loop [5, 6, 7] F164b0)) := lqP_tells (evp_tells Q150_ok (loops_of (l := []) (by kernel_rfl) trivial)) hu164_0 hN164_0
def lq164_0 : Lp   := (8, lqP true false 0 [5, 6, 7] ev164_0 u164_0 s164_0 N164_0 2097152) :: []
def w164_0 (v : V164_0) : V164_0 := (hid (loopV N164_0 2097152 v)).getD v
def i164_0 (v : V164_0) : Bool := (hid (loopV N164_0 2097152 v)).isSome
section
variable (a : List Row)
def y164_0 : V164_0 := (w164_0 (V164_0.mk a (lenI a) 0))
end
def T164 (a : List Row) : Pt (Bool) := (.ok true (.ok true (.ok true (.ok true (.ok (i164_0 (V164_0.mk a (lenI a) 0)) (.br (ltI (y164_0 a).s7 (y164_0 a).s6) (.ok true (.ok true (.leaf false))) (.ok true (.ok true (.ok true (.leaf true))))))))))
def g164 (a : List Row) : Bool := hid (T164 a).val
def k164 (a : List Row) : Bool := hid (T164 a).okv
def n164 (a : List Row) (r : Bool) : SV × List Blk := ((.one (.lit (.bool r))), [])
def q164 := DS10 (fun a => n164 a (g164 a)) k164
theorem hL164 : Loops (fun live x => TellsP (lpAt lq164_0 (tagC x)) (evc R 0 2097152 (.loop live x))) F164.body := (loops_of (l := [([5, 6, 7], F164b0)]) (by kernel_rfl) ⟨tellsAt (n := 8) (by kernel_rfl) fun σ σr t h ho hl => lt164_0 σ σr t h ho hl, trivial⟩)
theorem t164 : Con 100164 q164 := DS10_t fun a hk => tzl at164 Q150_ok hL164 [(9, K0), (10, K0)] [] true (T164 a) (n164 a) hk
def Q164 := qcons 100164 q164 Q150
theorem Q164_ok : QO Q164 := qcons_ok t164 Q150_ok
def K7 : List Kd := [.imm 1, .imm 5]
def AS11 (a : List Row) (b : List Row) : List SV := [(.one (.imm false 1 a)), (.one (.imm false 1 b))]
def HS11 (a : List Row) (b : List Row) : List Blk := []
def DS11 (N : List Row → List Row → SV × List Blk) (K : List Row → List Row → Bool) : List SV → List Blk → Option ((SV × List Blk) × Bool)
 | [(.one (.imm false 1 c0)), (.one (.imm false 1 c1))], [] => some (N c0 c1, K c0 c1)
 | _, _ => none
theorem DS11_t {N : List Row → List Row → SV × List Blk} {K : List Row → List Row → Bool} {f : Nat} (h : ∀ (a : List Row) (b : List Row), K a b = true → frzR R f (AS11 a b) (HS11 a b) = some (N a b)) : Con f (DS11 N K) := fun _ _ _ e => by
 unfold DS11 at e
 split at e
 ·exact dsf e (h _ _)
 ·cases e
structure V93_0 where
 mk ::
 (b0 : GBus)
 (b1 : GBus)
 (s1 : List Row)
 (s32 : List Row)
 (s33 : Int)
 (s34 : Int)
section
variable (v : V93_0)
def y93_0_l_0 : Bool := (eqN (ln v.b0.Bytes) (ln v.b0.Bytes))
def y93_0_l_1 : Bool := (eqN (ln v.b0.Log) (ln v.b0.Log))
def y93_0_l_2 : Bool := ((y93_0_l_0 v) && ((y93_0_l_1 v) && true))
def y93_0_l_3 : Bool := ((eqN (ln v.b1.Log) (ln v.b1.Log)) && true)
def y93_0_l_4 : List Row := (List.set v.b1.Bytes (0 + (Int.toNat v.s34)) (rowI (intAt v.s32 (Int.toNat v.s34) 0)))
def y93_0_l_5 : Bool := ((eqN (ln v.b1.Bytes) (ln (y93_0_l_4 v))) && (y93_0_l_3 v))
end
def N93_0 (v : V93_0) : Pt (Option V93_0) := (.ok true (.br (ltI v.s34 v.s33) (.ok ((inRow [.int .i64] v.s32 v.s34) && true) (.ok (((leI 0 v.s34) && (ltI v.s34 (lenI v.b1.Bytes))) && (((blt (0 + (Int.toNat v.s34)) (ln v.b1.Bytes)) && (beqN (rlen v.b1.Bytes (0 + (Int.toNat v.s34))) 1)) && true)) (.ok true (.ok ((((y93_0_l_2 v) && (((eqN (ln v.b1.Bytes) (ln v.b1.Bytes)) && (y93_0_l_3 v)) && ((y93_0_l_0 v) && ((y93_0_l_1 v) && (y93_0_l_5 v))))) && true) && ((y93_0_l_2 v) && ((y93_0_l_5 v) && true))) (.leaf (some { v with b1 := { v.b1 with Bytes := (y93_0_l_4 v) }, s34 := (addI v.s34 1) })))))) (.leaf none)))
def s93_0 (v : V93_0) : St := ⟨[(1, (.one (.imm false 1 v.s1))), (4, (.one (.ptr 0 0 0))), (6, (.one (.ptr 1 0 0))), (32, (.one (.imm false 1 v.s32))), (33, (.one (li v.s33))), (34, (.one (li v.s34)))], [.box [.sl 2 0 (ln v.b0.Bytes), .sl 3 0 (ln v.b0.Log)], .box [.sl 4 0 (ln v.b1.Bytes), .sl 5 0 (ln v.b1.Log)], .lst 1 v.b0.Bytes, .lst 5 v.b0.Log, .lst 1 v.b1.Bytes, .lst 5 v.b1.Log]⟩
def u93_0 : St → Option (V93_0 × Bool)
 | ⟨[(1, (.one (.imm false 1 c0))), (4, (.one (.ptr 0 0 0))), (6, (.one (.ptr 1 0 0))), (32, (.one (.imm false 1 c1))), (33, (.one (li c2))), (34, (.one (li c3)))], [.box [.sl 2 0 l2, .sl 3 0 l3], .box [.sl 4 0 l4, .sl 5 0 l5], .lst 1 c_2, .lst 5 c_3, .lst 1 c_4, .lst 5 c_5]⟩ => some ((V93_0.mk (GBus.mk c_2 c_3) (GBus.mk c_4 c_5) c0 c1 c2 c3), eqN l2 (ln c_2) && (eqN l3 (ln c_3) && (eqN l4 (ln c_4) && (eqN l5 (ln c_5) && (true)))))
 | _ => none
def ev93_0 : St → Option (Pt Out) := evp Q164 [(37, K0), (38, K0), (40, K1), (43, K0), (50, K0), (51, K0), (53, K1), (57, K0), (59, K7), (1000003, [])] [] true [] 0 2097152 F93b0
theorem hN93_0 (v : V93_0) : ((ev93_0 (s93_0 v)).bind (stpT true true 0 [1, 4, 6, 32, 33, 34])) = some ((N93_0 v).map (Option.map s93_0)) := by kernel_rfl
theorem hu93_0 (σ : St) (v : V93_0) (h : u93_0 σ = some (v, true)) : σ = s93_0 v := by
 unfold u93_0 at h
 split at h
 ·obtain ⟨hr, hk⟩ := qp (qi h)
  obtain ⟨d0, hk0⟩ := and_t hk
  obtain ⟨d1, hk1⟩ := and_t hk0
  obtain ⟨d2, hk2⟩ := and_t hk1
  obtain ⟨d3, hk3⟩ := and_t hk2
  obtain rfl := of_decide_eq_true d0
  obtain rfl := of_decide_eq_true d1
  obtain rfl := of_decide_eq_true d2
  obtain rfl := of_decide_eq_true d3
  rw [← hr]
  rfl
 ·simp at h
theorem lt93_0 : TellsP (lqP true true 0 [1, 4, 6, 32, 33, 34] ev93_0 u93_0 s93_0 N93_0 2097152) (evc R 0 2097152 (.loop [1, 4, 6, 32, 33, 34] F93b0)) := lqP_tells (evp_tells Q164_ok (loops_of (l := []) (by kernel_rfl) trivial)) hu93_0 hN93_0
def lq93_0 : Lp   := (35, lqP true true 0 [1, 4, 6, 32, 33, 34] ev93_0 u93_0 s93_0 N93_0 2097152) :: []
def w93_0 (v : V93_0) : V93_0 := (hid (loopV N93_0 2097152 v)).getD v
def i93_0 (v : V93_0) : Bool := (hid (loopV N93_0 2097152 v)).isSome
structure V93_1 where
 mk ::
 (b0 : GBus)
 (b1 : GBus)
 (s45 : List Row)
 (s46 : Int)
 (s47 : Int)
section
variable (v : V93_1)
def y93_1_l_0 : Bool := (eqN (ln v.b0.Bytes) (ln v.b0.Bytes))
def y93_1_l_1 : Bool := (eqN (ln v.b0.Log) (ln v.b0.Log))
def y93_1_l_2 : Bool := ((y93_1_l_0 v) && ((y93_1_l_1 v) && true))
def y93_1_l_3 : Bool := ((eqN (ln v.b1.Log) (ln v.b1.Log)) && true)
def y93_1_l_4 : List Row := (List.set v.b1.Bytes (0 + (Int.toNat (addI 384 v.s47))) (rowI (intAt v.s45 (Int.toNat v.s47) 0)))
def y93_1_l_5 : Bool := ((eqN (ln v.b1.Bytes) (ln (y93_1_l_4 v))) && (y93_1_l_3 v))
end
def N93_1 (v : V93_1) : Pt (Option V93_1) := (.ok true (.br (ltI v.s47 v.s46) (.ok ((inRow [.int .i64] v.s45 v.s47) && true) (.ok (((leI 0 (addI 384 v.s47)) && (ltI (addI 384 v.s47) (lenI v.b1.Bytes))) && (((blt (0 + (Int.toNat (addI 384 v.s47))) (ln v.b1.Bytes)) && (beqN (rlen v.b1.Bytes (0 + (Int.toNat (addI 384 v.s47)))) 1)) && true)) (.ok true (.ok ((((y93_1_l_2 v) && (((eqN (ln v.b1.Bytes) (ln v.b1.Bytes)) && (y93_1_l_3 v)) && ((y93_1_l_0 v) && ((y93_1_l_1 v) && (y93_1_l_5 v))))) && true) && ((y93_1_l_2 v) && ((y93_1_l_5 v) && true))) (.leaf (some { v with b1 := { v.b1 with Bytes := (y93_1_l_4 v) }, s47 := (addI v.s47 1) })))))) (.leaf none)))
def s93_1 (v : V93_1) : St := ⟨[(4, (.one (.ptr 0 0 0))), (6, (.one (.ptr 1 0 0))), (45, (.one (.imm false 1 v.s45))), (46, (.one (li v.s46))), (47, (.one (li v.s47)))], [.box [.sl 2 0 (ln v.b0.Bytes), .sl 3 0 (ln v.b0.Log)], .box [.sl 4 0 (ln v.b1.Bytes), .sl 5 0 (ln v.b1.Log)], .lst 1 v.b0.Bytes, .lst 5 v.b0.Log, .lst 1 v.b1.Bytes, .lst 5 v.b1.Log]⟩
def u93_1 : St → Option (V93_1 × Bool)
 | ⟨[(4, (.one (.ptr 0 0 0))), (6, (.one (.ptr 1 0 0))), (45, (.one (.imm false 1 c0))), (46, (.one (li c1))), (47, (.one (li c2)))], [.box [.sl 2 0 l2, .sl 3 0 l3], .box [.sl 4 0 l4, .sl 5 0 l5], .lst 1 c_2, .lst 5 c_3, .lst 1 c_4, .lst 5 c_5]⟩ => some ((V93_1.mk (GBus.mk c_2 c_3) (GBus.mk c_4 c_5) c0 c1 c2), eqN l2 (ln c_2) && (eqN l3 (ln c_3) && (eqN l4 (ln c_4) && (eqN l5 (ln c_5) && (true)))))
 | _ => none
def ev93_1 : St → Option (Pt Out) := evp Q164 [(37, K0), (38, K0), (40, K1), (43, K0), (50, K0), (51, K0), (53, K1), (57, K0), (59, K7), (1000003, [])] [] true lq93_0 0 2097152 F93b1
theorem hN93_1 (v : V93_1) : ((ev93_1 (s93_1 v)).bind (stpT true true 0 [4, 6, 45, 46, 47])) = some ((N93_1 v).map (Option.map s93_1)) := by kernel_rfl
theorem hu93_1 (σ : St) (v : V93_1) (h : u93_1 σ = some (v, true)) : σ = s93_1 v := by
 unfold u93_1 at h
 split at h
 ·obtain ⟨hr, hk⟩ := qp (qi h)
  obtain ⟨d0, hk0⟩ := and_t hk
  obtain ⟨d1, hk1⟩ := and_t hk0
  obtain ⟨d2, hk2⟩ := and_t hk1
  obtain ⟨d3, hk3⟩ := and_t hk2
  obtain rfl := of_decide_eq_true d0
  obtain rfl := of_decide_eq_true d1
  obtain rfl := of_decide_eq_true d2
  obtain rfl := of_decide_eq_true d3
  rw [← hr]
  rfl
 ·simp at h
theorem lt93_1 : TellsP (lqP true true 0 [4, 6, 45, 46, 47] ev93_1 u93_1 s93_1 N93_1 2097152) (evc R 0 2097152 (.loop [4, 6, 45, 46, 47] F93b1)) := lqP_tells (evp_tells Q164_ok (loops_of (l := []) (by kernel_rfl) trivial)) hu93_1 hN93_1
def lq93_1 : Lp   := (48, lqP true true 0 [4, 6, 45, 46, 47] ev93_1 u93_1 s93_1 N93_1 2097152) :: lq93_0
def w93_1 (v : V93_1) : V93_1 := (hid (loopV N93_1 2097152 v)).getD v
def i93_1 (v : V93_1) : Bool := (hid (loopV N93_1 2097152 v)).isSome
section
variable (a : List Row) (b : List Row)
def y93_0 : V93_0 := (w93_0 (V93_0.mk (GBus.mk [] []) (GBus.mk (List.replicate 512 (rowI 0)) []) b a (lenI a) 0))
def y93_1 : Bool := (eqN (ln (y93_0 a b).b0.Bytes) (ln (y93_0 a b).b0.Bytes))
def y93_2 : Bool := (eqN (ln (y93_0 a b).b0.Log) (ln (y93_0 a b).b0.Log))
def y93_3 : Bool := ((y93_1 a b) && ((y93_2 a b) && true))
def y93_4 : Bool := ((eqN (ln (y93_0 a b).b1.Bytes) (ln (y93_0 a b).b1.Bytes)) && ((eqN (ln (y93_0 a b).b1.Log) (ln (y93_0 a b).b1.Log)) && true))
def y93_5 : Bool := ((y93_1 a b) && ((y93_2 a b) && (y93_4 a b)))
def y93_6 : Nat := (ln (w93_1 (V93_1.mk (y93_0 a b).b0 (y93_0 a b).b1 (y93_0 a b).s1 (lenI (y93_0 a b).s1) 0)).b1.Bytes)
def y93_7 : Nat := (ln (w93_1 (V93_1.mk (y93_0 a b).b0 (y93_0 a b).b1 (y93_0 a b).s1 (lenI (y93_0 a b).s1) 0)).b1.Log)
def y93_8 : Bool := ((eqN (y93_6 a b) (y93_6 a b)) && ((eqN (y93_7 a b) (y93_7 a b)) && true))
end
def T93 (a : List Row) (b : List Row) : Pt (GBus × Bool) := (.ok true (.ok ((k164 a) && ((((k164 b) && true) || (!(g164 a))) && true)) (.br (bif (bif (bif (!(g164 a)) then true else (!(g164 b))) then true else (gtI (lenI a) 384)) then true else (gtI (lenI b) 64)) (.ok true (.ok true (.leaf ((GBus.mk [] []), false)))) (.ok true (.ok true (.ok true (.ok true (.ok (i93_0 (V93_0.mk (GBus.mk [] []) (GBus.mk (List.replicate 512 (rowI 0)) []) b a (lenI a) 0)) (.ok true (.ok ((((y93_3 a b) && ((y93_4 a b) && (y93_5 a b))) && true) && ((y93_3 a b) && ((y93_4 a b) && true))) (.ok (y93_5 a b) (.ok (i93_1 (V93_1.mk (y93_0 a b).b0 (y93_0 a b).b1 (y93_0 a b).s1 (lenI (y93_0 a b).s1) 0)) (.ok true (.ok ((y93_8 a b) && ((y93_8 a b) && true)) (.leaf ((w93_1 (V93_1.mk (y93_0 a b).b0 (y93_0 a b).b1 (y93_0 a b).s1 (lenI (y93_0 a b).s1) 0)).b1, true))))))))))))))))
def g93 (a : List Row) (b : List Row) : GBus × Bool := hid (T93 a b).val
def k93 (a : List Row) (b : List Row) : Bool := hid (T93 a b).okv
def n93 (a : List Row) (b : List Row) (r : GBus × Bool) : SV × List Blk := ((.tup [(.agg [.sl 0 0 (ln r.1.Bytes), .sl 1 0 (ln r.1.Log)]), (.one (.lit (.bool r.2)))]), [.lst 1 r.1.Bytes, .lst 5 r.1.Log])
def q93 := DS11 (fun a b => n93 a b (g93 a b)) k93
theorem hL93 : Loops (fun live x => TellsP (lpAt lq93_1 (tagC x)) (evc R 0 2097152 (.loop live x))) F93.body := (loops_of (l := [([1, 4, 6, 32, 33, 34], F93b0), ([4, 6, 45, 46, 47], F93b1)]) (by kernel_rfl) ⟨tellsAt (n := 35) (by kernel_rfl) fun σ σr t h ho hl => lt93_0 σ σr t h ho hl, tellsAt (n := 48) (by kernel_rfl) fun σ σr t h ho hl => lt93_1 σ σr t h ho hl, trivial⟩)
theorem t93 : Con 93 q93 := DS11_t fun a b hk => tcl at93 Q164_ok hL93 [(37, K0), (38, K0), (40, K1), (43, K0), (50, K0), (51, K0), (53, K1), (57, K0), (59, K7), (1000003, [])] [] true (T93 a b) (n93 a b) hk
def Q93 := qcons 93 q93 Q164
theorem Q93_ok : QO Q93 := qcons_ok t93 Q164_ok
def AS12 (a : List Row) (b : Int) : List SV := [(.one (.imm false 1 a)), (.one (li b))]
def HS12 (a : List Row) (b : Int) : List Blk := []
def DS12 (N : List Row → Int → SV × List Blk) (K : List Row → Int → Bool) : List SV → List Blk → Option ((SV × List Blk) × Bool)
 | [(.one (.imm false 1 c0)), (.one (li c1))], [] => some (N c0 c1, K c0 c1)
 | _, _ => none
theorem DS12_t {N : List Row → Int → SV × List Blk} {K : List Row → Int → Bool} {f : Nat} (h : ∀ (a : List Row) (b : Int), K a b = true → frzR R f (AS12 a b) (HS12 a b) = some (N a b)) : Con f (DS12 N K) := fun _ _ _ e => by
 unfold DS12 at e
 split at e
 ·exact dsf e (h _ _)
 ·cases e
section
variable (a : List Row)
def y20_0 : Bool := (eqN (ln (g94).D) (ln (g94).D))
def y20_1 : Bool := ((eqN (ln (g93 a []).1.Bytes) (ln (g93 a []).1.Bytes)) && ((eqN (ln (g93 a []).1.Log) (ln (g93 a []).1.Log)) && true))
def y20_2 : Bool := (y20_0 && ((eqN (ln (g94).A) (ln (List.set (g94).A 3 (rowI 384)))) && (y20_1 a)))
end
def T20 (a : List Row) (b : Int) : Pt (GCpu × Bool) := (.ok true (.ok ((k93 a []) && true) (.ok ((((k77 b) && true) || (!(g93 a []).2)) && true) (.br (bif (!(g93 a []).2) then true else (!(g77 b))) (.ok true (.ok true (.leaf ((GCpu.mk (GRegs.mk [] [] 0 0 0 0 false false) (GBus.mk [] []) false false), false)))) (.ok ((k94) && true) (.ok true (.ok ((ltI 3 (lenI (g94).A)) && (((blt 3 (ln (g94).A)) && (beqN (rlen (g94).A 3) 1)) && true)) (.ok true (.ok (((y20_2 a) && ((y20_0 && ((eqN (ln (g94).A) (ln (g94).A)) && (y20_1 a))) && true)) && (((y20_2 a) && true) && true)) (.leaf ((GCpu.mk { (g94) with A := (List.set (g94).A 3 (rowI 384)), PC := b } (g93 a []).1 false false), true)))))))))))
def g20 (a : List Row) (b : Int) : GCpu × Bool := hid (T20 a b).val
def k20 (a : List Row) (b : Int) : Bool := hid (T20 a b).okv
def n20 (a : List Row) (b : Int) (r : GCpu × Bool) : SV × List Blk := ((.tup [(.agg [.sl 0 0 (ln r.1.R.D), .sl 1 0 (ln r.1.R.A), li r.1.R.Other, li r.1.R.PC, li r.1.R.Flags, li r.1.R.Mask, .lit (.bool r.1.R.Super), .lit (.bool r.1.R.Trace), .sl 2 0 (ln r.1.Bus.Bytes), .sl 3 0 (ln r.1.Bus.Log), .lit (.bool r.1.Stop), .lit (.bool r.1.Halt)]), (.one (.lit (.bool r.2)))]), [.lst 1 r.1.R.D, .lst 1 r.1.R.A, .lst 1 r.1.Bus.Bytes, .lst 5 r.1.Bus.Log])
def q20 := DS12 (fun a b => n20 a b (g20 a b)) k20
theorem t20 : Con 20 q20 := DS12_t fun a b hk => tc at20 Q93_ok [(26, K1), (27, K0), (28, K6), (29, K7), (1000001, [])] [] true (T20 a b) (n20 a b) hk
def Q20 := qcons 20 q20 Q93
theorem Q20_ok : QO Q20 := qcons_ok t20 Q93_ok
def K8 : List Kd := [.imm 1, .imm 1, .int .i64, .int .i64, .int .i64, .int .i64, .bool, .bool, .imm 1, .imm 5, .bool, .bool]
section
variable (a : Gl1Cur)
def y71_0 : GCpu × Bool := (g20 (g149 a).2.1 (g149 a).2.2)
def y71_1 : Gl1Cur × Int := (g89 60 (g150 (g149 a).1).1)
def y71_2 : Bool := (eqN (ln (g150 (g149 a).1).2.D) (ln (g150 (g149 a).1).2.D))
def y71_3 : Bool := (eqN (ln (g150 (g149 a).1).2.A) (ln (g150 (g149 a).1).2.A))
def y71_4 : Bool := ((y71_2 a) && ((y71_3 a) && ((eqN (ln (g20 [] 0).1.Bus.Bytes) (ln (g20 [] 0).1.Bus.Bytes)) && ((eqN (ln (g20 [] 0).1.Bus.Log) (ln (g20 [] 0).1.Bus.Log)) && true))))
def y71_5 : GRegs := { (g150 (g149 a).1).2 with PC := (g20 [] 0).1.R.PC }
def y71_6 : Bool := ((y71_2 a) && ((y71_3 a) && ((eqN (ln (y71_0 a).1.Bus.Bytes) (ln (y71_0 a).1.Bus.Bytes)) && ((eqN (ln (y71_0 a).1.Bus.Log) (ln (y71_0 a).1.Bus.Log)) && true))))
def y71_7 : GRegs := { (g150 (g149 a).1).2 with PC := (y71_0 a).1.R.PC }
end
def T71 (a : Gl1Cur) : Pt (Gl1Cur × GCpu) := (.ok true (.ok ((k149 a) && true) (.ok ((k150 (g149 a).1) && true) (.ok ((((eqN (ln (g149 a).2.1) (ln (g149 a).2.1)) && true) && (k20 (g149 a).2.1 (g149 a).2.2)) && true) (.ok true (.br (!(y71_0 a).2) (.ok ((k20 [] 0) && true) (.ok true (.ok true (.ok true (.ok ((k89 60 (g150 (g149 a).1).1) && true) (.ok true (.br (eqI (y71_1 a).2 0) (.ok true (.ok true (.ok ((y71_4 a) && ((y71_4 a) && true)) (.leaf ((y71_1 a).1, { (g20 [] 0).1 with R := (y71_5 a), Stop := true }))))) (.ok true (.br (eqI (y71_1 a).2 1) (.ok true (.ok true (.ok ((y71_4 a) && ((y71_4 a) && true)) (.leaf ((y71_1 a).1, { (g20 [] 0).1 with R := (y71_5 a), Halt := true }))))) (.ok true (.br (eqI (y71_1 a).2 2) (.ok true (.ok true (.ok ((y71_4 a) && ((y71_4 a) && true)) (.leaf ((y71_1 a).1, { (g20 [] 0).1 with R := (g150 (g149 a).1).2 }))))) (.ok true (.ok ((y71_4 a) && ((y71_4 a) && true)) (.leaf ((y71_1 a).1, { (g20 [] 0).1 with R := (y71_5 a) }))))))))))))))) (.ok true (.ok true (.ok true (.ok ((k89 60 (g150 (g149 a).1).1) && true) (.ok true (.br (eqI (y71_1 a).2 0) (.ok true (.ok true (.ok ((y71_6 a) && ((y71_6 a) && true)) (.leaf ((y71_1 a).1, { (y71_0 a).1 with R := (y71_7 a), Stop := true }))))) (.ok true (.br (eqI (y71_1 a).2 1) (.ok true (.ok true (.ok ((y71_6 a) && ((y71_6 a) && true)) (.leaf ((y71_1 a).1, { (y71_0 a).1 with R := (y71_7 a), Halt := true }))))) (.ok true (.br (eqI (y71_1 a).2 2) (.ok true (.ok true (.ok ((y71_6 a) && ((y71_6 a) && true)) (.leaf ((y71_1 a).1, { (y71_0 a).1 with R := (g150 (g149 a).1).2 }))))) (.ok true (.ok ((y71_6 a) && ((y71_6 a) && true)) (.leaf ((y71_1 a).1, { (y71_0 a).1 with R := (y71_7 a) }))))))))))))))))))))
def g71 (a : Gl1Cur) : Gl1Cur × GCpu := hid (T71 a).val
def k71 (a : Gl1Cur) : Bool := hid (T71 a).okv
def n71 (a : Gl1Cur) (r : Gl1Cur × GCpu) : SV × List Blk := ((.agg [.sl 1 0 (ln r.2.R.D), .sl 2 0 (ln r.2.R.A), li r.2.R.Other, li r.2.R.PC, li r.2.R.Flags, li r.2.R.Mask, .lit (.bool r.2.R.Super), .lit (.bool r.2.R.Trace), .sl 3 0 (ln r.2.Bus.Bytes), .sl 4 0 (ln r.2.Bus.Log), .lit (.bool r.2.Stop), .lit (.bool r.2.Halt)]), [.box [.imm true 1 r.1.fcode, li r.1.fat, .lit (.int .u64 r.1.fseed)], .lst 1 r.2.R.D, .lst 1 r.2.R.A, .lst 1 r.2.Bus.Bytes, .lst 5 r.2.Bus.Log])
def q71 := DS0 (fun a => n71 a (g71 a)) k71
theorem t71 : Con 71 q71 := DS0_t fun a hk => tc at71 Q20_ok [(30, K0), (31, K6), (47, K0), (50, K8)] [] true (T71 a) (n71 a) hk
def Q71 := qcons 71 q71 Q20
theorem Q71_ok : QO Q71 := qcons_ok t71 Q20_ok
section
variable (a : Gl1Cur)
def y72_0 : Gl1Cur × Int := (g90 [(rowI 0), (rowI 1), (rowI 127), (rowI 128), (rowI 255), (rowI 256), (rowI 32767), (rowI 32768), (rowI 65535), (rowI 65536), (rowI (-1))] (g86 2 a).1)
def y72_1 : Gl1Cur × Int := (g89 2 (g89 256 (g86 2 a).1).1)
end
def T72 (a : Gl1Cur) : Pt (Gl1Cur × Int) := (.ok true (.ok ((k86 2 a) && true) (.br (g86 2 a).2 (.ok ((k90 [(rowI 0), (rowI 1), (rowI 127), (rowI 128), (rowI 255), (rowI 256), (rowI 32767), (rowI 32768), (rowI 65535), (rowI 65536), (rowI (-1))] (g86 2 a).1) && true) (.ok true (.leaf ((y72_0 a).1, (y72_0 a).2)))) (.ok ((k89 256 (g86 2 a).1) && ((k89 2 (g89 256 (g86 2 a).1).1) && ((k89 256 (y72_1 a).1) && true))) (.ok true (.leaf ((g89 256 (y72_1 a).1).1, (addI (mulI (mulI (g89 256 (g86 2 a).1).2 (y72_1 a).2) 256) (g89 256 (y72_1 a).1).2))))))))
def g72 (a : Gl1Cur) : Gl1Cur × Int := hid (T72 a).val
def k72 (a : Gl1Cur) : Bool := hid (T72 a).okv
def q72 := DS0 (fun a => n162 a (g72 a)) k72
theorem t72 : Con 72 q72 := DS0_t fun a hk => tc at72 Q71_ok [] [] true (T72 a) (n162 a) hk
def Q72 := qcons 72 q72 Q71
theorem Q72_ok : QO Q72 := qcons_ok t72 Q71_ok
def AS13 (a : List Row) : List SV := [(.one (.imm true 1 a))]
def HS13 (a : List Row) : List Blk := []
def DS13 (N : List Row → SV × List Blk) (K : List Row → Bool) : List SV → List Blk → Option ((SV × List Blk) × Bool)
 | [(.one (.imm true 1 c0))], [] => some (N c0, K c0)
 | _, _ => none
theorem DS13_t {N : List Row → SV × List Blk} {K : List Row → Bool} {f : Nat} (h : ∀ (a : List Row), K a = true → frzR R f (AS13 a) (HS13 a) = some (N a)) : Con f (DS13 N K) := fun _ _ _ e => by
 unfold DS13 at e
 split at e
 ·exact dsf e (h _)
 ·cases e
section
variable (a : List Row)
def y8_0 : Nat := (ln (g71 (Gl1Cur.mk a 0 0)).2.R.D)
def y8_1 : Nat := (ln (g71 (Gl1Cur.mk a 0 0)).2.R.A)
def y8_2 : Nat := (ln (g71 (Gl1Cur.mk a 0 0)).2.Bus.Bytes)
def y8_3 : Nat := (ln (g71 (Gl1Cur.mk a 0 0)).2.Bus.Log)
def y8_4 : Bool := ((eqN (y8_0 a) (y8_0 a)) && ((eqN (y8_1 a) (y8_1 a)) && ((eqN (y8_2 a) (y8_2 a)) && ((eqN (y8_3 a) (y8_3 a)) && true))))
end
def T8 (a : List Row) : Pt (GCpu × Int) := (.ok true (.ok true (.ok ((k71 (Gl1Cur.mk a 0 0)) && ((k72 (g71 (Gl1Cur.mk a 0 0)).1) && true)) (.ok ((y8_4 a) && ((y8_4 a) && true)) (.ok ((y8_4 a) && true) (.leaf ((g71 (Gl1Cur.mk a 0 0)).2, (g72 (g71 (Gl1Cur.mk a 0 0)).1).2)))))))
def g8 (a : List Row) : GCpu × Int := hid (T8 a).val
def k8 (a : List Row) : Bool := hid (T8 a).okv
def n8 (a : List Row) (r : GCpu × Int) : SV × List Blk := ((.tup [(.agg [.imm true 1 r.1.R.D, .imm true 1 r.1.R.A, li r.1.R.Other, li r.1.R.PC, li r.1.R.Flags, li r.1.R.Mask, .lit (.bool r.1.R.Super), .lit (.bool r.1.R.Trace), .imm true 1 r.1.Bus.Bytes, .imm true 5 r.1.Bus.Log, .lit (.bool r.1.Stop), .lit (.bool r.1.Halt)]), (.one (li r.2))]), [])
def q8 := DS13 (fun a => n8 a (g8 a)) k8
theorem t8 : Con 100008 q8 := DS13_t fun a hk => tz at8 Q72_ok [] [] true (T8 a) (n8 a) hk
def Q8 := qcons 100008 q8 Q72
theorem Q8_ok : QO Q8 := qcons_ok t8 Q72_ok
def T106 (a : Int) (b : Int) (c : Int) : Pt (Bool) := (.ok true (.ok true (.ok true (.ok true (.leaf (bif (geI a b) then (leI a c) else false))))))
def g106 (a : Int) (b : Int) (c : Int) : Bool := hid (T106 a b c).val
def k106 (a : Int) (b : Int) (c : Int) : Bool := hid (T106 a b c).okv
def q106 := DS5 (fun a b c => n108 a b c (g106 a b c)) k106
theorem t106 : Con 100106 q106 := DS5_t fun a b c hk => tz at106 Q8_ok [] [] true (T106 a b c) (n108 a b c) hk
def Q106 := qcons 100106 q106 Q8
theorem Q106_ok : QO Q106 := qcons_ok t106 Q8_ok
def T73 (a : Int) : Pt (Bool) := (.ok true (.ok ((k106 a 0 65535) && true) (.ok true (.ok true (.leaf (g106 a 0 65535))))))
def g73 (a : Int) : Bool := hid (T73 a).val
def k73 (a : Int) : Bool := hid (T73 a).okv
def q73 := DS2 (fun a => n240 a (g73 a)) k73
theorem t73 : Con 100073 q73 := DS2_t fun a hk => tz at73 Q106_ok [] [] true (T73 a) (n240 a) hk
def Q73 := qcons 100073 q73 Q106
theorem Q73_ok : QO Q73 := qcons_ok t73 Q106_ok
def T226 (a : Int) : Pt (Bool) := (.ok true (.ok ((k73 a) && true) (.ok true (.leaf (!(g73 a))))))
def g226 (a : Int) : Bool := hid (T226 a).val
def k226 (a : Int) : Bool := hid (T226 a).okv
def q226 := DS2 (fun a => n240 a (g226 a)) k226
theorem t226 : Con 226 q226 := DS2_t fun a hk => tc at226 Q73_ok [] [] true (T226 a) (n240 a) hk
def Q226 := qcons 226 q226 Q73
theorem Q226_ok : QO Q226 := qcons_ok t226 Q73_ok
def AS14 (a : List Row) : List SV := [(.one (.imm true 1 a)), (.one (.clo 226 []))]
def HS14 (a : List Row) : List Blk := []
def DS14 (N : List Row → SV × List Blk) (K : List Row → Bool) : List SV → List Blk → Option ((SV × List Blk) × Bool)
 | [(.one (.imm true 1 c0)), (.one (.clo 226 []))], [] => some (N c0, K c0)
 | _, _ => none
theorem DS14_t {N : List Row → SV × List Blk} {K : List Row → Bool} {f : Nat} (h : ∀ (a : List Row), K a = true → frzR R f (AS14 a) (HS14 a) = some (N a)) : Con f (DS14 N K) := fun _ _ _ e => by
 unfold DS14 at e
 split at e
 ·exact dsf e (h _)
 ·cases e
structure V227_0 where
 mk ::
 (s0 : List Row)
 (s7 : Int)
 (s8 : Int)
def N227_0 (v : V227_0) : Pt (Option V227_0) := (.ok true (.br (ltI v.s8 v.s7) (.ok true (.ok ((inRow [.int .i64] v.s0 v.s8) && ((k226 (intAt v.s0 (Int.toNat v.s8) 0)) && true)) (.br (g226 (intAt v.s0 (Int.toNat v.s8) 0)) (.ok true (.leaf none)) (.ok true (.ok true (.leaf (some { v with s8 := (addI v.s8 1) }))))))) (.leaf none)))
def s227_0 (v : V227_0) : St := ⟨[(0, (.one (.imm true 1 v.s0))), (1, (.one (.clo 226 []))), (7, (.one (li v.s7))), (8, (.one (li v.s8)))], []⟩
def u227_0 : St → Option (V227_0 × Bool)
 | ⟨[(0, (.one (.imm true 1 c0))), (1, (.one (.clo 226 []))), (7, (.one (li c1))), (8, (.one (li c2)))], []⟩ => some ((V227_0.mk c0 c1 c2), true)
 | _ => none
def ev227_0 : St → Option (Pt Out) := evp Q226 [(14, K0), (15, K0)] [] true [] 0 2097152 F227b0
theorem hN227_0 (v : V227_0) : ((ev227_0 (s227_0 v)).bind (stpT true false 0 [0, 1, 7, 8])) = some ((N227_0 v).map (Option.map s227_0)) := by kernel_rfl
theorem hu227_0 (σ : St) (v : V227_0) (h : u227_0 σ = some (v, true)) : σ = s227_0 v := by
 unfold u227_0 at h
 split at h
 ·obtain ⟨hr, hk⟩ := qp (qi h)
  rw [← hr]
  rfl
 ·simp at h
theorem lt227_0 : TellsP (lqP true false 0 [0, 1, 7, 8] ev227_0 u227_0 s227_0 N227_0 2097152) (evc R 0 2097152 (.loop [0, 1, 7, 8] F227b0)) := lqP_tells (evp_tells Q226_ok (loops_of (l := []) (by kernel_rfl) trivial)) hu227_0 hN227_0
def lq227_0 : Lp   := (9, lqP true false 0 [0, 1, 7, 8] ev227_0 u227_0 s227_0 N227_0 2097152) :: []
def w227_0 (v : V227_0) : V227_0 := (hid (loopV N227_0 2097152 v)).getD v
def i227_0 (v : V227_0) : Bool := (hid (loopV N227_0 2097152 v)).isSome
section
variable (a : List Row)
def y227_0 : V227_0 := (w227_0 (V227_0.mk a (lenI a) 0))
end
def T227 (a : List Row) : Pt (Int) := (.ok true (.ok true (.ok true (.ok true (.ok (i227_0 (V227_0.mk a (lenI a) 0)) (.br (ltI (y227_0 a).s8 (y227_0 a).s7) (.ok true (.leaf (y227_0 a).s8)) (.ok true (.ok true (.leaf (-1))))))))))
def g227 (a : List Row) : Int := hid (T227 a).val
def k227 (a : List Row) : Bool := hid (T227 a).okv
def n227 (a : List Row) (r : Int) : SV × List Blk := ((.one (li r)), [])
def q227 := DS14 (fun a => n227 a (g227 a)) k227
theorem hL227 : Loops (fun live x => TellsP (lpAt lq227_0 (tagC x)) (evc R 0 2097152 (.loop live x))) F227.body := (loops_of (l := [([0, 1, 7, 8], F227b0)]) (by kernel_rfl) ⟨tellsAt (n := 9) (by kernel_rfl) fun σ σr t h ho hl => lt227_0 σ σr t h ho hl, trivial⟩)
theorem t227 : Con 227 q227 := DS14_t fun a hk => tcl at227 Q226_ok hL227 [(14, K0), (15, K0)] [] true (T227 a) (n227 a) hk
def Q227 := qcons 227 q227 Q226
theorem Q227_ok : QO Q227 := qcons_ok t227 Q226_ok
def T171 (a : List Row) : Pt (Bool) := (.ok true (.ok ((k227 a) && true) (.ok true (.leaf (geI (g227 a) 0)))))
def g171 (a : List Row) : Bool := hid (T171 a).val
def k171 (a : List Row) : Bool := hid (T171 a).okv
def q171 := DS14 (fun a => n164 a (g171 a)) k171
theorem t171 : Con 171 q171 := DS14_t fun a hk => tc at171 Q227_ok [] [] true (T171 a) (n164 a) hk
def Q171 := qcons 171 q171 Q227
theorem Q171_ok : QO Q171 := qcons_ok t171 Q227_ok
def T169 (a : List Row) : Pt (Bool) := (.ok true (.ok ((((k171 a) && true) || (!(eqI (lenI a) 4))) && true) (.ok true (.ok true (.leaf (bif (eqI (lenI a) 4) then (!(g171 a)) else false))))))
def g169 (a : List Row) : Bool := hid (T169 a).val
def k169 (a : List Row) : Bool := hid (T169 a).okv
def q169 := DS13 (fun a => n164 a (g169 a)) k169
theorem t169 : Con 100169 q169 := DS13_t fun a hk => tz at169 Q171_ok [] [] true (T169 a) (n164 a) hk
def Q169 := qcons 100169 q169 Q171
theorem Q169_ok : QO Q169 := qcons_ok t169 Q171_ok
def T170 (a : Int) : Pt (Bool) := (.ok true (.ok ((k106 a 0 31) && true) (.ok true (.ok true (.leaf (g106 a 0 31))))))
def g170 (a : Int) : Bool := hid (T170 a).val
def k170 (a : Int) : Bool := hid (T170 a).okv
def q170 := DS2 (fun a => n240 a (g170 a)) k170
theorem t170 : Con 100170 q170 := DS2_t fun a hk => tz at170 Q169_ok [] [] true (T170 a) (n240 a) hk
def Q170 := qcons 100170 q170 Q169
theorem Q170_ok : QO Q170 := qcons_ok t170 Q169_ok
def AS15 (a : GRegs) : List SV := [(.agg [.imm true 1 a.D, .imm true 1 a.A, li a.Other, li a.PC, li a.Flags, li a.Mask, .lit (.bool a.Super), .lit (.bool a.Trace)])]
def HS15 (a : GRegs) : List Blk := []
def DS15 (N : GRegs → SV × List Blk) (K : GRegs → Bool) : List SV → List Blk → Option ((SV × List Blk) × Bool)
 | [(.agg [.imm true 1 c0, .imm true 1 c1, li c2, li c3, li c4, li c5, .lit (.bool c6), .lit (.bool c7)])], [] => some (N (GRegs.mk c0 c1 c2 c3 c4 c5 c6 c7), K (GRegs.mk c0 c1 c2 c3 c4 c5 c6 c7))
 | _, _ => none
theorem DS15_t {N : GRegs → SV × List Blk} {K : GRegs → Bool} {f : Nat} (h : ∀ (a : GRegs), K a = true → frzR R f (AS15 a) (HS15 a) = some (N a)) : Con f (DS15 N K) := fun _ _ _ e => by
 unfold DS15 at e
 split at e
 ·exact dsf e (h _)
 ·cases e
section
variable (a : GRegs)
def y110_0 : Bool := (bif (g169 a.D) then (g169 a.A) else false)
def y110_1 : Bool := (bif (y110_0 a) then (g73 a.Other) else false)
def y110_2 : Bool := (bif (y110_1 a) then (g73 a.PC) else false)
def y110_3 : Bool := (bif (y110_2 a) then (g170 a.Flags) else false)
end
def T110 (a : GRegs) : Pt (Bool) := (.ok true (.ok ((k169 a.D) && ((((k169 a.A) && true) || (!(g169 a.D))) && ((((k73 a.Other) && true) || (!(y110_0 a))) && ((((k73 a.PC) && true) || (!(y110_1 a))) && ((((k170 a.Flags) && true) || (!(y110_2 a))) && ((((k106 a.Mask 0 7) && true) || (!(y110_3 a))) && true)))))) (.ok true (.ok true (.leaf (bif (y110_3 a) then (g106 a.Mask 0 7) else false))))))
def g110 (a : GRegs) : Bool := hid (T110 a).val
def k110 (a : GRegs) : Bool := hid (T110 a).okv
def n110 (a : GRegs) (r : Bool) : SV × List Blk := ((.one (.lit (.bool r))), [])
def q110 := DS15 (fun a => n110 a (g110 a)) k110
theorem t110 : Con 100110 q110 := DS15_t fun a hk => tz at110 Q170_ok [(4, K1), (8, K1), (13, K0), (18, K0), (23, K0), (28, K0)] [] true (T110 a) (n110 a) hk
def Q110 := qcons 100110 q110 Q170
theorem Q110_ok : QO Q110 := qcons_ok t110 Q170_ok
def T172 (a : Int) : Pt (Bool) := (.ok true (.ok ((k106 a 0 255) && true) (.ok true (.leaf (!(g106 a 0 255))))))
def g172 (a : Int) : Bool := hid (T172 a).val
def k172 (a : Int) : Bool := hid (T172 a).okv
def q172 := DS2 (fun a => n240 a (g172 a)) k172
theorem t172 : Con 172 q172 := DS2_t fun a hk => tc at172 Q110_ok [] [] true (T172 a) (n240 a) hk
def Q172 := qcons 172 q172 Q110
theorem Q172_ok : QO Q172 := qcons_ok t172 Q110_ok
def AS16 (a : List Row) : List SV := [(.one (.imm true 1 a)), (.one (.clo 172 []))]
def HS16 (a : List Row) : List Blk := []
def DS16 (N : List Row → SV × List Blk) (K : List Row → Bool) : List SV → List Blk → Option ((SV × List Blk) × Bool)
 | [(.one (.imm true 1 c0)), (.one (.clo 172 []))], [] => some (N c0, K c0)
 | _, _ => none
theorem DS16_t {N : List Row → SV × List Blk} {K : List Row → Bool} {f : Nat} (h : ∀ (a : List Row), K a = true → frzR R f (AS16 a) (HS16 a) = some (N a)) : Con f (DS16 N K) := fun _ _ _ e => by
 unfold DS16 at e
 split at e
 ·exact dsf e (h _)
 ·cases e
structure V227v1_0 where
 mk ::
 (s0 : List Row)
 (s7 : Int)
 (s8 : Int)
def N227v1_0 (v : V227v1_0) : Pt (Option V227v1_0) := (.ok true (.br (ltI v.s8 v.s7) (.ok true (.ok ((inRow [.int .i64] v.s0 v.s8) && ((k172 (intAt v.s0 (Int.toNat v.s8) 0)) && true)) (.br (g172 (intAt v.s0 (Int.toNat v.s8) 0)) (.ok true (.leaf none)) (.ok true (.ok true (.leaf (some { v with s8 := (addI v.s8 1) }))))))) (.leaf none)))
def s227v1_0 (v : V227v1_0) : St := ⟨[(0, (.one (.imm true 1 v.s0))), (1, (.one (.clo 172 []))), (7, (.one (li v.s7))), (8, (.one (li v.s8)))], []⟩
def u227v1_0 : St → Option (V227v1_0 × Bool)
 | ⟨[(0, (.one (.imm true 1 c0))), (1, (.one (.clo 172 []))), (7, (.one (li c1))), (8, (.one (li c2)))], []⟩ => some ((V227v1_0.mk c0 c1 c2), true)
 | _ => none
def ev227v1_0 : St → Option (Pt Out) := evp Q172 [(14, K0), (15, K0)] [] true [] 0 2097152 F227b0
theorem hN227v1_0 (v : V227v1_0) : ((ev227v1_0 (s227v1_0 v)).bind (stpT true false 0 [0, 1, 7, 8])) = some ((N227v1_0 v).map (Option.map s227v1_0)) := by kernel_rfl
theorem hu227v1_0 (σ : St) (v : V227v1_0) (h : u227v1_0 σ = some (v, true)) : σ = s227v1_0 v := by
 unfold u227v1_0 at h
 split at h
 ·obtain ⟨hr, hk⟩ := qp (qi h)
  rw [← hr]
  rfl
 ·simp at h
theorem lt227v1_0 : TellsP (lqP true false 0 [0, 1, 7, 8] ev227v1_0 u227v1_0 s227v1_0 N227v1_0 2097152) (evc R 0 2097152 (.loop [0, 1, 7, 8] F227b0)) := lqP_tells (evp_tells Q172_ok (loops_of (l := []) (by kernel_rfl) trivial)) hu227v1_0 hN227v1_0
def lq227v1_0 : Lp   := (9, lqP true false 0 [0, 1, 7, 8] ev227v1_0 u227v1_0 s227v1_0 N227v1_0 2097152) :: []
def w227v1_0 (v : V227v1_0) : V227v1_0 := (hid (loopV N227v1_0 2097152 v)).getD v
def i227v1_0 (v : V227v1_0) : Bool := (hid (loopV N227v1_0 2097152 v)).isSome
section
variable (a : List Row)
def y227v1_0 : V227v1_0 := (w227v1_0 (V227v1_0.mk a (lenI a) 0))
end
def T227v1 (a : List Row) : Pt (Int) := (.ok true (.ok true (.ok true (.ok true (.ok (i227v1_0 (V227v1_0.mk a (lenI a) 0)) (.br (ltI (y227v1_0 a).s8 (y227v1_0 a).s7) (.ok true (.leaf (y227v1_0 a).s8)) (.ok true (.ok true (.leaf (-1))))))))))
def g227v1 (a : List Row) : Int := hid (T227v1 a).val
def k227v1 (a : List Row) : Bool := hid (T227v1 a).okv
def q227v1 := DS16 (fun a => n227 a (g227v1 a)) k227v1
theorem hL227v1 : Loops (fun live x => TellsP (lpAt lq227v1_0 (tagC x)) (evc R 0 2097152 (.loop live x))) F227.body := (loops_of (l := [([0, 1, 7, 8], F227b0)]) (by kernel_rfl) ⟨tellsAt (n := 9) (by kernel_rfl) fun σ σr t h ho hl => lt227v1_0 σ σr t h ho hl, trivial⟩)
theorem t227v1 : Con 227 q227v1 := DS16_t fun a hk => tcl at227 Q172_ok hL227v1 [(14, K0), (15, K0)] [] true (T227v1 a) (n227 a) hk
def Q227v1 := qcons 227 q227v1 Q172
theorem Q227v1_ok : QO Q227v1 := qcons_ok t227v1 Q172_ok
def T171v1 (a : List Row) : Pt (Bool) := (.ok true (.ok ((k227v1 a) && true) (.ok true (.leaf (geI (g227v1 a) 0)))))
def g171v1 (a : List Row) : Bool := hid (T171v1 a).val
def k171v1 (a : List Row) : Bool := hid (T171v1 a).okv
def q171v1 := DS16 (fun a => n164 a (g171v1 a)) k171v1
theorem t171v1 : Con 171 q171v1 := DS16_t fun a hk => tc at171 Q227v1_ok [] [] true (T171v1 a) (n164 a) hk
def Q171v1 := qcons 171 q171v1 Q227v1
theorem Q171v1_ok : QO Q171v1 := qcons_ok t171v1 Q227v1_ok
def T187 (a : Int) : Pt (Bool) := (.ok true (.ok true (.ok true (.ok true (.leaf (bif (eqI a 1) then true else (eqI a 2)))))))
def g187 (a : Int) : Bool := hid (T187 a).val
def k187 (a : Int) : Bool := hid (T187 a).okv
def q187 := DS2 (fun a => n240 a (g187 a)) k187
theorem t187 : Con 100187 q187 := DS2_t fun a hk => tz at187 Q171v1_ok [] [] true (T187 a) (n240 a) hk
def Q187 := qcons 100187 q187 Q171v1
theorem Q187_ok : QO Q187 := qcons_ok t187 Q171v1_ok
def T262 (a : Int) : Pt (Int) := (.ok true (.ok ((leI 0 (mulI 8 a)) && true) (.ok true (.ok true (.leaf (shlI 1 (mulI 8 a)))))))
def g262 (a : Int) : Int := hid (T262 a).val
def k262 (a : Int) : Bool := hid (T262 a).okv
def n262 (a : Int) (r : Int) : SV × List Blk := ((.one (li r)), [])
def q262 := DS2 (fun a => n262 a (g262 a)) k262
theorem t262 : Con 100262 q262 := DS2_t fun a hk => tz at262 Q187_ok [] [] true (T262 a) (n262 a) hk
def Q262 := qcons 100262 q262 Q187
theorem Q262_ok : QO Q262 := qcons_ok t262 Q187_ok
def AS17 (a : Int) (b : Int) : List SV := [(.one (li a)), (.one (li b))]
def HS17 (a : Int) (b : Int) : List Blk := []
def DS17 (N : Int → Int → SV × List Blk) (K : Int → Int → Bool) : List SV → List Blk → Option ((SV × List Blk) × Bool)
 | [(.one (li c0)), (.one (li c1))], [] => some (N c0 c1, K c0 c1)
 | _, _ => none
theorem DS17_t {N : Int → Int → SV × List Blk} {K : Int → Int → Bool} {f : Nat} (h : ∀ (a : Int) (b : Int), K a b = true → frzR R f (AS17 a b) (HS17 a b) = some (N a b)) : Con f (DS17 N K) := fun _ _ _ e => by
 unfold DS17 at e
 split at e
 ·exact dsf e (h _ _)
 ·cases e
def T229 (a : Int) (b : Int) : Pt (Bool) := (.ok true (.ok ((k187 a) && ((((k262 a) && ((k106 b 0 (subI (g262 a) 1)) && true)) || (!(g187 a))) && true)) (.ok true (.ok true (.leaf (bif (g187 a) then (g106 b 0 (subI (g262 a) 1)) else false))))))
def g229 (a : Int) (b : Int) : Bool := hid (T229 a b).val
def k229 (a : Int) (b : Int) : Bool := hid (T229 a b).okv
def n229 (a : Int) (b : Int) (r : Bool) : SV × List Blk := ((.one (.lit (.bool r))), [])
def q229 := DS17 (fun a b => n229 a b (g229 a b)) k229
theorem t229 : Con 100229 q229 := DS17_t fun a b hk => tz at229 Q262_ok [] [] true (T229 a b) (n229 a b) hk
def Q229 := qcons 100229 q229 Q262
theorem Q229_ok : QO Q229 := qcons_ok t229 Q262_ok
def AS18 (a : GAccess) : List SV := [(.agg [li a.Kind, li a.Size, li a.Addr, li a.Value, li a.Code])]
def HS18 (a : GAccess) : List Blk := []
def DS18 (N : GAccess → SV × List Blk) (K : GAccess → Bool) : List SV → List Blk → Option ((SV × List Blk) × Bool)
 | [(.agg [li c0, li c1, li c2, li c3, li c4])], [] => some (N (GAccess.mk c0 c1 c2 c3 c4), K (GAccess.mk c0 c1 c2 c3 c4))
 | _, _ => none
theorem DS18_t {N : GAccess → SV × List Blk} {K : GAccess → Bool} {f : Nat} (h : ∀ (a : GAccess), K a = true → frzR R f (AS18 a) (HS18 a) = some (N a)) : Con f (DS18 N K) := fun _ _ _ e => by
 unfold DS18 at e
 split at e
 ·exact dsf e (h _)
 ·cases e
section
variable (a : GAccess)
def y175_0 : Bool := (bif (g106 a.Kind 1 3) then (g73 a.Addr) else false)
def y175_1 : Bool := (bif (y175_0 a) then (g229 a.Size a.Value) else false)
end
def T175 (a : GAccess) : Pt (Bool) := (.ok true (.ok ((k106 a.Kind 1 3) && ((((k73 a.Addr) && true) || (!(g106 a.Kind 1 3))) && ((((k229 a.Size a.Value) && true) || (!(y175_0 a))) && ((((k106 a.Code 0 3) && true) || (!(y175_1 a))) && true)))) (.ok true (.ok true (.leaf (bif (bif (y175_1 a) then (g106 a.Code 0 3) else false) then (!(bif (eqI a.Kind 3) then (eqI a.Code 0) else false)) else false))))))
def g175 (a : GAccess) : Bool := hid (T175 a).val
def k175 (a : GAccess) : Bool := hid (T175 a).okv
def n175 (a : GAccess) (r : Bool) : SV × List Blk := ((.one (.lit (.bool r))), [])
def q175 := DS18 (fun a => n175 a (g175 a)) k175
theorem t175 : Con 100175 q175 := DS18_t fun a hk => tz at175 Q229_ok [(4, K0), (8, K0), (13, K0), (15, K0), (20, K0), (25, K0), (29, K0)] [] true (T175 a) (n175 a) hk
def Q175 := qcons 100175 q175 Q229
theorem Q175_ok : QO Q175 := qcons_ok t175 Q229_ok
def K9 : List Kd := [.int .i64, .int .i64, .int .i64, .int .i64, .int .i64]
def T174 (a : GAccess) : Pt (Bool) := (.ok true (.ok ((k175 a) && true) (.ok true (.leaf (!(g175 a))))))
def g174 (a : GAccess) : Bool := hid (T174 a).val
def k174 (a : GAccess) : Bool := hid (T174 a).okv
def q174 := DS18 (fun a => n175 a (g174 a)) k174
theorem t174 : Con 174 q174 := DS18_t fun a hk => tc at174 Q175_ok [(3, K9)] [] true (T174 a) (n175 a) hk
def Q174 := qcons 174 q174 Q175
theorem Q174_ok : QO Q174 := qcons_ok t174 Q175_ok
def AS19 (a : List Row) : List SV := [(.one (.imm true 5 a)), (.one (.clo 174 []))]
def HS19 (a : List Row) : List Blk := []
def DS19 (N : List Row → SV × List Blk) (K : List Row → Bool) : List SV → List Blk → Option ((SV × List Blk) × Bool)
 | [(.one (.imm true 5 c0)), (.one (.clo 174 []))], [] => some (N c0, K c0)
 | _, _ => none
theorem DS19_t {N : List Row → SV × List Blk} {K : List Row → Bool} {f : Nat} (h : ∀ (a : List Row), K a = true → frzR R f (AS19 a) (HS19 a) = some (N a)) : Con f (DS19 N K) := fun _ _ _ e => by
 unfold DS19 at e
 split at e
 ·exact dsf e (h _)
 ·cases e
structure V228_0 where
 mk ::
 (s0 : List Row)
 (s7 : Int)
 (s8 : Int)
def N228_0 (v : V228_0) : Pt (Option V228_0) := (.ok true (.br (ltI v.s8 v.s7) (.ok true (.ok ((inRow [.int .i64, .int .i64, .int .i64, .int .i64, .int .i64] v.s0 v.s8) && ((k174 (GAccess.at v.s0 (Int.toNat v.s8) 0)) && true)) (.br (g174 (GAccess.at v.s0 (Int.toNat v.s8) 0)) (.ok true (.leaf none)) (.ok true (.ok true (.leaf (some { v with s8 := (addI v.s8 1) }))))))) (.leaf none)))
def s228_0 (v : V228_0) : St := ⟨[(0, (.one (.imm true 5 v.s0))), (1, (.one (.clo 174 []))), (7, (.one (li v.s7))), (8, (.one (li v.s8)))], []⟩
def u228_0 : St → Option (V228_0 × Bool)
 | ⟨[(0, (.one (.imm true 5 c0))), (1, (.one (.clo 174 []))), (7, (.one (li c1))), (8, (.one (li c2)))], []⟩ => some ((V228_0.mk c0 c1 c2), true)
 | _ => none
def ev228_0 : St → Option (Pt Out) := evp Q174 [(14, K9), (15, K9)] [] true [] 0 2097152 F228b0
theorem hN228_0 (v : V228_0) : ((ev228_0 (s228_0 v)).bind (stpT true false 0 [0, 1, 7, 8])) = some ((N228_0 v).map (Option.map s228_0)) := by kernel_rfl
theorem hu228_0 (σ : St) (v : V228_0) (h : u228_0 σ = some (v, true)) : σ = s228_0 v := by
 unfold u228_0 at h
 split at h
 ·obtain ⟨hr, hk⟩ := qp (qi h)
  rw [← hr]
  rfl
 ·simp at h
theorem lt228_0 : TellsP (lqP true false 0 [0, 1, 7, 8] ev228_0 u228_0 s228_0 N228_0 2097152) (evc R 0 2097152 (.loop [0, 1, 7, 8] F228b0)) := lqP_tells (evp_tells Q174_ok (loops_of (l := []) (by kernel_rfl) trivial)) hu228_0 hN228_0
def lq228_0 : Lp   := (9, lqP true false 0 [0, 1, 7, 8] ev228_0 u228_0 s228_0 N228_0 2097152) :: []
def w228_0 (v : V228_0) : V228_0 := (hid (loopV N228_0 2097152 v)).getD v
def i228_0 (v : V228_0) : Bool := (hid (loopV N228_0 2097152 v)).isSome
section
variable (a : List Row)
def y228_0 : V228_0 := (w228_0 (V228_0.mk a (lenI a) 0))
end
def T228 (a : List Row) : Pt (Int) := (.ok true (.ok true (.ok true (.ok true (.ok (i228_0 (V228_0.mk a (lenI a) 0)) (.br (ltI (y228_0 a).s8 (y228_0 a).s7) (.ok true (.leaf (y228_0 a).s8)) (.ok true (.ok true (.leaf (-1))))))))))
def g228 (a : List Row) : Int := hid (T228 a).val
def k228 (a : List Row) : Bool := hid (T228 a).okv
def q228 := DS19 (fun a => n227 a (g228 a)) k228
theorem hL228 : Loops (fun live x => TellsP (lpAt lq228_0 (tagC x)) (evc R 0 2097152 (.loop live x))) F228.body := (loops_of (l := [([0, 1, 7, 8], F228b0)]) (by kernel_rfl) ⟨tellsAt (n := 9) (by kernel_rfl) fun σ σr t h ho hl => lt228_0 σ σr t h ho hl, trivial⟩)
theorem t228 : Con 228 q228 := DS19_t fun a hk => tcl at228 Q174_ok hL228 [(14, K9), (15, K9)] [] true (T228 a) (n227 a) hk
def Q228 := qcons 228 q228 Q174
theorem Q228_ok : QO Q228 := qcons_ok t228 Q174_ok
def T173 (a : List Row) : Pt (Bool) := (.ok true (.ok ((k228 a) && true) (.ok true (.leaf (geI (g228 a) 0)))))
def g173 (a : List Row) : Bool := hid (T173 a).val
def k173 (a : List Row) : Bool := hid (T173 a).okv
def q173 := DS19 (fun a => n164 a (g173 a)) k173
theorem t173 : Con 173 q173 := DS19_t fun a hk => tc at173 Q228_ok [] [] true (T173 a) (n164 a) hk
def Q173 := qcons 173 q173 Q228
theorem Q173_ok : QO Q173 := qcons_ok t173 Q228_ok
def K10 : List Kd := [.imm 5]
def AS20 (a : GBus) : List SV := [(.agg [.imm true 1 a.Bytes, .imm true 5 a.Log])]
def HS20 (a : GBus) : List Blk := []
def DS20 (N : GBus → SV × List Blk) (K : GBus → Bool) : List SV → List Blk → Option ((SV × List Blk) × Bool)
 | [(.agg [.imm true 1 c0, .imm true 5 c1])], [] => some (N (GBus.mk c0 c1), K (GBus.mk c0 c1))
 | _, _ => none
theorem DS20_t {N : GBus → SV × List Blk} {K : GBus → Bool} {f : Nat} (h : ∀ (a : GBus), K a = true → frzR R f (AS20 a) (HS20 a) = some (N a)) : Con f (DS20 N K) := fun _ _ _ e => by
 unfold DS20 at e
 split at e
 ·exact dsf e (h _)
 ·cases e
section
variable (a : GBus)
def y111_0 : Bool := (bif (eqI (lenI a.Bytes) 512) then (leI (lenI a.Log) 400) else false)
def y111_1 : List Row := (bif (y111_0 a) then a.Log else a.Log)
def y111_2 : Bool := (bif (y111_0 a) then (!(g171v1 a.Bytes)) else false)
end
def T111 (a : GBus) : Pt (Bool) := (.ok true (.ok ((((k171v1 a.Bytes) && true) || (!(y111_0 a))) && ((((k173 (y111_1 a)) && true) || (!(y111_2 a))) && true)) (.ok true (.ok true (.leaf (bif (y111_2 a) then (!(g173 (y111_1 a))) else false))))))
def g111 (a : GBus) : Bool := hid (T111 a).val
def k111 (a : GBus) : Bool := hid (T111 a).okv
def n111 (a : GBus) (r : Bool) : SV × List Blk := ((.one (.lit (.bool r))), [])
def q111 := DS20 (fun a => n111 a (g111 a)) k111
theorem t111 : Con 100111 q111 := DS20_t fun a hk => tz at111 Q173_ok [(4, K1), (9, K10), (15, K1), (21, K10)] [] true (T111 a) (n111 a) hk
def Q111 := qcons 100111 q111 Q173
theorem Q111_ok : QO Q111 := qcons_ok t111 Q173_ok
def K11 : List Kd := [.bool]
def AS21 (a : GCpu) : List SV := [(.agg [.imm true 1 a.R.D, .imm true 1 a.R.A, li a.R.Other, li a.R.PC, li a.R.Flags, li a.R.Mask, .lit (.bool a.R.Super), .lit (.bool a.R.Trace), .imm true 1 a.Bus.Bytes, .imm true 5 a.Bus.Log, .lit (.bool a.Stop), .lit (.bool a.Halt)])]
def HS21 (a : GCpu) : List Blk := []
def DS21 (N : GCpu → SV × List Blk) (K : GCpu → Bool) : List SV → List Blk → Option ((SV × List Blk) × Bool)
 | [(.agg [.imm true 1 c0, .imm true 1 c1, li c2, li c3, li c4, li c5, .lit (.bool c6), .lit (.bool c7), .imm true 1 c8, .imm true 5 c9, .lit (.bool c10), .lit (.bool c11)])], [] => some (N (GCpu.mk (GRegs.mk c0 c1 c2 c3 c4 c5 c6 c7) (GBus.mk c8 c9) c10 c11), K (GCpu.mk (GRegs.mk c0 c1 c2 c3 c4 c5 c6 c7) (GBus.mk c8 c9) c10 c11))
 | _, _ => none
theorem DS21_t {N : GCpu → SV × List Blk} {K : GCpu → Bool} {f : Nat} (h : ∀ (a : GCpu), K a = true → frzR R f (AS21 a) (HS21 a) = some (N a)) : Con f (DS21 N K) := fun _ _ _ e => by
 unfold DS21 at e
 split at e
 ·exact dsf e (h _)
 ·cases e
def T30 (a : GCpu) : Pt (Bool) := (.ok true (.ok ((k110 a.R) && ((((k111 a.Bus) && true) || (!(g110 a.R))) && true)) (.ok true (.ok true (.leaf (bif (bif (g110 a.R) then (g111 a.Bus) else false) then (!(bif a.Stop then a.Halt else false)) else false))))))
def g30 (a : GCpu) : Bool := hid (T30 a).val
def k30 (a : GCpu) : Bool := hid (T30 a).okv
def n30 (a : GCpu) (r : Bool) : SV × List Blk := ((.one (.lit (.bool r))), [])
def q30 := DS21 (fun a => n30 a (g30 a)) k30
theorem t30 : Con 100030 q30 := DS21_t fun a hk => tz at30 Q111_ok [(4, K6), (8, K7), (13, K11), (16, K11)] [] true (T30 a) (n30 a) hk
def Q30 := qcons 100030 q30 Q111
theorem Q30_ok : QO Q30 := qcons_ok t30 Q111_ok
def q203 : List SV → List Blk → Option ((SV × List Blk) × Bool)
 | [.one (.imm p 1 rows)], [] => some ((SV.one (T.sl 0 0 (ln rows)), [Blk.lst 1 rows]), decide (ln rows * 8 ≤ room))
 | _, _ => none
theorem t203 (args : List SV) (hp : List Blk) (r : SV × List Blk) (h : q203 args hp = some (r, true)) : frzR R 203 args hp = some r := by
 rw [frz_lo (by decide)]
 unfold q203 at h
 split at h
 ·rename_i p rows
  simp only [Option.some.injEq, Prod.mk.injEq, decide_eq_true_eq] at h
  obtain ⟨rfl, h⟩ := h
  refine run_ext no203 ?_
  have h' : ln rows ≤ room := by omega
  simp [clones, extOf, cloneE, h, h']
 ·simp at h
noncomputable def Q203 : Qt := qcons 203 q203 Q30
theorem Q203_ok : QOk (frzR R) Q203 := qcons_ok t203 Q30_ok
def AS22 (a : GRegs) (p0 : Bool) (p1 : Bool) : List SV := [(.agg [.imm p0 1 a.D, .imm p1 1 a.A, li a.Other, li a.PC, li a.Flags, li a.Mask, .lit (.bool a.Super), .lit (.bool a.Trace)])]
def HS22 (a : GRegs) (p0 : Bool) (p1 : Bool) : List Blk := []
def DS22 (N : GRegs → SV × List Blk) (K : GRegs → Bool) : List SV → List Blk → Option ((SV × List Blk) × Bool)
 | [(.agg [.imm p0 1 c0, .imm p1 1 c1, li c2, li c3, li c4, li c5, .lit (.bool c6), .lit (.bool c7)])], [] => some (N (GRegs.mk c0 c1 c2 c3 c4 c5 c6 c7), K (GRegs.mk c0 c1 c2 c3 c4 c5 c6 c7))
 | _, _ => none
theorem DS22_t {N : GRegs → SV × List Blk} {K : GRegs → Bool} {f : Nat} (h : ∀ (a : GRegs) (p0 : Bool) (p1 : Bool), K a = true → frzR R f (AS22 a p0 p1) (HS22 a p0 p1) = some (N a)) : Con f (DS22 N K) := fun _ _ _ e => by
 unfold DS22 at e
 split at e
 ·exact dsf e (h _ _ _)
 ·cases e
section
variable (a : GRegs)
def y151_0 : Bool := (((leN (mulN (ln a.D) 8) 140737488355328) && ((leN (mulN (ln a.A) 8) 140737488355328) && true)) && true)
def y151_1 : Bool := (((same (α := Nat) (ln a.D) (ln a.D)) && ((same (α := Nat) (ln a.A) (ln a.A)) && ((same (α := Int) a.Other a.Other) && ((same (α := Int) a.PC a.PC) && ((same (α := Int) a.Flags a.Flags) && ((same (α := Int) a.Mask a.Mask) && ((same (α := Bool) a.Super a.Super) && ((same (α := Bool) a.Trace a.Trace) && true)))))))) && (((same (α := Int) 0 0) && ((same (α := Int) 0 0) && ((same (α := Int) 0 0) && ((same (α := Int) 0 0) && ((same (α := Bool) false false) && ((same (α := Bool) false false) && true)))))) && ((sameR a.D a.D) && ((sameR a.A a.A) && true))))
def y151_2 : Bool := ((eqN (ln a.D) (ln a.D)) && ((eqN (ln a.A) (ln a.A)) && true))
end
def T151 (a : GRegs) : Pt (GRegs) := (.ok true (.ok ((y151_0 a) && ((y151_0 a) && (y151_1 a))) (.ok true (.ok ((y151_2 a) && ((y151_2 a) && true)) (.leaf a)))))
def g151 (a : GRegs) : GRegs := hid (T151 a).val
def k151 (a : GRegs) : Bool := hid (T151 a).okv
def n151 (a : GRegs) (r : GRegs) : SV × List Blk := ((.agg [.sl 0 0 (ln r.D), .sl 1 0 (ln r.A), li r.Other, li r.PC, li r.Flags, li r.Mask, .lit (.bool r.Super), .lit (.bool r.Trace)]), [.lst 1 r.D, .lst 1 r.A])
def q151 := DS22 (fun a => n151 a (g151 a)) k151
theorem t151 : Con 151 q151 := DS22_t fun a p0 p1 hk => tc at151 Q203_ok [(4, K1), (7, K1), (11, K6)] [] true (T151 a) (n151 a) hk
def Q151 := qcons 151 q151 Q203
theorem Q151_ok : QO Q151 := qcons_ok t151 Q203_ok
def q204 : List SV → List Blk → Option ((SV × List Blk) × Bool)
 | [.one (.imm p 5 rows)], [] => some ((SV.one (T.sl 0 0 (ln rows)), [Blk.lst 5 rows]), decide (ln rows * 40 ≤ room))
 | _, _ => none
theorem t204 (args : List SV) (hp : List Blk) (r : SV × List Blk) (h : q204 args hp = some (r, true)) : frzR R 204 args hp = some r := by
 rw [frz_lo (by decide)]
 unfold q204 at h
 split at h
 ·rename_i p rows
  simp only [Option.some.injEq, Prod.mk.injEq, decide_eq_true_eq] at h
  obtain ⟨rfl, h⟩ := h
  refine run_ext no204 ?_
  have h' : ln rows ≤ room := by omega
  simp [clones, extOf, cloneE, h, h']
 ·simp at h
noncomputable def Q204 : Qt := qcons 204 q204 Q151
theorem Q204_ok : QOk (frzR R) Q204 := qcons_ok t204 Q151_ok
section
variable (a : GBus)
def y152_0 : Bool := (((leN (mulN (ln a.Bytes) 8) 140737488355328) && ((leN (mulN (ln a.Log) 40) 140737488355328) && true)) && true)
def y152_1 : Bool := ((eqN (ln a.Bytes) (ln a.Bytes)) && ((eqN (ln a.Log) (ln a.Log)) && true))
end
def T152 (a : GBus) : Pt (GBus) := (.ok true (.ok ((y152_0 a) && ((y152_0 a) && ((((same (α := Bool) true true) && (sameR a.Bytes a.Bytes)) && (((same (α := Bool) true true) && (sameR a.Log a.Log)) && true)) && (((same (α := Nat) (ln a.Bytes) (ln a.Bytes)) && ((same (α := Nat) (ln a.Log) (ln a.Log)) && true)) && ((sameR a.Bytes a.Bytes) && ((sameR a.Log a.Log) && true)))))) (.ok ((y152_1 a) && ((y152_1 a) && true)) (.leaf a))))
def g152 (a : GBus) : GBus := hid (T152 a).val
def k152 (a : GBus) : Bool := hid (T152 a).okv
def n152 (a : GBus) (r : GBus) : SV × List Blk := ((.agg [.sl 0 0 (ln r.Bytes), .sl 1 0 (ln r.Log)]), [.lst 1 r.Bytes, .lst 5 r.Log])
def q152 := DS20 (fun a => n152 a (g152 a)) k152
theorem t152 : Con 152 q152 := DS20_t fun a hk => tc at152 Q204_ok [(4, K1), (7, K10)] [] true (T152 a) (n152 a) hk
def Q152 := qcons 152 q152 Q204
theorem Q152_ok : QO Q152 := qcons_ok t152 Q204_ok
section
variable (a : GCpu)
def y74_0 : Bool := (((k151 a.R) && ((k152 a.Bus) && true)) && true)
def y74_1 : Bool := ((same (α := Bool) a.Stop a.Stop) && ((same (α := Bool) a.Halt a.Halt) && true))
def y74_2 : Bool := ((same (α := Int) a.R.Other a.R.Other) && ((same (α := Int) a.R.PC a.R.PC) && ((same (α := Int) a.R.Flags a.R.Flags) && ((same (α := Int) a.R.Mask a.R.Mask) && ((same (α := Bool) a.R.Super a.R.Super) && ((same (α := Bool) a.R.Trace a.R.Trace) && (((same (α := Bool) true true) && (sameR a.Bus.Bytes a.Bus.Bytes)) && (((same (α := Bool) true true) && (sameR a.Bus.Log a.Bus.Log)) && (y74_1 a)))))))))
def y74_3 : Bool := ((same (α := Int) (g151 a.R).Flags (g151 a.R).Flags) && ((same (α := Int) (g151 a.R).Mask (g151 a.R).Mask) && ((same (α := Bool) (g151 a.R).Super (g151 a.R).Super) && ((same (α := Bool) (g151 a.R).Trace (g151 a.R).Trace) && ((same (α := Nat) (ln (g152 a.Bus).Bytes) (ln (g152 a.Bus).Bytes)) && ((same (α := Nat) (ln (g152 a.Bus).Log) (ln (g152 a.Bus).Log)) && (y74_1 a)))))))
def y74_4 : Bool := (((same (α := Nat) (ln (g151 a.R).D) (ln (g151 a.R).D)) && ((same (α := Nat) (ln (g151 a.R).A) (ln (g151 a.R).A)) && ((same (α := Int) (g151 a.R).Other (g151 a.R).Other) && ((same (α := Int) (g151 a.R).PC (g151 a.R).PC) && (y74_3 a))))) && ((sameR (g151 a.R).D (g151 a.R).D) && ((sameR (g151 a.R).A (g151 a.R).A) && ((sameR (g152 a.Bus).Bytes (g152 a.Bus).Bytes) && ((sameR (g152 a.Bus).Log (g152 a.Bus).Log) && true)))))
def y74_5 : Bool := ((((same (α := Bool) true true) && (sameR a.R.D a.R.D)) && (((same (α := Bool) true true) && (sameR a.R.A a.R.A)) && (y74_2 a))) && (y74_4 a))
def y74_6 : Bool := (((y74_0 a) && (((y74_0 a) && (((y74_0 a) && (((y74_0 a) && (((y74_0 a) && (((y74_0 a) && (((y74_0 a) && (((y74_0 a) && (((y74_0 a) && (((y74_0 a) && (((y74_0 a) && (((y74_0 a) && ((y74_0 a) && (y74_5 a))) && (y74_5 a))) && (y74_5 a))) && (y74_5 a))) && (y74_5 a))) && (y74_5 a))) && (y74_5 a))) && (y74_5 a))) && (y74_5 a))) && (y74_5 a))) && (y74_5 a))) && (y74_5 a))) && (y74_5 a))
def y74_7 : Bool := ((y74_0 a) && (((y74_0 a) && (((y74_0 a) && (((y74_0 a) && (((y74_0 a) && (((y74_0 a) && (((y74_0 a) && (((y74_0 a) && (((y74_0 a) && (((y74_0 a) && (((y74_0 a) && (((y74_0 a) && (((y74_0 a) && (y74_6 a)) && (y74_5 a))) && (y74_5 a))) && (y74_5 a))) && (y74_5 a))) && (y74_5 a))) && (y74_5 a))) && (y74_5 a))) && (y74_5 a))) && (y74_5 a))) && (y74_5 a))) && (y74_5 a))) && (y74_5 a)))
def y74_8 : Bool := ((eqN (ln (g151 a.R).D) (ln (g151 a.R).D)) && ((eqN (ln (g151 a.R).A) (ln (g151 a.R).A)) && ((eqN (ln (g152 a.Bus).Bytes) (ln (g152 a.Bus).Bytes)) && ((eqN (ln (g152 a.Bus).Log) (ln (g152 a.Bus).Log)) && true))))
end
def T74 (a : GCpu) : Pt (GCpu) := (.ok true (.ok ((y74_0 a) && (((y74_0 a) && (((y74_0 a) && (((y74_0 a) && ((y74_7 a) && (y74_5 a))) && (y74_5 a))) && (y74_5 a))) && (y74_5 a))) (.ok ((y74_8 a) && ((y74_8 a) && true)) (.leaf { a with R := (g151 a.R), Bus := (g152 a.Bus) }))))
def g74 (a : GCpu) : GCpu := hid (T74 a).val
def k74 (a : GCpu) : Bool := hid (T74 a).okv
def n74 (a : GCpu) (r : GCpu) : SV × List Blk := ((.agg [.sl 0 0 (ln r.R.D), .sl 1 0 (ln r.R.A), li r.R.Other, li r.R.PC, li r.R.Flags, li r.R.Mask, .lit (.bool r.R.Super), .lit (.bool r.R.Trace), .sl 2 0 (ln r.Bus.Bytes), .sl 3 0 (ln r.Bus.Log), .lit (.bool r.Stop), .lit (.bool r.Halt)]), [.lst 1 r.R.D, .lst 1 r.R.A, .lst 1 r.Bus.Bytes, .lst 5 r.Bus.Log])
def q74 := DS21 (fun a => n74 a (g74 a)) k74
theorem t74 : Con 74 q74 := DS21_t fun a hk => tc at74 Q152_ok [(4, K6), (7, K7), (10, K11), (12, K11)] [] true (T74 a) (n74 a) hk
def Q74 := qcons 74 q74 Q152
theorem Q74_ok : QO Q74 := qcons_ok t74 Q152_ok
def T230 (a : Int) : Pt (Int) := (.ok true (.ok ((k106 a 448 495) && true) (.br (bif (g106 a 448 495) then true else (geI a 512)) (.ok true (.ok true (.ok true (.leaf 1)))) (.ok ((k106 a 384 447) && true) (.br (g106 a 384 447) (.ok true (.ok true (.ok true (.leaf 3)))) (.ok true (.ok true (.ok true (.leaf 0)))))))))
def g230 (a : Int) : Int := hid (T230 a).val
def k230 (a : Int) : Bool := hid (T230 a).okv
def q230 := DS2 (fun a => n262 a (g230 a)) k230
theorem t230 : Con 100230 q230 := DS2_t fun a hk => tz at230 Q74_ok [] [] true (T230 a) (n262 a) hk
def Q230 := qcons 100230 q230 Q74
theorem Q230_ok : QO Q230 := qcons_ok t230 Q74_ok
section
variable (b : Int) (c : Int)
def y176_0 : Int := (g230 (subI (addI c b) 1))
end
def T176 (a : Int) (b : Int) (c : Int) : Pt (Int) := (.ok true (.ok true (.br (bif (eqI b 2) then (eqI (remI c 2) 1) else false) (.ok true (.ok true (.ok true (.leaf 2)))) (.ok ((k230 c) && ((k230 (subI (addI c b) 1)) && true)) (.ok true (.br (bif (eqI (g230 c) 1) then true else (eqI (y176_0 b c) 1)) (.ok true (.ok true (.ok true (.leaf 1)))) (.ok true (.br (bif (eqI a 2) then (bif (eqI (g230 c) 3) then true else (eqI (y176_0 b c) 3)) else false) (.ok true (.ok true (.ok true (.leaf 3)))) (.ok true (.ok true (.ok true (.leaf 0))))))))))))
def g176 (a : Int) (b : Int) (c : Int) : Int := hid (T176 a b c).val
def k176 (a : Int) (b : Int) (c : Int) : Bool := hid (T176 a b c).okv
def n176 (a : Int) (b : Int) (c : Int) (r : Int) : SV × List Blk := ((.one (li r)), [])
def q176 := DS5 (fun a b c => n176 a b c (g176 a b c)) k176
theorem t176 : Con 100176 q176 := DS5_t fun a b c hk => tz at176 Q230_ok [] [] true (T176 a b c) (n176 a b c) hk
def Q176 := qcons 100176 q176 Q230
theorem Q176_ok : QO Q176 := qcons_ok t176 Q230_ok
def AS23 (b : Int) (c : Int) (d : Int) (a : GBus) : List SV := [(.one (.ptr 0 0 0)), (.one (li b)), (.one (li c)), (.one (li d))]
def HS23 (b : Int) (c : Int) (d : Int) (a : GBus) : List Blk := [.box [.sl 1 0 (ln a.Bytes), .sl 2 0 (ln a.Log)], .lst 1 a.Bytes, .lst 5 a.Log]
def DS23 (N : Int → Int → Int → GBus → SV × List Blk) (K : Int → Int → Int → GBus → Bool) : List SV → List Blk → Option ((SV × List Blk) × Bool)
 | [(.one (.ptr 0 0 0)), (.one (li c0)), (.one (li c1)), (.one (li c2))], [.box [.sl 1 0 l1, .sl 2 0 l2], .lst 1 c_1, .lst 5 c_2] => some (N c0 c1 c2 (GBus.mk c_1 c_2), eqN l1 (ln c_1) && (eqN l2 (ln c_2) && (K c0 c1 c2 (GBus.mk c_1 c_2))))
 | _, _ => none
theorem DS23_t {N : Int → Int → Int → GBus → SV × List Blk} {K : Int → Int → Int → GBus → Bool} {f : Nat} (h : ∀ (b : Int) (c : Int) (d : Int) (a : GBus), K b c d a = true → frzR R f (AS23 b c d a) (HS23 b c d a) = some (N b c d a)) : Con f (DS23 N K) := fun args hp r e => by
 unfold DS23 at e
 split at e
 ·rename_i c0 c1 c2 l1 l2 c_1 c_2
  obtain ⟨hr, hk⟩ := qp (qi e)
  obtain ⟨d0, hk0⟩ := and_t hk
  obtain ⟨d1, hk1⟩ := and_t hk0
  obtain rfl := of_decide_eq_true d0
  obtain rfl := of_decide_eq_true d1
  rw [← hr]
  exact h c0 c1 c2 (GBus.mk c_1 c_2) hk1
 ·simp at e
section
variable (c : Int) (d : Int) (a : GBus)
def y205_0 : Bool := (((leI 0 c) && (ltI c (lenI a.Bytes))) && (((blt (0 + (Int.toNat c)) (ln a.Bytes)) && (beqN (rlen a.Bytes (0 + (Int.toNat c))) 1)) && true))
def y205_1 : List Row := (List.set a.Bytes (0 + (Int.toNat c)) (rowI (shrI d 8)))
def y205_2 : Bool := ((eqN (ln a.Log) (ln a.Log)) && true)
def y205_3 : Bool := ((eqN (ln a.Bytes) (ln a.Bytes)) && (y205_2 a))
def y205_4 : List Row := (List.set (y205_1 c d a) (0 + (Int.toNat (addI c 1))) (rowI (andI d 255)))
def y205_5 : Bool := ((eqN (ln a.Bytes) (ln (y205_4 c d a))) && (y205_2 a))
def y205_6 : List Row := (List.set a.Bytes (0 + (Int.toNat c)) (rowI (andI d 255)))
def y205_7 : Bool := ((eqN (ln a.Bytes) (ln (y205_6 c d a))) && (y205_2 a))
end
def T205 (b : Int) (c : Int) (d : Int) (a : GBus) : Pt (GBus) := (.ok true (.br (eqI b 2) (.ok (y205_0 c a) (.ok true (.ok (((leI 0 (addI c 1)) && (ltI (addI c 1) (lenI a.Bytes))) && (((blt (0 + (Int.toNat (addI c 1))) (ln (y205_1 c d a))) && (beqN (rlen (y205_1 c d a) (0 + (Int.toNat (addI c 1)))) 1)) && true)) (.ok ((((y205_3 a) && (y205_5 c d a)) && true) && ((y205_5 c d a) && true)) (.leaf { a with Bytes := (y205_4 c d a) }))))) (.ok (y205_0 c a) (.ok ((((y205_3 a) && (y205_7 c d a)) && true) && ((y205_7 c d a) && true)) (.leaf { a with Bytes := (y205_6 c d a) })))))
def g205 (b : Int) (c : Int) (d : Int) (a : GBus) : GBus := hid (T205 b c d a).val
def k205 (b : Int) (c : Int) (d : Int) (a : GBus) : Bool := hid (T205 b c d a).okv
def n205 (b : Int) (c : Int) (d : Int) (a : GBus) (r : GBus) : SV × List Blk := ((.tup []), [.box [.sl 1 0 (ln r.Bytes), .sl 2 0 (ln r.Log)], .lst 1 r.Bytes, .lst 5 r.Log])
def q205 := DS23 (fun b c d a => n205 b c d a (g205 b c d a)) k205
theorem t205 : Con 205 q205 := DS23_t fun b c d a hk => tc at205 Q176_ok [(13, K1), (17, K0), (23, K1), (27, K0), (1000001, [])] [] true (T205 b c d a) (n205 b c d a) hk
def Q205 := qcons 205 q205 Q176
theorem Q205_ok : QO Q205 := qcons_ok t205 Q176_ok
def AS24 (b : Int) (c : Int) (a : GBus) : List SV := [(.one (.ptr 0 0 0)), (.one (li b)), (.one (li c))]
def HS24 (b : Int) (c : Int) (a : GBus) : List Blk := [.box [.sl 1 0 (ln a.Bytes), .sl 2 0 (ln a.Log)], .lst 1 a.Bytes, .lst 5 a.Log]
def DS24 (N : Int → Int → GBus → SV × List Blk) (K : Int → Int → GBus → Bool) : List SV → List Blk → Option ((SV × List Blk) × Bool)
 | [(.one (.ptr 0 0 0)), (.one (li c0)), (.one (li c1))], [.box [.sl 1 0 l1, .sl 2 0 l2], .lst 1 c_1, .lst 5 c_2] => some (N c0 c1 (GBus.mk c_1 c_2), eqN l1 (ln c_1) && (eqN l2 (ln c_2) && (K c0 c1 (GBus.mk c_1 c_2))))
 | _, _ => none
theorem DS24_t {N : Int → Int → GBus → SV × List Blk} {K : Int → Int → GBus → Bool} {f : Nat} (h : ∀ (b : Int) (c : Int) (a : GBus), K b c a = true → frzR R f (AS24 b c a) (HS24 b c a) = some (N b c a)) : Con f (DS24 N K) := fun args hp r e => by
 unfold DS24 at e
 split at e
 ·rename_i c0 c1 l1 l2 c_1 c_2
  obtain ⟨hr, hk⟩ := qp (qi e)
  obtain ⟨d0, hk0⟩ := and_t hk
  obtain ⟨d1, hk1⟩ := and_t hk0
  obtain rfl := of_decide_eq_true d0
  obtain rfl := of_decide_eq_true d1
  rw [← hr]
  exact h c0 c1 (GBus.mk c_1 c_2) hk1
 ·simp at e
section
variable (c : Int) (a : GBus)
def y177_0 : Bool := (hasRow [.int .i64] a.Bytes (0 + (Int.toNat c)) 0)
def y177_1 : Bool := ((eqN (ln a.Bytes) (ln a.Bytes)) && ((eqN (ln a.Log) (ln a.Log)) && true))
end
def T177 (b : Int) (c : Int) (a : GBus) : Pt (Int) := (.ok true (.ok true (.br (eqI b 1) (.ok (((leI 0 c) && (ltI c (lenI a.Bytes))) && ((y177_0 c a) && true)) (.ok (((y177_1 a) && (y177_1 a)) && true) (.leaf (intAt a.Bytes (0 + (Int.toNat c)) 0)))) (.ok (((leI 0 c) && (ltI c (lenI a.Bytes))) && ((y177_0 c a) && (((leI 0 (addI c 1)) && (ltI (addI c 1) (lenI a.Bytes))) && ((hasRow [.int .i64] a.Bytes (0 + (Int.toNat (addI c 1))) 0) && true)))) (.ok (((y177_1 a) && (y177_1 a)) && true) (.leaf (orI (shlI (intAt a.Bytes (0 + (Int.toNat c)) 0) 8) (intAt a.Bytes (0 + (Int.toNat (addI c 1))) 0))))))))
def g177 (b : Int) (c : Int) (a : GBus) : Int := hid (T177 b c a).val
def k177 (b : Int) (c : Int) (a : GBus) : Bool := hid (T177 b c a).okv
def n177 (b : Int) (c : Int) (a : GBus) (r : Int) : SV × List Blk := ((.one (li r)), [.box [.sl 1 0 (ln a.Bytes), .sl 2 0 (ln a.Log)], .lst 1 a.Bytes, .lst 5 a.Log])
def q177 := DS24 (fun b c a => n177 b c a (g177 b c a)) k177
theorem t177 : Con 177 q177 := DS24_t fun b c a hk => tc at177 Q205_ok [(12, K1), (14, K0), (15, K0), (19, K1), (21, K0), (22, K0), (27, K1), (30, K0), (31, K0)] [] true (T177 b c a) (n177 b c a) hk
def Q177 := qcons 177 q177 Q205
theorem Q177_ok : QO Q177 := qcons_ok t177 Q205_ok
def AS25 (b : Int) (c : Int) (d : Int) (o : Int) (a : GBus) : List SV := [(.one (.ptr 0 0 0)), (.one (li b)), (.one (li c)), (.one (li d)), (.one (li o))]
def HS25 (b : Int) (c : Int) (d : Int) (o : Int) (a : GBus) : List Blk := [.box [.sl 1 0 (ln a.Bytes), .sl 2 0 (ln a.Log)], .lst 1 a.Bytes, .lst 5 a.Log]
def DS25 (N : Int → Int → Int → Int → GBus → SV × List Blk) (K : Int → Int → Int → Int → GBus → Bool) : List SV → List Blk → Option ((SV × List Blk) × Bool)
 | [(.one (.ptr 0 0 0)), (.one (li c0)), (.one (li c1)), (.one (li c2)), (.one (li c3))], [.box [.sl 1 0 l1, .sl 2 0 l2], .lst 1 c_1, .lst 5 c_2] => some (N c0 c1 c2 c3 (GBus.mk c_1 c_2), eqN l1 (ln c_1) && (eqN l2 (ln c_2) && (K c0 c1 c2 c3 (GBus.mk c_1 c_2))))
 | _, _ => none
theorem DS25_t {N : Int → Int → Int → Int → GBus → SV × List Blk} {K : Int → Int → Int → Int → GBus → Bool} {f : Nat} (h : ∀ (b : Int) (c : Int) (d : Int) (o : Int) (a : GBus), K b c d o a = true → frzR R f (AS25 b c d o a) (HS25 b c d o a) = some (N b c d o a)) : Con f (DS25 N K) := fun args hp r e => by
 unfold DS25 at e
 split at e
 ·rename_i c0 c1 c2 c3 l1 l2 c_1 c_2
  obtain ⟨hr, hk⟩ := qp (qi e)
  obtain ⟨d0, hk0⟩ := and_t hk
  obtain ⟨d1, hk1⟩ := and_t hk0
  obtain rfl := of_decide_eq_true d0
  obtain rfl := of_decide_eq_true d1
  rw [← hr]
  exact h c0 c1 c2 c3 (GBus.mk c_1 c_2) hk1
 ·simp at e
section
variable (b : Int) (c : Int) (d : Int) (o : Int) (a : GBus)
def y153_0 : Bool := ((leN (0 + (ln a.Log)) (ln a.Log)) && true)
def y153_1 : Bool := (!(bif (eqI b 3) then (eqI (g176 b c d) 0) else false))
def y153_2 : Bool := (bif (ltI (lenI a.Log) 400) then (y153_1 b c d) else false)
def y153_3 : Bool := (eqN (ln a.Log) (ln a.Log))
def y153_4 : Bool := (((y153_3 a) && ((eqN (0 + (ln a.Log)) (ln a.Log)) && ((leN (mulN ((ln a.Log) + 1) 40) 140737488355328) && (leN ((ln a.Log) + 1) 140737488355328)))) && true)
def y153_5 : Bool := (eqN (ln a.Bytes) (ln a.Bytes))
def y153_6 : List Row := (a.Log ++ [(GAccess.row (GAccess.mk b c d (bif (neI b 2) then 0 else o) (g176 b c d)))])
def y153_7 : Bool := ((y153_5 a) && ((eqN (ln (y153_6 b c d o a)) (ln (y153_6 b c d o a))) && true))
def y153_8 : Bool := ((((y153_5 a) && ((y153_3 a) && true)) && ((y153_5 a) && ((y153_3 a) && true))) && true)
def y153_9 : Nat := (0 + (ln (g205 c d o a).Log))
def y153_10 : Bool := (eqN (ln (g205 c d o a).Log) (ln (g205 c d o a).Log))
def y153_11 : Nat := ((ln (g205 c d o a).Log) + 1)
def y153_12 : Bool := (eqN (ln (g205 c d o a).Bytes) (ln (g205 c d o a).Bytes))
def y153_13 : List Row := ((g205 c d o a).Log ++ [(GAccess.row (GAccess.mk b c d (bif (neI b 2) then 0 else o) (g176 b c d)))])
def y153_14 : Bool := ((y153_12 c d o a) && ((eqN (ln (y153_13 b c d o a)) (ln (y153_13 b c d o a))) && true))
def y153_15 : Bool := ((y153_12 c d o a) && ((y153_10 c d o a) && true))
def y153_16 : List Row := (a.Log ++ [(GAccess.row (GAccess.mk b c d (g177 c d a) (g176 b c d)))])
def y153_17 : Bool := ((y153_5 a) && ((eqN (ln (y153_16 b c d a)) (ln (y153_16 b c d a))) && true))
end
def T153 (b : Int) (c : Int) (d : Int) (o : Int) (a : GBus) : Pt (GBus × Int × Int) := (.ok true (.ok ((k176 b c d) && true) (.ok true (.ok true (.ok true (.ok true (.ok true (.br (neI (g176 b c d) 0) (.ok (y153_0 a) (.br (y153_2 b c d a) (.ok (y153_4 a) (.ok true (.ok (((y153_7 b c d o a) && (y153_7 b c d o a)) && true) (.leaf ({ a with Log := (y153_6 b c d o a) }, 0, (g176 b c d)))))) (.ok true (.ok (y153_8 a) (.leaf (a, 0, (g176 b c d))))))) (.ok true (.br (eqI b 2) (.ok (((y153_8 a) && ((y153_5 a) && ((y153_3 a) && (k205 c d o a)))) && true) (.ok ((leN (y153_9 c d o a) (ln (g205 c d o a).Log)) && true) (.br (bif (ltI (lenI (g205 c d o a).Log) 400) then (y153_1 b c d) else false) (.ok (((y153_10 c d o a) && ((eqN (y153_9 c d o a) (ln (g205 c d o a).Log)) && ((leN (mulN (y153_11 c d o a) 40) 140737488355328) && (leN (y153_11 c d o a) 140737488355328)))) && true) (.ok true (.ok (((y153_14 b c d o a) && (y153_14 b c d o a)) && true) (.leaf ({ (g205 c d o a) with Log := (y153_13 b c d o a) }, 0, (g176 b c d)))))) (.ok true (.ok (((y153_15 c d o a) && (y153_15 c d o a)) && true) (.leaf ((g205 c d o a), 0, (g176 b c d)))))))) (.ok (((y153_8 a) && ((y153_5 a) && ((y153_3 a) && (k177 c d a)))) && true) (.ok true (.ok (y153_0 a) (.br (y153_2 b c d a) (.ok (y153_4 a) (.ok true (.ok (((y153_17 b c d a) && (y153_17 b c d a)) && true) (.leaf ({ a with Log := (y153_16 b c d a) }, (g177 c d a), (g176 b c d)))))) (.ok true (.ok (y153_8 a) (.leaf (a, (g177 c d a), (g176 b c d)))))))))))))))))))
def g153 (b : Int) (c : Int) (d : Int) (o : Int) (a : GBus) : GBus × Int × Int := hid (T153 b c d o a).val
def k153 (b : Int) (c : Int) (d : Int) (o : Int) (a : GBus) : Bool := hid (T153 b c d o a).okv
def n153 (b : Int) (c : Int) (d : Int) (o : Int) (a : GBus) (r : GBus × Int × Int) : SV × List Blk := ((.tup [(.one (li r.2.1)), (.one (li r.2.2))]), [.box [.sl 1 0 (ln r.1.Bytes), .sl 2 0 (ln r.1.Log)], .lst 1 r.1.Bytes, .lst 5 r.1.Log])
def q153 := DS25 (fun b c d o a => n153 b c d o a (g153 b c d o a)) k153
theorem t153 : Con 153 q153 := DS25_t fun b c d o a hk => tc at153 Q177_ok [(41, K10), (57, K10)] [] true (T153 b c d o a) (n153 b c d o a) hk
def Q153 := qcons 153 q153 Q177
theorem Q153_ok : QO Q153 := qcons_ok t153 Q177_ok
def AS26 (b : Int) (a : GCpu) : List SV := [(.one (.ptr 0 0 0)), (.one (li b))]
def HS26 (b : Int) (a : GCpu) : List Blk := [.box [.sl 1 0 (ln a.R.D), .sl 2 0 (ln a.R.A), li a.R.Other, li a.R.PC, li a.R.Flags, li a.R.Mask, .lit (.bool a.R.Super), .lit (.bool a.R.Trace), .sl 3 0 (ln a.Bus.Bytes), .sl 4 0 (ln a.Bus.Log), .lit (.bool a.Stop), .lit (.bool a.Halt)], .lst 1 a.R.D, .lst 1 a.R.A, .lst 1 a.Bus.Bytes, .lst 5 a.Bus.Log]
def DS26 (N : Int → GCpu → SV × List Blk) (K : Int → GCpu → Bool) : List SV → List Blk → Option ((SV × List Blk) × Bool)
 | [(.one (.ptr 0 0 0)), (.one (li c0))], [.box [.sl 1 0 l1, .sl 2 0 l2, li c1, li c2, li c3, li c4, .lit (.bool c5), .lit (.bool c6), .sl 3 0 l3, .sl 4 0 l4, .lit (.bool c7), .lit (.bool c8)], .lst 1 c_1, .lst 1 c_2, .lst 1 c_3, .lst 5 c_4] => some (N c0 (GCpu.mk (GRegs.mk c_1 c_2 c1 c2 c3 c4 c5 c6) (GBus.mk c_3 c_4) c7 c8), eqN l1 (ln c_1) && (eqN l2 (ln c_2) && (eqN l3 (ln c_3) && (eqN l4 (ln c_4) && (K c0 (GCpu.mk (GRegs.mk c_1 c_2 c1 c2 c3 c4 c5 c6) (GBus.mk c_3 c_4) c7 c8))))))
 | _, _ => none
theorem DS26_t {N : Int → GCpu → SV × List Blk} {K : Int → GCpu → Bool} {f : Nat} (h : ∀ (b : Int) (a : GCpu), K b a = true → frzR R f (AS26 b a) (HS26 b a) = some (N b a)) : Con f (DS26 N K) := fun args hp r e => by
 unfold DS26 at e
 split at e
 ·rename_i c0 l1 l2 c1 c2 c3 c4 c5 c6 l3 l4 c7 c8 c_1 c_2 c_3 c_4
  obtain ⟨hr, hk⟩ := qp (qi e)
  obtain ⟨d0, hk0⟩ := and_t hk
  obtain ⟨d1, hk1⟩ := and_t hk0
  obtain ⟨d2, hk2⟩ := and_t hk1
  obtain ⟨d3, hk3⟩ := and_t hk2
  obtain rfl := of_decide_eq_true d0
  obtain rfl := of_decide_eq_true d1
  obtain rfl := of_decide_eq_true d2
  obtain rfl := of_decide_eq_true d3
  rw [← hr]
  exact h c0 (GCpu.mk (GRegs.mk c_1 c_2 c1 c2 c3 c4 c5 c6) (GBus.mk c_3 c_4) c7 c8) hk3
 ·simp at e
section
variable (b : Int) (a : GCpu)
def y75_0 : Bool := (eqN (ln a.Bus.Bytes) (ln a.Bus.Bytes))
def y75_1 : Bool := (eqN (ln a.Bus.Log) (ln a.Bus.Log))
def y75_2 : GBus × Int × Int := (g153 2 2 (andI (subI (intAt a.R.A 3 0) 2) 65535) b a.Bus)
def y75_3 : Bool := (eqN (ln a.R.D) (ln a.R.D))
def y75_4 : Bool := ((eqN (ln (y75_2 b a).1.Bytes) (ln (y75_2 b a).1.Bytes)) && ((eqN (ln (y75_2 b a).1.Log) (ln (y75_2 b a).1.Log)) && true))
def y75_5 : Bool := ((y75_3 a) && ((eqN (ln a.R.A) (ln a.R.A)) && (y75_4 b a)))
def y75_6 : List Row := (List.set a.R.A 3 (rowI (andI (subI (intAt a.R.A 3 0) 2) 65535)))
def y75_7 : Bool := ((y75_3 a) && ((eqN (ln a.R.A) (ln (y75_6 a))) && (y75_4 b a)))
end
def T75 (b : Int) (a : GCpu) : Pt (GCpu × Int × Int) := (.ok true (.ok ((ltI 3 (lenI a.R.A)) && ((hasRow [.int .i64] a.R.A 3 0) && true)) (.ok ((((((y75_0 a) && ((y75_1 a) && true)) && ((y75_0 a) && ((y75_1 a) && true))) && true) && ((y75_0 a) && ((y75_1 a) && (k153 2 2 (andI (subI (intAt a.R.A 3 0) 2) 65535) b a.Bus)))) && true) (.ok true (.br (eqI (y75_2 b a).2.2 0) (.ok ((ltI 3 (lenI a.R.A)) && (((blt 3 (ln a.R.A)) && (beqN (rlen a.R.A 3) 1)) && true)) (.ok true (.ok ((((y75_5 b a) && (y75_7 b a)) && true) && ((y75_7 b a) && true)) (.leaf ({ a with R := { a.R with A := (y75_6 a) }, Bus := (y75_2 b a).1 }, (andI (subI (intAt a.R.A 3 0) 2) 65535), (y75_2 b a).2.2))))) (.ok true (.ok ((((y75_5 b a) && (y75_5 b a)) && true) && ((y75_5 b a) && true)) (.leaf ({ a with Bus := (y75_2 b a).1 }, (andI (subI (intAt a.R.A 3 0) 2) 65535), (y75_2 b a).2.2)))))))))
def g75 (b : Int) (a : GCpu) : GCpu × Int × Int := hid (T75 b a).val
def k75 (b : Int) (a : GCpu) : Bool := hid (T75 b a).okv
def n75 (b : Int) (a : GCpu) (r : GCpu × Int × Int) : SV × List Blk := ((.tup [(.one (li r.2.1)), (.one (li r.2.2))]), [.box [.sl 1 0 (ln r.1.R.D), .sl 2 0 (ln r.1.R.A), li r.1.R.Other, li r.1.R.PC, li r.1.R.Flags, li r.1.R.Mask, .lit (.bool r.1.R.Super), .lit (.bool r.1.R.Trace), .sl 3 0 (ln r.1.Bus.Bytes), .sl 4 0 (ln r.1.Bus.Log), .lit (.bool r.1.Stop), .lit (.bool r.1.Halt)], .lst 1 r.1.R.D, .lst 1 r.1.R.A, .lst 1 r.1.Bus.Bytes, .lst 5 r.1.Bus.Log])
def q75 := DS26 (fun b a => n75 b a (g75 b a)) k75
theorem t75 : Con 75 q75 := DS26_t fun b a hk => tc at75 Q153_ok [(13, K1), (14, K0), (15, K0), (33, K1), (35, K0), (1000001, [])] [] true (T75 b a) (n75 b a) hk
def Q75 := qcons 75 q75 Q153
theorem Q75_ok : QO Q75 := qcons_ok t75 Q153_ok
def AS27 (a : GCpu) (b : Int) : List SV := [(.agg [.imm true 1 a.R.D, .imm true 1 a.R.A, li a.R.Other, li a.R.PC, li a.R.Flags, li a.R.Mask, .lit (.bool a.R.Super), .lit (.bool a.R.Trace), .imm true 1 a.Bus.Bytes, .imm true 5 a.Bus.Log, .lit (.bool a.Stop), .lit (.bool a.Halt)]), (.one (li b))]
def HS27 (a : GCpu) (b : Int) : List Blk := []
def DS27 (N : GCpu → Int → SV × List Blk) (K : GCpu → Int → Bool) : List SV → List Blk → Option ((SV × List Blk) × Bool)
 | [(.agg [.imm true 1 c0, .imm true 1 c1, li c2, li c3, li c4, li c5, .lit (.bool c6), .lit (.bool c7), .imm true 1 c8, .imm true 5 c9, .lit (.bool c10), .lit (.bool c11)]), (.one (li c12))], [] => some (N (GCpu.mk (GRegs.mk c0 c1 c2 c3 c4 c5 c6 c7) (GBus.mk c8 c9) c10 c11) c12, K (GCpu.mk (GRegs.mk c0 c1 c2 c3 c4 c5 c6 c7) (GBus.mk c8 c9) c10 c11) c12)
 | _, _ => none
theorem DS27_t {N : GCpu → Int → SV × List Blk} {K : GCpu → Int → Bool} {f : Nat} (h : ∀ (a : GCpu) (b : Int), K a b = true → frzR R f (AS27 a b) (HS27 a b) = some (N a b)) : Con f (DS27 N K) := fun _ _ _ e => by
 unfold DS27 at e
 split at e
 ·exact dsf e (h _ _)
 ·cases e
section
variable (a : GCpu) (b : Int)
def y9_0 : Bool := (eqN (ln (g74 a).R.D) (ln (g74 a).R.D))
def y9_1 : Bool := (eqN (ln (g74 a).R.A) (ln (g74 a).R.A))
def y9_2 : Bool := (eqN (ln (g74 a).Bus.Bytes) (ln (g74 a).Bus.Bytes))
def y9_3 : Bool := (eqN (ln (g74 a).Bus.Log) (ln (g74 a).Bus.Log))
def y9_4 : Bool := ((y9_0 a) && ((y9_1 a) && ((y9_2 a) && ((y9_3 a) && true))))
def y9_5 : Nat := (ln (g75 b (g74 a)).1.Bus.Bytes)
def y9_6 : Nat := (ln (g75 b (g74 a)).1.Bus.Log)
def y9_7 : Bool := ((eqN (ln (g75 b (g74 a)).1.R.D) (ln (g75 b (g74 a)).1.R.D)) && ((eqN (ln (g75 b (g74 a)).1.R.A) (ln (g75 b (g74 a)).1.R.A)) && ((eqN (y9_5 a b) (y9_5 a b)) && ((eqN (y9_6 a b) (y9_6 a b)) && true))))
end
def T9 (a : GCpu) (b : Int) : Pt (GCpu × Bool × Bool) := (.ok true (.ok ((k30 a) && ((((k73 b) && true) || (!(g30 a))) && true)) (.br (bif (!(g30 a)) then true else (!(g73 b))) (.ok true (.ok true (.ok true (.leaf ((GCpu.mk (GRegs.mk [] [] 0 0 0 0 false false) (GBus.mk [] []) false false), false, false))))) (.ok ((k74 a) && true) (.ok (((((y9_4 a) && (y9_4 a)) && true) && ((y9_0 a) && ((y9_1 a) && ((y9_2 a) && ((y9_3 a) && (k75 b (g74 a))))))) && true) (.ok true (.ok ((y9_7 a b) && ((y9_7 a b) && true)) (.ok ((y9_7 a b) && true) (.leaf ((g75 b (g74 a)).1, (eqI (g75 b (g74 a)).2.2 0), true))))))))))
def g9 (a : GCpu) (b : Int) : GCpu × Bool × Bool := hid (T9 a b).val
def k9 (a : GCpu) (b : Int) : Bool := hid (T9 a b).okv
def n9 (a : GCpu) (b : Int) (r : GCpu × Bool × Bool) : SV × List Blk := ((.tup [(.agg [.imm true 1 r.1.R.D, .imm true 1 r.1.R.A, li r.1.R.Other, li r.1.R.PC, li r.1.R.Flags, li r.1.R.Mask, .lit (.bool r.1.R.Super), .lit (.bool r.1.R.Trace), .imm true 1 r.1.Bus.Bytes, .imm true 5 r.1.Bus.Log, .lit (.bool r.1.Stop), .lit (.bool r.1.Halt)]), (.one (.lit (.bool r.2.1))), (.one (.lit (.bool r.2.2)))]), [])
def q9 := DS27 (fun a b => n9 a b (g9 a b)) k9
theorem t9 : Con 100009 q9 := DS27_t fun a b hk => tz at9 Q75_ok [(10, K8), (19, K8), (26, K8)] [] true (T9 a b) (n9 a b) hk
def Q9 := qcons 100009 q9 Q75
theorem Q9_ok : QO Q9 := qcons_ok t9 Q75_ok
structure V206_0 where
 mk ::
 (s0 : List Row)
 (s5 : List Row)
 (s6 : Int)
 (s7 : Int)
def N206_0 (v : V206_0) : Pt (Option V206_0) := (.ok true (.br (ltI v.s7 v.s6) (.ok ((inRow [.int .i64] v.s5 v.s7) && true) (.ok ((k77 (intAt v.s5 (Int.toNat v.s7) 0)) && true) (.br (!(g77 (intAt v.s5 (Int.toNat v.s7) 0))) (.ok true (.leaf none)) (.ok true (.ok true (.leaf (some { v with s7 := (addI v.s7 1) }))))))) (.leaf none)))
def s206_0 (v : V206_0) : St := ⟨[(0, (.one (.imm true 1 v.s0))), (5, (.one (.imm true 1 v.s5))), (6, (.one (li v.s6))), (7, (.one (li v.s7)))], []⟩
def u206_0 : St → Option (V206_0 × Bool)
 | ⟨[(0, (.one (.imm true 1 c0))), (5, (.one (.imm true 1 c1))), (6, (.one (li c2))), (7, (.one (li c3)))], []⟩ => some ((V206_0.mk c0 c1 c2 c3), true)
 | _ => none
def ev206_0 : St → Option (Pt Out) := evp Q9 [(9, K0), (10, K0)] [] true [] 0 2097152 F206b0
theorem hN206_0 (v : V206_0) : ((ev206_0 (s206_0 v)).bind (stpT true false 0 [0, 5, 6, 7])) = some ((N206_0 v).map (Option.map s206_0)) := by kernel_rfl
theorem hu206_0 (σ : St) (v : V206_0) (h : u206_0 σ = some (v, true)) : σ = s206_0 v := by
 unfold u206_0 at h
 split at h
 ·obtain ⟨hr, hk⟩ := qp (qi h)
  rw [← hr]
  rfl
 ·simp at h
theorem lt206_0 : TellsP (lqP true false 0 [0, 5, 6, 7] ev206_0 u206_0 s206_0 N206_0 2097152) (evc R 0 2097152 (.loop [0, 5, 6, 7] F206b0)) := lqP_tells (evp_tells Q9_ok (loops_of (l := []) (by kernel_rfl) trivial)) hu206_0 hN206_0
def lq206_0 : Lp   := (8, lqP true false 0 [0, 5, 6, 7] ev206_0 u206_0 s206_0 N206_0 2097152) :: []
def w206_0 (v : V206_0) : V206_0 := (hid (loopV N206_0 2097152 v)).getD v
def i206_0 (v : V206_0) : Bool := (hid (loopV N206_0 2097152 v)).isSome
section
variable (a : List Row)
def y206_0 : V206_0 := (w206_0 (V206_0.mk a a (lenI a) 0))
end
def T206 (a : List Row) : Pt (Bool) := (.ok true (.ok true (.ok true (.ok true (.ok (i206_0 (V206_0.mk a a (lenI a) 0)) (.br (ltI (y206_0 a).s7 (y206_0 a).s6) (.ok true (.ok true (.leaf false))) (.ok true (.ok true (.ok true (.leaf (eqI (lenI (y206_0 a).s0) 4)))))))))))
def g206 (a : List Row) : Bool := hid (T206 a).val
def k206 (a : List Row) : Bool := hid (T206 a).okv
def q206 := DS13 (fun a => n164 a (g206 a)) k206
theorem hL206 : Loops (fun live x => TellsP (lpAt lq206_0 (tagC x)) (evc R 0 2097152 (.loop live x))) F206.body := (loops_of (l := [([0, 5, 6, 7], F206b0)]) (by kernel_rfl) ⟨tellsAt (n := 8) (by kernel_rfl) fun σ σr t h ho hl => lt206_0 σ σr t h ho hl, trivial⟩)
theorem t206 : Con 100206 q206 := DS13_t fun a hk => tzl at206 Q9_ok hL206 [(9, K0), (10, K0)] [] true (T206 a) (n164 a) hk
def Q206 := qcons 100206 q206 Q9
theorem Q206_ok : QO Q206 := qcons_ok t206 Q9_ok
def T207 (a : Int) : Pt (Bool) := (.ok true (.ok ((k108 a 0 31) && true) (.ok true (.ok true (.leaf (g108 a 0 31))))))
def g207 (a : Int) : Bool := hid (T207 a).val
def k207 (a : Int) : Bool := hid (T207 a).okv
def q207 := DS2 (fun a => n240 a (g207 a)) k207
theorem t207 : Con 100207 q207 := DS2_t fun a hk => tz at207 Q206_ok [] [] true (T207 a) (n240 a) hk
def Q207 := qcons 100207 q207 Q206
theorem Q207_ok : QO Q207 := qcons_ok t207 Q206_ok
section
variable (a : GRegs)
def y154_0 : Bool := (bif (g206 a.D) then (g206 a.A) else false)
def y154_1 : Bool := (bif (y154_0 a) then (g77 a.Other) else false)
def y154_2 : Bool := (bif (y154_1 a) then (g77 a.PC) else false)
def y154_3 : Bool := (bif (y154_2 a) then (g207 a.Flags) else false)
end
def T154 (a : GRegs) : Pt (Bool) := (.ok true (.ok ((k206 a.D) && ((((k206 a.A) && true) || (!(g206 a.D))) && ((((k77 a.Other) && true) || (!(y154_0 a))) && ((((k77 a.PC) && true) || (!(y154_1 a))) && ((((k207 a.Flags) && true) || (!(y154_2 a))) && ((((k108 a.Mask 0 7) && true) || (!(y154_3 a))) && true)))))) (.ok true (.ok true (.leaf (bif (y154_3 a) then (g108 a.Mask 0 7) else false))))))
def g154 (a : GRegs) : Bool := hid (T154 a).val
def k154 (a : GRegs) : Bool := hid (T154 a).okv
def q154 := DS15 (fun a => n110 a (g154 a)) k154
theorem t154 : Con 100154 q154 := DS15_t fun a hk => tz at154 Q207_ok [(4, K1), (8, K1), (13, K0), (18, K0), (23, K0), (28, K0)] [] true (T154 a) (n110 a) hk
def Q154 := qcons 100154 q154 Q207
theorem Q154_ok : QO Q154 := qcons_ok t154 Q207_ok
def T248 (a : Int) : Pt (Int) := (.ok true (.ok ((leI 0 (wrapK .u64 (mulI 8 a))) && true) (.ok true (.ok true (.leaf (shlI 1 (wrapK .u64 (mulI 8 a))))))))
def g248 (a : Int) : Int := hid (T248 a).val
def k248 (a : Int) : Bool := hid (T248 a).okv
def q248 := DS2 (fun a => n262 a (g248 a)) k248
theorem t248 : Con 100248 q248 := DS2_t fun a hk => tz at248 Q154_ok [] [] true (T248 a) (n262 a) hk
def Q248 := qcons 100248 q248 Q154
theorem Q248_ok : QO Q248 := qcons_ok t248 Q154_ok
def T246 (a : Int) (b : Int) : Pt (Bool) := (.ok true (.ok ((k190 a) && ((((k248 a) && ((k108 b 0 (subI (g248 a) 1)) && true)) || (!(g190 a))) && true)) (.ok true (.ok true (.leaf (bif (g190 a) then (g108 b 0 (subI (g248 a) 1)) else false))))))
def g246 (a : Int) (b : Int) : Bool := hid (T246 a b).val
def k246 (a : Int) (b : Int) : Bool := hid (T246 a b).okv
def q246 := DS17 (fun a b => n229 a b (g246 a b)) k246
theorem t246 : Con 100246 q246 := DS17_t fun a b hk => tz at246 Q248_ok [] [] true (T246 a b) (n229 a b) hk
def Q246 := qcons 100246 q246 Q248
theorem Q246_ok : QO Q246 := qcons_ok t246 Q248_ok
def T180 (a : Int) : Pt (Bool) := (.ok true (.ok ((k108 a 0 65535) && true) (.ok true (.ok true (.leaf (g108 a 0 65535))))))
def g180 (a : Int) : Bool := hid (T180 a).val
def k180 (a : Int) : Bool := hid (T180 a).okv
def q180 := DS2 (fun a => n240 a (g180 a)) k180
theorem t180 : Con 100180 q180 := DS2_t fun a hk => tz at180 Q246_ok [] [] true (T180 a) (n240 a) hk
def Q180 := qcons 100180 q180 Q246
theorem Q180_ok : QO Q180 := qcons_ok t180 Q246_ok
section
variable (a : GAccess)
def y208_0 : Bool := (bif (!(g108 a.Kind 1 3)) then true else (!(g246 a.Size a.Value)))
def y208_1 : Bool := (bif (y208_0 a) then true else (!(g180 a.Addr)))
end
def T208 (a : GAccess) : Pt (Bool) := (.ok true (.ok ((k108 a.Kind 1 3) && ((((k246 a.Size a.Value) && true) || (!(g108 a.Kind 1 3))) && ((((k180 a.Addr) && true) || (y208_0 a)) && ((((k108 a.Code 0 3) && true) || (y208_1 a)) && true)))) (.br (bif (y208_1 a) then true else (!(g108 a.Code 0 3))) (.ok true (.ok true (.ok true (.leaf false)))) (.ok true (.ok true (.ok true (.leaf (bif (neI a.Kind 3) then true else (neI a.Code 0)))))))))
def g208 (a : GAccess) : Bool := hid (T208 a).val
def k208 (a : GAccess) : Bool := hid (T208 a).okv
def q208 := DS18 (fun a => n175 a (g208 a)) k208
theorem t208 : Con 100208 q208 := DS18_t fun a hk => tz at208 Q180_ok [(4, K0), (9, K0), (11, K0), (17, K0), (23, K0), (28, K0), (32, K0)] [] true (T208 a) (n175 a) hk
def Q208 := qcons 100208 q208 Q180
theorem Q208_ok : QO Q208 := qcons_ok t208 Q180_ok
structure V164v1_0 where
 mk ::
 (s5 : List Row)
 (s6 : Int)
 (s7 : Int)
def N164v1_0 (v : V164v1_0) : Pt (Option V164v1_0) := (.ok true (.br (ltI v.s7 v.s6) (.ok ((inRow [.int .i64] v.s5 v.s7) && true) (.ok ((k108 (intAt v.s5 (Int.toNat v.s7) 0) 0 255) && true) (.br (!(g108 (intAt v.s5 (Int.toNat v.s7) 0) 0 255)) (.ok true (.leaf none)) (.ok true (.ok true (.leaf (some { v with s7 := (addI v.s7 1) }))))))) (.leaf none)))
def s164v1_0 (v : V164v1_0) : St := ⟨[(5, (.one (.imm true 1 v.s5))), (6, (.one (li v.s6))), (7, (.one (li v.s7)))], []⟩
def u164v1_0 : St → Option (V164v1_0 × Bool)
 | ⟨[(5, (.one (.imm true 1 c0))), (6, (.one (li c1))), (7, (.one (li c2)))], []⟩ => some ((V164v1_0.mk c0 c1 c2), true)
 | _ => none
def ev164v1_0 : St → Option (Pt Out) := evp Q208 [(9, K0), (10, K0)] [] true [] 0 2097152 F164b0
theorem hN164v1_0 (v : V164v1_0) : ((ev164v1_0 (s164v1_0 v)).bind (stpT true false 0 [5, 6, 7])) = some ((N164v1_0 v).map (Option.map s164v1_0)) := by kernel_rfl
theorem hu164v1_0 (σ : St) (v : V164v1_0) (h : u164v1_0 σ = some (v, true)) : σ = s164v1_0 v := by
 unfold u164v1_0 at h
 split at h
 ·obtain ⟨hr, hk⟩ := qp (qi h)
  rw [← hr]
  rfl
 ·simp at h
theorem lt164v1_0 : TellsP (lqP true false 0 [5, 6, 7] ev164v1_0 u164v1_0 s164v1_0 N164v1_0 2097152) (evc R 0 2097152 (.loop [5, 6, 7] F164b0)) := lqP_tells (evp_tells Q208_ok (loops_of (l := []) (by kernel_rfl) trivial)) hu164v1_0 hN164v1_0
def lq164v1_0 : Lp   := (8, lqP true false 0 [5, 6, 7] ev164v1_0 u164v1_0 s164v1_0 N164v1_0 2097152) :: []
def w164v1_0 (v : V164v1_0) : V164v1_0 := (hid (loopV N164v1_0 2097152 v)).getD v
def i164v1_0 (v : V164v1_0) : Bool := (hid (loopV N164v1_0 2097152 v)).isSome
section
variable (a : List Row)
def y164v1_0 : V164v1_0 := (w164v1_0 (V164v1_0.mk a (lenI a) 0))
end
def T164v1 (a : List Row) : Pt (Bool) := (.ok true (.ok true (.ok true (.ok true (.ok (i164v1_0 (V164v1_0.mk a (lenI a) 0)) (.br (ltI (y164v1_0 a).s7 (y164v1_0 a).s6) (.ok true (.ok true (.leaf false))) (.ok true (.ok true (.ok true (.leaf true))))))))))
def g164v1 (a : List Row) : Bool := hid (T164v1 a).val
def k164v1 (a : List Row) : Bool := hid (T164v1 a).okv
def q164v1 := DS13 (fun a => n164 a (g164v1 a)) k164v1
theorem hL164v1 : Loops (fun live x => TellsP (lpAt lq164v1_0 (tagC x)) (evc R 0 2097152 (.loop live x))) F164.body := (loops_of (l := [([5, 6, 7], F164b0)]) (by kernel_rfl) ⟨tellsAt (n := 8) (by kernel_rfl) fun σ σr t h ho hl => lt164v1_0 σ σr t h ho hl, trivial⟩)
theorem t164v1 : Con 100164 q164v1 := DS13_t fun a hk => tzl at164 Q208_ok hL164v1 [(9, K0), (10, K0)] [] true (T164v1 a) (n164 a) hk
def Q164v1 := qcons 100164 q164v1 Q208
theorem Q164v1_ok : QO Q164v1 := qcons_ok t164v1 Q208_ok
structure V155_0 where
 mk ::
 (b0 : GBus)
 (s6 : List Row)
 (s7 : Int)
 (s8 : Int)
def N155_0 (v : V155_0) : Pt (Option V155_0) := (.ok true (.br (ltI v.s8 v.s7) (.ok ((inRow [.int .i64, .int .i64, .int .i64, .int .i64, .int .i64] v.s6 v.s8) && true) (.ok ((k208 (GAccess.at v.s6 (Int.toNat v.s8) 0)) && true) (.br (!(g208 (GAccess.at v.s6 (Int.toNat v.s8) 0))) (.ok true (.leaf none)) (.ok true (.ok true (.leaf (some { v with s8 := (addI v.s8 1) }))))))) (.leaf none)))
def s155_0 (v : V155_0) : St := ⟨[(1, (.one (.ptr 0 0 0))), (6, (.one (.imm true 5 v.s6))), (7, (.one (li v.s7))), (8, (.one (li v.s8)))], [.box [.imm true 1 v.b0.Bytes, .imm true 5 v.b0.Log]]⟩
def u155_0 : St → Option (V155_0 × Bool)
 | ⟨[(1, (.one (.ptr 0 0 0))), (6, (.one (.imm true 5 c2))), (7, (.one (li c3))), (8, (.one (li c4)))], [.box [.imm true 1 c0, .imm true 5 c1]]⟩ => some ((V155_0.mk (GBus.mk c0 c1) c2 c3 c4), true)
 | _ => none
def ev155_0 : St → Option (Pt Out) := evp Q208 [(6, K10), (10, K9), (11, K9), (12, K9), (17, K1), (22, K1), (27, K10)] [] true [] 0 2097152 F155b0
theorem hN155_0 (v : V155_0) : ((ev155_0 (s155_0 v)).bind (stpT true false 0 [1, 6, 7, 8])) = some ((N155_0 v).map (Option.map s155_0)) := by kernel_rfl
theorem hu155_0 (σ : St) (v : V155_0) (h : u155_0 σ = some (v, true)) : σ = s155_0 v := by
 unfold u155_0 at h
 split at h
 ·obtain ⟨hr, hk⟩ := qp (qi h)
  rw [← hr]
  rfl
 ·simp at h
theorem lt155_0 : TellsP (lqP true false 0 [1, 6, 7, 8] ev155_0 u155_0 s155_0 N155_0 2097152) (evc R 0 2097152 (.loop [1, 6, 7, 8] F155b0)) := lqP_tells (evp_tells Q208_ok (loops_of (l := []) (by kernel_rfl) trivial)) hu155_0 hN155_0
def lq155_0 : Lp   := (9, lqP true false 0 [1, 6, 7, 8] ev155_0 u155_0 s155_0 N155_0 2097152) :: []
def w155_0 (v : V155_0) : V155_0 := (hid (loopV N155_0 2097152 v)).getD v
def i155_0 (v : V155_0) : Bool := (hid (loopV N155_0 2097152 v)).isSome
section
variable (a : GBus)
def y155_0 : V155_0 := (w155_0 (V155_0.mk a a.Log (lenI a.Log) 0))
end
def T155 (a : GBus) : Pt (Bool) := (.ok true (.ok true (.ok true (.ok true (.ok (i155_0 (V155_0.mk a a.Log (lenI a.Log) 0)) (.br (ltI (y155_0 a).s8 (y155_0 a).s7) (.ok true (.ok true (.leaf false))) (.ok ((((k164v1 (y155_0 a).b0.Bytes) && true) || (!(eqI (lenI (y155_0 a).b0.Bytes) 512))) && true) (.ok true (.ok true (.leaf (bif (bif (eqI (lenI (y155_0 a).b0.Bytes) 512) then (g164v1 (y155_0 a).b0.Bytes) else false) then (leI (lenI (y155_0 a).b0.Log) 400) else false)))))))))))
def g155 (a : GBus) : Bool := hid (T155 a).val
def k155 (a : GBus) : Bool := hid (T155 a).okv
def q155 := DS20 (fun a => n111 a (g155 a)) k155
theorem hL155 : Loops (fun live x => TellsP (lpAt lq155_0 (tagC x)) (evc R 0 2097152 (.loop live x))) F155.body := (loops_of (l := [([1, 6, 7, 8], F155b0)]) (by kernel_rfl) ⟨tellsAt (n := 9) (by kernel_rfl) fun σ σr t h ho hl => lt155_0 σ σr t h ho hl, trivial⟩)
theorem t155 : Con 100155 q155 := DS20_t fun a hk => tzl at155 Q164v1_ok hL155 [(6, K10), (10, K9), (11, K9), (12, K9), (17, K1), (22, K1), (27, K10)] [] true (T155 a) (n111 a) hk
def Q155 := qcons 100155 q155 Q164v1
theorem Q155_ok : QO Q155 := qcons_ok t155 Q164v1_ok
def T76 (a : GCpu) : Pt (Bool) := (.ok true (.ok ((k154 a.R) && ((((k155 a.Bus) && true) || (!(g154 a.R))) && true)) (.ok true (.ok true (.leaf (bif (bif (g154 a.R) then (g155 a.Bus) else false) then (!(bif a.Stop then a.Halt else false)) else false))))))
def g76 (a : GCpu) : Bool := hid (T76 a).val
def k76 (a : GCpu) : Bool := hid (T76 a).okv
def q76 := DS21 (fun a => n30 a (g76 a)) k76
theorem t76 : Con 100076 q76 := DS21_t fun a hk => tz at76 Q155_ok [(4, K6), (8, K7), (13, K11), (16, K11)] [] true (T76 a) (n30 a) hk
def Q76 := qcons 100076 q76 Q155
theorem Q76_ok : QO Q76 := qcons_ok t76 Q155_ok
section
variable (a : GRegs)
def y161_0 : Bool := ((eqN (ln a.D) (ln a.D)) && ((eqN (ln a.A) (ln a.A)) && true))
end
def T161 (a : GRegs) : Pt (GRegs) := (.ok true (.ok (((leN (mulN (0 + (ln a.D)) 8) 140737488355328) && (leN (0 + (ln a.D)) 140737488355328)) && true) (.ok (((leN (mulN (0 + (ln a.A)) 8) 140737488355328) && (leN (0 + (ln a.A)) 140737488355328)) && true) (.ok true (.ok ((y161_0 a) && ((y161_0 a) && true)) (.leaf a))))))
def g161 (a : GRegs) : GRegs := hid (T161 a).val
def k161 (a : GRegs) : Bool := hid (T161 a).okv
def q161 := DS22 (fun a => n151 a (g161 a)) k161
theorem t161 : Con 161 q161 := DS22_t fun a p0 p1 hk => tc at161 Q76_ok [(5, K1), (10, K1), (13, K6)] [] true (T161 a) (n151 a) hk
def Q161 := qcons 161 q161 Q76
theorem Q161_ok : QO Q161 := qcons_ok t161 Q76_ok
def AS28 (a : GBus) (p0 : Bool) (p1 : Bool) : List SV := [(.agg [.imm p0 1 a.Bytes, .imm p1 5 a.Log])]
def HS28 (a : GBus) (p0 : Bool) (p1 : Bool) : List Blk := []
def DS28 (N : GBus → SV × List Blk) (K : GBus → Bool) : List SV → List Blk → Option ((SV × List Blk) × Bool)
 | [(.agg [.imm p0 1 c0, .imm p1 5 c1])], [] => some (N (GBus.mk c0 c1), K (GBus.mk c0 c1))
 | _, _ => none
theorem DS28_t {N : GBus → SV × List Blk} {K : GBus → Bool} {f : Nat} (h : ∀ (a : GBus) (p0 : Bool) (p1 : Bool), K a = true → frzR R f (AS28 a p0 p1) (HS28 a p0 p1) = some (N a)) : Con f (DS28 N K) := fun _ _ _ e => by
 unfold DS28 at e
 split at e
 ·exact dsf e (h _ _ _)
 ·cases e
section
variable (a : GBus)
def y184_0 : Bool := ((eqN (ln a.Bytes) (ln a.Bytes)) && ((eqN (ln a.Log) (ln a.Log)) && true))
def y184_1 : Bool := ((((leN (mulN (0 + (ln a.Bytes)) 8) 140737488355328) && (leN (0 + (ln a.Bytes)) 140737488355328)) && (((leN (mulN (0 + (ln a.Log)) 40) 140737488355328) && (leN (0 + (ln a.Log)) 140737488355328)) && true)) && (((y184_0 a) && (y184_0 a)) && true))
def y184_2 : Bool := (((same (α := Nat) (ln a.Bytes) (ln a.Bytes)) && ((same (α := Nat) (ln a.Log) (ln a.Log)) && true)) && ((sameR a.Bytes a.Bytes) && ((sameR a.Log a.Log) && true)))
def y184_3 : Bool := (((y184_1 a) && (((y184_1 a) && (((y184_1 a) && (((y184_1 a) && (((y184_1 a) && (((y184_1 a) && (((y184_1 a) && (((y184_1 a) && (((y184_1 a) && (((y184_1 a) && (((y184_1 a) && ((y184_1 a) && (y184_2 a))) && (y184_2 a))) && (y184_2 a))) && (y184_2 a))) && (y184_2 a))) && (y184_2 a))) && (y184_2 a))) && (y184_2 a))) && (y184_2 a))) && (y184_2 a))) && (y184_2 a))) && (y184_2 a))
def y184_4 : Bool := ((y184_1 a) && (((y184_1 a) && (((y184_1 a) && (((y184_1 a) && (((y184_1 a) && (((y184_1 a) && (((y184_1 a) && (((y184_1 a) && (((y184_1 a) && (((y184_1 a) && (((y184_1 a) && (((y184_1 a) && (y184_3 a)) && (y184_2 a))) && (y184_2 a))) && (y184_2 a))) && (y184_2 a))) && (y184_2 a))) && (y184_2 a))) && (y184_2 a))) && (y184_2 a))) && (y184_2 a))) && (y184_2 a))) && (y184_2 a)))
def y184_5 : Bool := (((y184_1 a) && (((y184_1 a) && (((y184_1 a) && (((y184_1 a) && (((y184_1 a) && (((y184_1 a) && (((y184_1 a) && (((y184_1 a) && (((y184_1 a) && (((y184_1 a) && (((y184_1 a) && ((y184_4 a) && (y184_2 a))) && (y184_2 a))) && (y184_2 a))) && (y184_2 a))) && (y184_2 a))) && (y184_2 a))) && (y184_2 a))) && (y184_2 a))) && (y184_2 a))) && (y184_2 a))) && (y184_2 a))) && (y184_2 a))
end
def T184 (a : GBus) : Pt (GBus) := (.ok true (.ok ((y184_1 a) && (((y184_1 a) && (((y184_1 a) && (y184_5 a)) && (y184_2 a))) && (y184_2 a))) (.ok ((y184_0 a) && ((y184_0 a) && true)) (.leaf a))))
def g184 (a : GBus) : GBus := hid (T184 a).val
def k184 (a : GBus) : Bool := hid (T184 a).okv
def q184 := DS28 (fun a => n152 a (g184 a)) k184
theorem t184 : Con 184 q184 := DS28_t fun a p0 p1 hk => tc at184 Q161_ok [(5, K1), (9, K10)] [] true (T184 a) (n152 a) hk
def Q184 := qcons 184 q184 Q161
theorem Q184_ok : QO Q184 := qcons_ok t184 Q161_ok
def AS29 (a : GCpu) (p0 : Bool) (p1 : Bool) (p2 : Bool) (p3 : Bool) : List SV := [(.agg [.imm p0 1 a.R.D, .imm p1 1 a.R.A, li a.R.Other, li a.R.PC, li a.R.Flags, li a.R.Mask, .lit (.bool a.R.Super), .lit (.bool a.R.Trace), .imm p2 1 a.Bus.Bytes, .imm p3 5 a.Bus.Log, .lit (.bool a.Stop), .lit (.bool a.Halt)])]
def HS29 (a : GCpu) (p0 : Bool) (p1 : Bool) (p2 : Bool) (p3 : Bool) : List Blk := []
def DS29 (N : GCpu → SV × List Blk) (K : GCpu → Bool) : List SV → List Blk → Option ((SV × List Blk) × Bool)
 | [(.agg [.imm p0 1 c0, .imm p1 1 c1, li c2, li c3, li c4, li c5, .lit (.bool c6), .lit (.bool c7), .imm p2 1 c8, .imm p3 5 c9, .lit (.bool c10), .lit (.bool c11)])], [] => some (N (GCpu.mk (GRegs.mk c0 c1 c2 c3 c4 c5 c6 c7) (GBus.mk c8 c9) c10 c11), K (GCpu.mk (GRegs.mk c0 c1 c2 c3 c4 c5 c6 c7) (GBus.mk c8 c9) c10 c11))
 | _, _ => none
theorem DS29_t {N : GCpu → SV × List Blk} {K : GCpu → Bool} {f : Nat} (h : ∀ (a : GCpu) (p0 : Bool) (p1 : Bool) (p2 : Bool) (p3 : Bool), K a = true → frzR R f (AS29 a p0 p1 p2 p3) (HS29 a p0 p1 p2 p3) = some (N a)) : Con f (DS29 N K) := fun _ _ _ e => by
 unfold DS29 at e
 split at e
 ·exact dsf e (h _ _ _ _ _)
 ·cases e
section
variable (a : GCpu)
def y122_0 : Bool := ((eqN (ln (g161 a.R).D) (ln (g161 a.R).D)) && ((eqN (ln (g161 a.R).A) (ln (g161 a.R).A)) && ((eqN (ln (g184 a.Bus).Bytes) (ln (g184 a.Bus).Bytes)) && ((eqN (ln (g184 a.Bus).Log) (ln (g184 a.Bus).Log)) && true))))
end
def T122 (a : GCpu) : Pt (GCpu) := (.ok true (.ok ((k161 a.R) && true) (.ok ((k184 a.Bus) && true) (.ok true (.ok ((y122_0 a) && ((y122_0 a) && true)) (.leaf { a with R := (g161 a.R), Bus := (g184 a.Bus) }))))))
def g122 (a : GCpu) : GCpu := hid (T122 a).val
def k122 (a : GCpu) : Bool := hid (T122 a).okv
def q122 := DS29 (fun a => n74 a (g122 a)) k122
theorem t122 : Con 122 q122 := DS29_t fun a p0 p1 p2 p3 hk => tc at122 Q184_ok [(4, K6), (8, K7), (11, K8)] [] true (T122 a) (n74 a) hk
def Q122 := qcons 122 q122 Q184
theorem Q122_ok : QO Q122 := qcons_ok t122 Q184_ok
section
variable (a : GCpu)
def y78_0 : Bool := ((eqN (ln (g122 a).R.D) (ln (g122 a).R.D)) && ((eqN (ln (g122 a).R.A) (ln (g122 a).R.A)) && ((eqN (ln (g122 a).Bus.Bytes) (ln (g122 a).Bus.Bytes)) && ((eqN (ln (g122 a).Bus.Log) (ln (g122 a).Bus.Log)) && true))))
end
def T78 (a : GCpu) : Pt (Gl10M) := (.ok true (.ok ((k122 a) && true) (.ok true (.ok (((y78_0 a) && (y78_0 a)) && true) (.leaf (Gl10M.mk (g122 a).R (g122 a).Bus (g122 a).Stop (GFault.mk 0 0 0 0 false)))))))
def g78 (a : GCpu) : Gl10M := hid (T78 a).val
def k78 (a : GCpu) : Bool := hid (T78 a).okv
def n78 (a : GCpu) (r : Gl10M) : SV × List Blk := ((.one (.ptr 0 0 0)), [.box [.sl 1 0 (ln r.fr.D), .sl 2 0 (ln r.fr.A), li r.fr.Other, li r.fr.PC, li r.fr.Flags, li r.fr.Mask, .lit (.bool r.fr.Super), .lit (.bool r.fr.Trace), .sl 3 0 (ln r.fbus.Bytes), .sl 4 0 (ln r.fbus.Log), .lit (.bool r.fstop), li r.ffault.Vector, li r.ffault.PC, li r.ffault.Addr, li r.ffault.Word, .lit (.bool r.ffault.Write)], .lst 1 r.fr.D, .lst 1 r.fr.A, .lst 1 r.fbus.Bytes, .lst 5 r.fbus.Log])
def q78 := DS29 (fun a => n78 a (g78 a)) k78
theorem t78 : Con 78 q78 := DS29_t fun a p0 p1 p2 p3 hk => tc at78 Q122_ok [(4, K8), (7, K6), (9, K7), (11, K11)] [] true (T78 a) (n78 a) hk
def Q78 := qcons 78 q78 Q122
theorem Q78_ok : QO Q78 := qcons_ok t78 Q122_ok
def T231 (a : Int) : Pt (Int) := (.ok true (.ok true (.ok (((k108 a 448 495) && true) || (geI a 512)) (.br (bif (geI a 512) then (geI a 512) else (g108 a 448 495)) (.ok true (.ok true (.ok true (.leaf 1)))) (.ok ((k108 a 384 447) && true) (.br (g108 a 384 447) (.ok true (.ok true (.ok true (.leaf 3)))) (.ok true (.ok true (.ok true (.leaf 0))))))))))
def g231 (a : Int) : Int := hid (T231 a).val
def k231 (a : Int) : Bool := hid (T231 a).okv
def q231 := DS2 (fun a => n262 a (g231 a)) k231
theorem t231 : Con 100231 q231 := DS2_t fun a hk => tz at231 Q78_ok [] [] true (T231 a) (n262 a) hk
def Q231 := qcons 100231 q231 Q78
theorem Q231_ok : QO Q231 := qcons_ok t231 Q78_ok
section
variable (b : Int) (c : Int)
def y181_0 : Int := (g231 (subI (addI c b) 1))
end
def T181 (a : Int) (b : Int) (c : Int) : Pt (Int) := (.ok true (.ok true (.ok true (.br (bif (eqI b 2) then (eqI (andI c 1) 1) else false) (.ok true (.ok true (.ok true (.leaf 2)))) (.ok ((k231 c) && ((((k231 (subI (addI c b) 1)) && true) || (eqI (g231 c) 1)) && true)) (.br (bif (eqI (g231 c) 1) then true else (eqI (y181_0 b c) 1)) (.ok true (.ok true (.ok true (.leaf 1)))) (.ok ((((k231 c) && ((((k231 (subI (addI c b) 1)) && true) || (eqI (g231 c) 3)) && true)) || (!(eqI a 2))) && true) (.br (bif (eqI a 2) then (bif (eqI (g231 c) 3) then true else (eqI (y181_0 b c) 3)) else false) (.ok true (.ok true (.ok true (.leaf 3)))) (.ok true (.ok true (.ok true (.leaf 0))))))))))))
def g181 (a : Int) (b : Int) (c : Int) : Int := hid (T181 a b c).val
def k181 (a : Int) (b : Int) (c : Int) : Bool := hid (T181 a b c).okv
def q181 := DS5 (fun a b c => n176 a b c (g181 a b c)) k181
theorem t181 : Con 100181 q181 := DS5_t fun a b c hk => tz at181 Q231_ok [] [] true (T181 a b c) (n176 a b c) hk
def Q181 := qcons 100181 q181 Q231
theorem Q181_ok : QO Q181 := qcons_ok t181 Q231_ok
structure V209_0 where
 mk ::
 (b0 : GBus)
 (s1 : Int)
 (s2 : Int)
 (s3 : Int)
 (s4 : Int)
 (s12 : Int)
 (s13 : Int)
 (s14 : Int)
section
variable (v : V209_0)
def y209_0_l_0 : Int := (wrapK .u64 (mulI 8 (subI (subI v.s2 1) v.s14)))
def y209_0_l_1 : Bool := ((leI 0 (addI v.s3 v.s14)) && (ltI (addI v.s3 v.s14) (lenI v.b0.Bytes)))
def y209_0_l_2 : Bool := ((eqN (ln v.b0.Log) (ln v.b0.Log)) && true)
def y209_0_l_3 : Bool := ((eqN (ln v.b0.Bytes) (ln v.b0.Bytes)) && (y209_0_l_2 v))
def y209_0_l_4 : List Row := (List.set v.b0.Bytes (0 + (Int.toNat (addI v.s3 v.s14))) (rowI (andI (shrI v.s4 (y209_0_l_0 v)) 255)))
def y209_0_l_5 : Bool := ((eqN (ln v.b0.Bytes) (ln (y209_0_l_4 v))) && (y209_0_l_2 v))
end
def N209_0 (v : V209_0) : Pt (Option V209_0) := (.ok true (.br (ltI v.s14 v.s2) (.ok true (.br (eqI v.s1 2) (.ok ((leI 0 (y209_0_l_0 v)) && ((y209_0_l_1 v) && (((blt (0 + (Int.toNat (addI v.s3 v.s14))) (ln v.b0.Bytes)) && (beqN (rlen v.b0.Bytes (0 + (Int.toNat (addI v.s3 v.s14)))) 1)) && true))) (.ok true (.ok ((((y209_0_l_3 v) && (y209_0_l_5 v)) && true) && ((y209_0_l_5 v) && true)) (.leaf (some { v with b0 := { v.b0 with Bytes := (y209_0_l_4 v) }, s14 := (addI v.s14 1) }))))) (.ok ((y209_0_l_1 v) && ((hasRow [.int .i64] v.b0.Bytes (0 + (Int.toNat (addI v.s3 v.s14))) 0) && true)) (.ok true (.ok ((((y209_0_l_3 v) && (y209_0_l_3 v)) && true) && ((y209_0_l_3 v) && true)) (.leaf (some { v with s13 := (orI (shlI v.s13 8) (intAt v.b0.Bytes (0 + (Int.toNat (addI v.s3 v.s14))) 0)), s14 := (addI v.s14 1) }))))))) (.leaf none)))
def s209_0 (v : V209_0) : St := ⟨[(0, (.one (.ptr 0 0 0))), (1, (.one (li v.s1))), (2, (.one (li v.s2))), (3, (.one (li v.s3))), (4, (.one (li v.s4))), (12, (.one (li v.s12))), (13, (.one (li v.s13))), (14, (.one (li v.s14)))], [.box [.sl 1 0 (ln v.b0.Bytes), .sl 2 0 (ln v.b0.Log)], .lst 1 v.b0.Bytes, .lst 5 v.b0.Log]⟩
def u209_0 : St → Option (V209_0 × Bool)
 | ⟨[(0, (.one (.ptr 0 0 0))), (1, (.one (li c0))), (2, (.one (li c1))), (3, (.one (li c2))), (4, (.one (li c3))), (12, (.one (li c4))), (13, (.one (li c5))), (14, (.one (li c6)))], [.box [.sl 1 0 l1, .sl 2 0 l2], .lst 1 c_1, .lst 5 c_2]⟩ => some ((V209_0.mk (GBus.mk c_1 c_2) c0 c1 c2 c3 c4 c5 c6), eqN l1 (ln c_1) && (eqN l2 (ln c_2) && (true)))
 | _ => none
def ev209_0 : St → Option (Pt Out) := evp Q181 [(34, K1), (47, K0), (53, K1), (57, K0), (58, K0), (63, K10), (78, K10), (1000003, [])] [] true [] 1 2097152 F209b0
theorem hN209_0 (v : V209_0) : ((ev209_0 (s209_0 v)).bind (stpT true true 1 [0, 1, 2, 3, 4, 12, 13, 14])) = some ((N209_0 v).map (Option.map s209_0)) := by kernel_rfl
theorem hu209_0 (σ : St) (v : V209_0) (h : u209_0 σ = some (v, true)) : σ = s209_0 v := by
 unfold u209_0 at h
 split at h
 ·obtain ⟨hr, hk⟩ := qp (qi h)
  obtain ⟨d0, hk0⟩ := and_t hk
  obtain ⟨d1, hk1⟩ := and_t hk0
  obtain rfl := of_decide_eq_true d0
  obtain rfl := of_decide_eq_true d1
  rw [← hr]
  rfl
 ·simp at h
theorem lt209_0 : TellsP (lqP true true 1 [0, 1, 2, 3, 4, 12, 13, 14] ev209_0 u209_0 s209_0 N209_0 2097152) (evc R 1 2097152 (.loop [0, 1, 2, 3, 4, 12, 13, 14] F209b0)) := lqP_tells (evp_tells Q181_ok (loops_of (l := []) (by kernel_rfl) trivial)) hu209_0 hN209_0
def lq209_0 : Lp   := (24, lqP true true 1 [0, 1, 2, 3, 4, 12, 13, 14] ev209_0 u209_0 s209_0 N209_0 2097152) :: []
def w209_0 (v : V209_0) : V209_0 := (hid (loopV N209_0 2097152 v)).getD v
def i209_0 (v : V209_0) : Bool := (hid (loopV N209_0 2097152 v)).isSome
section
variable (b : Int) (c : Int) (d : Int) (o : Int) (a : GBus)
def y209_0 : Bool := (eqN (ln a.Bytes) (ln a.Bytes))
def y209_1 : Bool := (eqN (ln a.Log) (ln a.Log))
def y209_2 : Bool := ((((y209_0 a) && ((y209_1 a) && true)) && ((y209_0 a) && ((y209_1 a) && true))) && true)
def y209_3 : V209_0 := (w209_0 (V209_0.mk a b c d o (g181 b c d) (bif (neI b 2) then 0 else o) 0))
def y209_4 : Nat := (ln (y209_3 b c d o a).b0.Log)
def y209_5 : Bool := (eqN (y209_4 b c d o a) (y209_4 b c d o a))
def y209_6 : Nat := (ln (y209_3 b c d o a).b0.Bytes)
def y209_7 : Bool := (eqN (y209_6 b c d o a) (y209_6 b c d o a))
def y209_8 : List Row := ((y209_3 b c d o a).b0.Log ++ [(GAccess.row (GAccess.mk (y209_3 b c d o a).s1 (y209_3 b c d o a).s2 (y209_3 b c d o a).s3 (y209_3 b c d o a).s13 (y209_3 b c d o a).s12))])
def y209_9 : Bool := ((y209_7 b c d o a) && ((eqN (ln (y209_8 b c d o a)) (ln (y209_8 b c d o a))) && true))
def y209_10 : Bool := ((y209_7 b c d o a) && ((y209_5 b c d o a) && true))
def y209_11 : List Row := (a.Log ++ [(GAccess.row (GAccess.mk b c d (bif (neI b 2) then 0 else o) (g181 b c d)))])
def y209_12 : Bool := ((y209_0 a) && ((eqN (ln (y209_11 b c d o a)) (ln (y209_11 b c d o a))) && true))
end
def T209 (b : Int) (c : Int) (d : Int) (o : Int) (a : GBus) : Pt (GBus × Int × Int) := (.ok true (.ok ((k181 b c d) && true) (.ok true (.ok true (.ok true (.ok true (.br (eqI (g181 b c d) 0) (.ok true (.ok ((y209_2 a) && (((y209_0 a) && ((y209_1 a) && true)) && true)) (.ok ((y209_0 a) && ((y209_1 a) && true)) (.ok (i209_0 (V209_0.mk a b c d o (g181 b c d) (bif (neI b 2) then 0 else o) 0)) (.ok ((leN (0 + (y209_4 b c d o a)) (y209_4 b c d o a)) && true) (.br (bif (ltI (lenI (y209_3 b c d o a).b0.Log) 400) then (bif (neI (y209_3 b c d o a).s1 3) then true else (neI (y209_3 b c d o a).s12 0)) else false) (.ok (((y209_5 b c d o a) && ((eqN (0 + (y209_4 b c d o a)) (y209_4 b c d o a)) && ((leN (mulN ((y209_4 b c d o a) + 1) 40) 140737488355328) && (leN ((y209_4 b c d o a) + 1) 140737488355328)))) && true) (.ok true (.ok (((y209_9 b c d o a) && (y209_9 b c d o a)) && true) (.leaf ({ (y209_3 b c d o a).b0 with Log := (y209_8 b c d o a) }, (y209_3 b c d o a).s13, (y209_3 b c d o a).s12))))) (.ok true (.ok (((y209_10 b c d o a) && (y209_10 b c d o a)) && true) (.leaf ((y209_3 b c d o a).b0, (y209_3 b c d o a).s13, (y209_3 b c d o a).s12)))))))))) (.ok ((leN (0 + (ln a.Log)) (ln a.Log)) && true) (.br (bif (ltI (lenI a.Log) 400) then (bif (neI b 3) then true else (neI (g181 b c d) 0)) else false) (.ok (((y209_1 a) && ((eqN (0 + (ln a.Log)) (ln a.Log)) && ((leN (mulN ((ln a.Log) + 1) 40) 140737488355328) && (leN ((ln a.Log) + 1) 140737488355328)))) && true) (.ok true (.ok (((y209_12 b c d o a) && (y209_12 b c d o a)) && true) (.leaf ({ a with Log := (y209_11 b c d o a) }, (bif (neI b 2) then 0 else o), (g181 b c d)))))) (.ok true (.ok (y209_2 a) (.leaf (a, (bif (neI b 2) then 0 else o), (g181 b c d))))))))))))))
def g209 (b : Int) (c : Int) (d : Int) (o : Int) (a : GBus) : GBus × Int × Int := hid (T209 b c d o a).val
def k209 (b : Int) (c : Int) (d : Int) (o : Int) (a : GBus) : Bool := hid (T209 b c d o a).okv
def q209 := DS25 (fun b c d o a => n153 b c d o a (g209 b c d o a)) k209
theorem hL209 : Loops (fun live x => TellsP (lpAt lq209_0 (tagC x)) (evc R 1 2097152 (.loop live x))) F209.body := (loops_of (l := [([0, 1, 2, 3, 4, 12, 13, 14], F209b0)]) (by kernel_rfl) ⟨tellsAt (n := 24) (by kernel_rfl) fun σ σr t h ho hl => lt209_0 σ σr t h ho hl, trivial⟩)
theorem t209 : Con 209 q209 := DS25_t fun b c d o a hk => tcl at209 Q181_ok hL209 [(34, K1), (47, K0), (53, K1), (57, K0), (58, K0), (63, K10), (78, K10), (1000003, [])] [] true (T209 b c d o a) (n153 b c d o a) hk
def Q209 := qcons 209 q209 Q181
theorem Q209_ok : QO Q209 := qcons_ok t209 Q181_ok
def AS30 (b : Int) (c : Int) (d : Int) (o : Int) (a : Gl10M) : List SV := [(.one (.ptr 0 0 0)), (.one (li b)), (.one (li c)), (.one (li d)), (.one (li o))]
def HS30 (b : Int) (c : Int) (d : Int) (o : Int) (a : Gl10M) : List Blk := [.box [.sl 1 0 (ln a.fr.D), .sl 2 0 (ln a.fr.A), li a.fr.Other, li a.fr.PC, li a.fr.Flags, li a.fr.Mask, .lit (.bool a.fr.Super), .lit (.bool a.fr.Trace), .sl 3 0 (ln a.fbus.Bytes), .sl 4 0 (ln a.fbus.Log), .lit (.bool a.fstop), li a.ffault.Vector, li a.ffault.PC, li a.ffault.Addr, li a.ffault.Word, .lit (.bool a.ffault.Write)], .lst 1 a.fr.D, .lst 1 a.fr.A, .lst 1 a.fbus.Bytes, .lst 5 a.fbus.Log]
def DS30 (N : Int → Int → Int → Int → Gl10M → SV × List Blk) (K : Int → Int → Int → Int → Gl10M → Bool) : List SV → List Blk → Option ((SV × List Blk) × Bool)
 | [(.one (.ptr 0 0 0)), (.one (li c0)), (.one (li c1)), (.one (li c2)), (.one (li c3))], [.box [.sl 1 0 l1, .sl 2 0 l2, li c4, li c5, li c6, li c7, .lit (.bool c8), .lit (.bool c9), .sl 3 0 l3, .sl 4 0 l4, .lit (.bool c10), li c11, li c12, li c13, li c14, .lit (.bool c15)], .lst 1 c_1, .lst 1 c_2, .lst 1 c_3, .lst 5 c_4] => some (N c0 c1 c2 c3 (Gl10M.mk (GRegs.mk c_1 c_2 c4 c5 c6 c7 c8 c9) (GBus.mk c_3 c_4) c10 (GFault.mk c11 c12 c13 c14 c15)), eqN l1 (ln c_1) && (eqN l2 (ln c_2) && (eqN l3 (ln c_3) && (eqN l4 (ln c_4) && (K c0 c1 c2 c3 (Gl10M.mk (GRegs.mk c_1 c_2 c4 c5 c6 c7 c8 c9) (GBus.mk c_3 c_4) c10 (GFault.mk c11 c12 c13 c14 c15)))))))
 | _, _ => none
theorem DS30_t {N : Int → Int → Int → Int → Gl10M → SV × List Blk} {K : Int → Int → Int → Int → Gl10M → Bool} {f : Nat} (h : ∀ (b : Int) (c : Int) (d : Int) (o : Int) (a : Gl10M), K b c d o a = true → frzR R f (AS30 b c d o a) (HS30 b c d o a) = some (N b c d o a)) : Con f (DS30 N K) := fun args hp r e => by
 unfold DS30 at e
 split at e
 ·rename_i c0 c1 c2 c3 l1 l2 c4 c5 c6 c7 c8 c9 l3 l4 c10 c11 c12 c13 c14 c15 c_1 c_2 c_3 c_4
  obtain ⟨hr, hk⟩ := qp (qi e)
  obtain ⟨d0, hk0⟩ := and_t hk
  obtain ⟨d1, hk1⟩ := and_t hk0
  obtain ⟨d2, hk2⟩ := and_t hk1
  obtain ⟨d3, hk3⟩ := and_t hk2
  obtain rfl := of_decide_eq_true d0
  obtain rfl := of_decide_eq_true d1
  obtain rfl := of_decide_eq_true d2
  obtain rfl := of_decide_eq_true d3
  rw [← hr]
  exact h c0 c1 c2 c3 (Gl10M.mk (GRegs.mk c_1 c_2 c4 c5 c6 c7 c8 c9) (GBus.mk c_3 c_4) c10 (GFault.mk c11 c12 c13 c14 c15)) hk3
 ·simp at e
section
variable (b : Int) (c : Int) (d : Int) (o : Int) (a : Gl10M)
def y156_0 : Bool := (eqN (ln a.fbus.Bytes) (ln a.fbus.Bytes))
def y156_1 : Bool := (eqN (ln a.fbus.Log) (ln a.fbus.Log))
def y156_2 : GBus × Int × Int := (g209 b c d o a.fbus)
def y156_3 : Nat := (ln (y156_2 b c d o a).1.Bytes)
def y156_4 : Nat := (ln (y156_2 b c d o a).1.Log)
def y156_5 : Bool := ((eqN (ln a.fr.D) (ln a.fr.D)) && ((eqN (ln a.fr.A) (ln a.fr.A)) && ((eqN (y156_3 b c d o a) (y156_3 b c d o a)) && ((eqN (y156_4 b c d o a) (y156_4 b c d o a)) && true))))
def y156_6 : Bool := (((y156_5 b c d o a) && (y156_5 b c d o a)) && true)
end
def T156 (b : Int) (c : Int) (d : Int) (o : Int) (a : Gl10M) : Pt (Gl10M × Int) := (.ok true (.ok ((((((y156_0 a) && ((y156_1 a) && true)) && ((y156_0 a) && ((y156_1 a) && true))) && true) && ((y156_0 a) && ((y156_1 a) && (k209 b c d o a.fbus)))) && true) (.ok true (.br (bif (neI (y156_2 b c d o a).2.2 0) then (eqI a.ffault.Vector 0) else false) (.ok true (.ok true (.br (eqI (y156_2 b c d o a).2.2 2) (.ok true (.ok true (.ok true (.ok true (.ok (y156_6 b c d o a) (.leaf ({ a with fbus := (y156_2 b c d o a).1, ffault := (GFault.mk 3 a.ffault.PC d a.ffault.Word (eqI b 2)) }, (y156_2 b c d o a).2.1))))))) (.ok true (.ok true (.ok true (.ok (y156_6 b c d o a) (.leaf ({ a with fbus := (y156_2 b c d o a).1, ffault := (GFault.mk 2 a.ffault.PC d a.ffault.Word (eqI b 2)) }, (y156_2 b c d o a).2.1))))))))) (.ok true (.ok (y156_6 b c d o a) (.leaf ({ a with fbus := (y156_2 b c d o a).1 }, (y156_2 b c d o a).2.1))))))))
def g156 (b : Int) (c : Int) (d : Int) (o : Int) (a : Gl10M) : Gl10M × Int := hid (T156 b c d o a).val
def k156 (b : Int) (c : Int) (d : Int) (o : Int) (a : Gl10M) : Bool := hid (T156 b c d o a).okv
def n156 (b : Int) (c : Int) (d : Int) (o : Int) (a : Gl10M) (r : Gl10M × Int) : SV × List Blk := ((.one (li r.2)), [.box [.sl 1 0 (ln r.1.fr.D), .sl 2 0 (ln r.1.fr.A), li r.1.fr.Other, li r.1.fr.PC, li r.1.fr.Flags, li r.1.fr.Mask, .lit (.bool r.1.fr.Super), .lit (.bool r.1.fr.Trace), .sl 3 0 (ln r.1.fbus.Bytes), .sl 4 0 (ln r.1.fbus.Log), .lit (.bool r.1.fstop), li r.1.ffault.Vector, li r.1.ffault.PC, li r.1.ffault.Addr, li r.1.ffault.Word, .lit (.bool r.1.ffault.Write)], .lst 1 r.1.fr.D, .lst 1 r.1.fr.A, .lst 1 r.1.fbus.Bytes, .lst 5 r.1.fbus.Log])
def q156 := DS30 (fun b c d o a => n156 b c d o a (g156 b c d o a)) k156
theorem t156 : Con 156 q156 := DS30_t fun b c d o a hk => tc at156 Q209_ok [(31, K0)] [] true (T156 b c d o a) (n156 b c d o a) hk
def Q156 := qcons 156 q156 Q209
theorem Q156_ok : QO Q156 := qcons_ok t156 Q209_ok
def AS31 (a : Gl10M) : List SV := [(.one (.ptr 0 0 0))]
def HS31 (a : Gl10M) : List Blk := [.box [.sl 1 0 (ln a.fr.D), .sl 2 0 (ln a.fr.A), li a.fr.Other, li a.fr.PC, li a.fr.Flags, li a.fr.Mask, .lit (.bool a.fr.Super), .lit (.bool a.fr.Trace), .sl 3 0 (ln a.fbus.Bytes), .sl 4 0 (ln a.fbus.Log), .lit (.bool a.fstop), li a.ffault.Vector, li a.ffault.PC, li a.ffault.Addr, li a.ffault.Word, .lit (.bool a.ffault.Write)], .lst 1 a.fr.D, .lst 1 a.fr.A, .lst 1 a.fbus.Bytes, .lst 5 a.fbus.Log]
def DS31 (N : Gl10M → SV × List Blk) (K : Gl10M → Bool) : List SV → List Blk → Option ((SV × List Blk) × Bool)
 | [(.one (.ptr 0 0 0))], [.box [.sl 1 0 l1, .sl 2 0 l2, li c0, li c1, li c2, li c3, .lit (.bool c4), .lit (.bool c5), .sl 3 0 l3, .sl 4 0 l4, .lit (.bool c6), li c7, li c8, li c9, li c10, .lit (.bool c11)], .lst 1 c_1, .lst 1 c_2, .lst 1 c_3, .lst 5 c_4] => some (N (Gl10M.mk (GRegs.mk c_1 c_2 c0 c1 c2 c3 c4 c5) (GBus.mk c_3 c_4) c6 (GFault.mk c7 c8 c9 c10 c11)), eqN l1 (ln c_1) && (eqN l2 (ln c_2) && (eqN l3 (ln c_3) && (eqN l4 (ln c_4) && (K (Gl10M.mk (GRegs.mk c_1 c_2 c0 c1 c2 c3 c4 c5) (GBus.mk c_3 c_4) c6 (GFault.mk c7 c8 c9 c10 c11)))))))
 | _, _ => none
theorem DS31_t {N : Gl10M → SV × List Blk} {K : Gl10M → Bool} {f : Nat} (h : ∀ (a : Gl10M), K a = true → frzR R f (AS31 a) (HS31 a) = some (N a)) : Con f (DS31 N K) := fun args hp r e => by
 unfold DS31 at e
 split at e
 ·rename_i l1 l2 c0 c1 c2 c3 c4 c5 l3 l4 c6 c7 c8 c9 c10 c11 c_1 c_2 c_3 c_4
  obtain ⟨hr, hk⟩ := qp (qi e)
  obtain ⟨d0, hk0⟩ := and_t hk
  obtain ⟨d1, hk1⟩ := and_t hk0
  obtain ⟨d2, hk2⟩ := and_t hk1
  obtain ⟨d3, hk3⟩ := and_t hk2
  obtain rfl := of_decide_eq_true d0
  obtain rfl := of_decide_eq_true d1
  obtain rfl := of_decide_eq_true d2
  obtain rfl := of_decide_eq_true d3
  rw [← hr]
  exact h (Gl10M.mk (GRegs.mk c_1 c_2 c0 c1 c2 c3 c4 c5) (GBus.mk c_3 c_4) c6 (GFault.mk c7 c8 c9 c10 c11)) hk3
 ·simp at e
section
variable (a : Gl10M)
def y81_0 : Bool := ((eqN (ln a.fr.D) (ln a.fr.D)) && ((eqN (ln a.fr.A) (ln a.fr.A)) && ((eqN (ln a.fbus.Bytes) (ln a.fbus.Bytes)) && ((eqN (ln a.fbus.Log) (ln a.fbus.Log)) && true))))
end
def T81 (a : Gl10M) : Pt (Bool) := (.ok true (.ok true (.ok (((y81_0 a) && (y81_0 a)) && true) (.leaf (eqI a.ffault.Vector 0)))))
def g81 (a : Gl10M) : Bool := hid (T81 a).val
def k81 (a : Gl10M) : Bool := hid (T81 a).okv
def n81 (a : Gl10M) (r : Bool) : SV × List Blk := ((.one (.lit (.bool r))), [.box [.sl 1 0 (ln a.fr.D), .sl 2 0 (ln a.fr.A), li a.fr.Other, li a.fr.PC, li a.fr.Flags, li a.fr.Mask, .lit (.bool a.fr.Super), .lit (.bool a.fr.Trace), .sl 3 0 (ln a.fbus.Bytes), .sl 4 0 (ln a.fbus.Log), .lit (.bool a.fstop), li a.ffault.Vector, li a.ffault.PC, li a.ffault.Addr, li a.ffault.Word, .lit (.bool a.ffault.Write)], .lst 1 a.fr.D, .lst 1 a.fr.A, .lst 1 a.fbus.Bytes, .lst 5 a.fbus.Log])
def q81 := DS31 (fun a => n81 a (g81 a)) k81
theorem t81 : Con 81 q81 := DS31_t fun a hk => tc at81 Q156_ok [(7, K0)] [] true (T81 a) (n81 a) hk
def Q81 := qcons 81 q81 Q156
theorem Q81_ok : QO Q81 := qcons_ok t81 Q156_ok
def AS32 (b : Int) (a : Gl10M) : List SV := [(.one (.ptr 0 0 0)), (.one (li b))]
def HS32 (b : Int) (a : Gl10M) : List Blk := [.box [.sl 1 0 (ln a.fr.D), .sl 2 0 (ln a.fr.A), li a.fr.Other, li a.fr.PC, li a.fr.Flags, li a.fr.Mask, .lit (.bool a.fr.Super), .lit (.bool a.fr.Trace), .sl 3 0 (ln a.fbus.Bytes), .sl 4 0 (ln a.fbus.Log), .lit (.bool a.fstop), li a.ffault.Vector, li a.ffault.PC, li a.ffault.Addr, li a.ffault.Word, .lit (.bool a.ffault.Write)], .lst 1 a.fr.D, .lst 1 a.fr.A, .lst 1 a.fbus.Bytes, .lst 5 a.fbus.Log]
def DS32 (N : Int → Gl10M → SV × List Blk) (K : Int → Gl10M → Bool) : List SV → List Blk → Option ((SV × List Blk) × Bool)
 | [(.one (.ptr 0 0 0)), (.one (li c0))], [.box [.sl 1 0 l1, .sl 2 0 l2, li c1, li c2, li c3, li c4, .lit (.bool c5), .lit (.bool c6), .sl 3 0 l3, .sl 4 0 l4, .lit (.bool c7), li c8, li c9, li c10, li c11, .lit (.bool c12)], .lst 1 c_1, .lst 1 c_2, .lst 1 c_3, .lst 5 c_4] => some (N c0 (Gl10M.mk (GRegs.mk c_1 c_2 c1 c2 c3 c4 c5 c6) (GBus.mk c_3 c_4) c7 (GFault.mk c8 c9 c10 c11 c12)), eqN l1 (ln c_1) && (eqN l2 (ln c_2) && (eqN l3 (ln c_3) && (eqN l4 (ln c_4) && (K c0 (Gl10M.mk (GRegs.mk c_1 c_2 c1 c2 c3 c4 c5 c6) (GBus.mk c_3 c_4) c7 (GFault.mk c8 c9 c10 c11 c12)))))))
 | _, _ => none
theorem DS32_t {N : Int → Gl10M → SV × List Blk} {K : Int → Gl10M → Bool} {f : Nat} (h : ∀ (b : Int) (a : Gl10M), K b a = true → frzR R f (AS32 b a) (HS32 b a) = some (N b a)) : Con f (DS32 N K) := fun args hp r e => by
 unfold DS32 at e
 split at e
 ·rename_i c0 l1 l2 c1 c2 c3 c4 c5 c6 l3 l4 c7 c8 c9 c10 c11 c12 c_1 c_2 c_3 c_4
  obtain ⟨hr, hk⟩ := qp (qi e)
  obtain ⟨d0, hk0⟩ := and_t hk
  obtain ⟨d1, hk1⟩ := and_t hk0
  obtain ⟨d2, hk2⟩ := and_t hk1
  obtain ⟨d3, hk3⟩ := and_t hk2
  obtain rfl := of_decide_eq_true d0
  obtain rfl := of_decide_eq_true d1
  obtain rfl := of_decide_eq_true d2
  obtain rfl := of_decide_eq_true d3
  rw [← hr]
  exact h c0 (Gl10M.mk (GRegs.mk c_1 c_2 c1 c2 c3 c4 c5 c6) (GBus.mk c_3 c_4) c7 (GFault.mk c8 c9 c10 c11 c12)) hk3
 ·simp at e
section
variable (b : Int) (a : Gl10M)
def y79_0 : Bool := (eqN (ln a.fr.D) (ln a.fr.D))
def y79_1 : Bool := (eqN (ln a.fr.A) (ln a.fr.A))
def y79_2 : Bool := (eqN (ln a.fbus.Bytes) (ln a.fbus.Bytes))
def y79_3 : Bool := (eqN (ln a.fbus.Log) (ln a.fbus.Log))
def y79_4 : Bool := ((y79_0 a) && ((y79_1 a) && ((y79_2 a) && ((y79_3 a) && true))))
def y79_5 : Int := (andI (subI (intAt a.fr.A 3 0) 2) 65535)
def y79_6 : Nat := (ln (g156 2 2 (y79_5 a) b a).1.fr.D)
def y79_7 : Nat := (ln (g156 2 2 (y79_5 a) b a).1.fr.A)
def y79_8 : Nat := (ln (g156 2 2 (y79_5 a) b a).1.fbus.Bytes)
def y79_9 : Nat := (ln (g156 2 2 (y79_5 a) b a).1.fbus.Log)
def y79_10 : Bool := ((eqN (y79_8 b a) (y79_8 b a)) && ((eqN (y79_9 b a) (y79_9 b a)) && true))
def y79_11 : Bool := ((eqN (y79_6 b a) (y79_6 b a)) && ((eqN (y79_7 b a) (y79_7 b a)) && (y79_10 b a)))
def y79_12 : Bool := (((y79_11 b a) && (y79_11 b a)) && true)
def y79_13 : List Row := (List.set (g156 2 2 (y79_5 a) b a).1.fr.A 3 (rowI (y79_5 a)))
def y79_14 : Bool := ((eqN (y79_6 b a) (y79_6 b a)) && ((eqN (y79_7 b a) (ln (y79_13 b a))) && (y79_10 b a)))
end
def T79 (b : Int) (a : Gl10M) : Pt (Gl10M) := (.ok ((ltI 3 (lenI a.fr.A)) && ((hasRow [.int .i64] a.fr.A 3 0) && true)) (.ok (((((y79_4 a) && (y79_4 a)) && true) && ((y79_0 a) && ((y79_1 a) && ((y79_2 a) && ((y79_3 a) && (k156 2 2 (y79_5 a) b a)))))) && true) (.ok (((y79_12 b a) && ((eqN (y79_6 b a) (y79_6 b a)) && ((eqN (y79_7 b a) (y79_7 b a)) && ((eqN (y79_8 b a) (y79_8 b a)) && ((eqN (y79_9 b a) (y79_9 b a)) && (k81 (g156 2 2 (y79_5 a) b a).1)))))) && true) (.br (g81 (g156 2 2 (y79_5 a) b a).1) (.ok ((ltI 3 (lenI (g156 2 2 (y79_5 a) b a).1.fr.A)) && (((blt 3 (y79_7 b a)) && (beqN (rlen (g156 2 2 (y79_5 a) b a).1.fr.A 3) 1)) && true)) (.ok ((((y79_11 b a) && (y79_14 b a)) && true) && ((y79_14 b a) && true)) (.leaf { (g156 2 2 (y79_5 a) b a).1 with fr := { (g156 2 2 (y79_5 a) b a).1.fr with A := (y79_13 b a) } }))) (.ok ((y79_12 b a) && ((y79_11 b a) && true)) (.leaf (g156 2 2 (y79_5 a) b a).1))))))
def g79 (b : Int) (a : Gl10M) : Gl10M := hid (T79 b a).val
def k79 (b : Int) (a : Gl10M) : Bool := hid (T79 b a).okv
def n79 (b : Int) (a : Gl10M) (r : Gl10M) : SV × List Blk := ((.tup []), [.box [.sl 1 0 (ln r.fr.D), .sl 2 0 (ln r.fr.A), li r.fr.Other, li r.fr.PC, li r.fr.Flags, li r.fr.Mask, .lit (.bool r.fr.Super), .lit (.bool r.fr.Trace), .sl 3 0 (ln r.fbus.Bytes), .sl 4 0 (ln r.fbus.Log), .lit (.bool r.fstop), li r.ffault.Vector, li r.ffault.PC, li r.ffault.Addr, li r.ffault.Word, .lit (.bool r.ffault.Write)], .lst 1 r.fr.D, .lst 1 r.fr.A, .lst 1 r.fbus.Bytes, .lst 5 r.fbus.Log])
def q79 := DS32 (fun b a => n79 b a (g79 b a)) k79
theorem t79 : Con 79 q79 := DS32_t fun b a hk => tc at79 Q81_ok [(9, K1), (10, K0), (11, K0), (24, K1), (26, K0), (1000001, [])] [] true (T79 b a) (n79 b a) hk
def Q79 := qcons 79 q79 Q81
theorem Q79_ok : QO Q79 := qcons_ok t79 Q81_ok
section
variable (a : Gl10M)
def y80_0 : Bool := (eqN (ln a.fr.D) (ln a.fr.D))
def y80_1 : Bool := (eqN (ln a.fr.A) (ln a.fr.A))
def y80_2 : Bool := (eqN (ln a.fbus.Bytes) (ln a.fbus.Bytes))
def y80_3 : Bool := (eqN (ln a.fbus.Log) (ln a.fbus.Log))
def y80_4 : Bool := ((y80_0 a) && ((y80_1 a) && ((y80_2 a) && ((y80_3 a) && true))))
def y80_5 : GCpu := (g122 (GCpu.mk a.fr a.fbus a.fstop false))
def y80_6 : Bool := ((eqN (ln (y80_5 a).R.D) (ln (y80_5 a).R.D)) && ((eqN (ln (y80_5 a).R.A) (ln (y80_5 a).R.A)) && ((eqN (ln (y80_5 a).Bus.Bytes) (ln (y80_5 a).Bus.Bytes)) && ((eqN (ln (y80_5 a).Bus.Log) (ln (y80_5 a).Bus.Log)) && true))))
end
def T80 (a : Gl10M) : Pt (GCpu) := (.ok true (.ok (((((y80_4 a) && true) && (k122 (GCpu.mk a.fr a.fbus a.fstop false))) && true) && true) (.ok (((y80_4 a) && ((y80_0 a) && ((y80_1 a) && ((y80_2 a) && ((y80_3 a) && (y80_6 a)))))) && ((y80_6 a) && true)) (.leaf (y80_5 a)))))
def g80 (a : Gl10M) : GCpu := hid (T80 a).val
def k80 (a : Gl10M) : Bool := hid (T80 a).okv
def n80 (a : Gl10M) (r : GCpu) : SV × List Blk := ((.agg [.sl 5 0 (ln r.R.D), .sl 6 0 (ln r.R.A), li r.R.Other, li r.R.PC, li r.R.Flags, li r.R.Mask, .lit (.bool r.R.Super), .lit (.bool r.R.Trace), .sl 7 0 (ln r.Bus.Bytes), .sl 8 0 (ln r.Bus.Log), .lit (.bool r.Stop), .lit (.bool r.Halt)]), [.box [.sl 1 0 (ln a.fr.D), .sl 2 0 (ln a.fr.A), li a.fr.Other, li a.fr.PC, li a.fr.Flags, li a.fr.Mask, .lit (.bool a.fr.Super), .lit (.bool a.fr.Trace), .sl 3 0 (ln a.fbus.Bytes), .sl 4 0 (ln a.fbus.Log), .lit (.bool a.fstop), li a.ffault.Vector, li a.ffault.PC, li a.ffault.Addr, li a.ffault.Word, .lit (.bool a.ffault.Write)], .lst 1 a.fr.D, .lst 1 a.fr.A, .lst 1 a.fbus.Bytes, .lst 5 a.fbus.Log, .lst 1 r.R.D, .lst 1 r.R.A, .lst 1 r.Bus.Bytes, .lst 5 r.Bus.Log])
def q80 := DS31 (fun a => n80 a (g80 a)) k80
theorem t80 : Con 80 q80 := DS31_t fun a hk => tc at80 Q79_ok [(6, K6), (10, K7), (14, K11)] [] true (T80 a) (n80 a) hk
def Q80 := qcons 80 q80 Q79
theorem Q80_ok : QO Q80 := qcons_ok t80 Q79_ok
section
variable (a : GCpu) (b : Int)
def y10_0 : Bool := (eqN (ln (g78 a).fr.D) (ln (g78 a).fr.D))
def y10_1 : Bool := (eqN (ln (g78 a).fr.A) (ln (g78 a).fr.A))
def y10_2 : Bool := (eqN (ln (g78 a).fbus.Bytes) (ln (g78 a).fbus.Bytes))
def y10_3 : Bool := (eqN (ln (g78 a).fbus.Log) (ln (g78 a).fbus.Log))
def y10_4 : Bool := ((y10_0 a) && ((y10_1 a) && ((y10_2 a) && ((y10_3 a) && true))))
def y10_5 : Bool := (eqN (ln (g79 b (g78 a)).fr.D) (ln (g79 b (g78 a)).fr.D))
def y10_6 : Bool := (eqN (ln (g79 b (g78 a)).fr.A) (ln (g79 b (g78 a)).fr.A))
def y10_7 : Nat := (ln (g79 b (g78 a)).fbus.Bytes)
def y10_8 : Bool := (eqN (ln (g79 b (g78 a)).fbus.Log) (ln (g79 b (g78 a)).fbus.Log))
def y10_9 : Bool := ((y10_5 a b) && ((y10_6 a b) && ((eqN (y10_7 a b) (y10_7 a b)) && ((y10_8 a b) && true))))
def y10_10 : Bool := (((y10_9 a b) && (y10_9 a b)) && true)
def y10_11 : Bool := ((((y10_10 a b) && ((y10_5 a b) && ((y10_6 a b) && ((eqN (y10_7 a b) (y10_7 a b)) && ((y10_8 a b) && (k81 (g79 b (g78 a)))))))) && true) && true)
def y10_12 : Bool := ((same (α := Bool) a.Halt a.Halt) && true)
def y10_13 : Bool := ((same (α := Int) a.R.PC a.R.PC) && ((same (α := Int) a.R.Flags a.R.Flags) && ((same (α := Int) a.R.Mask a.R.Mask) && ((same (α := Bool) a.R.Super a.R.Super) && ((same (α := Bool) a.R.Trace a.R.Trace) && (((same (α := Bool) true true) && (sameR a.Bus.Bytes a.Bus.Bytes)) && (((same (α := Bool) true true) && (sameR a.Bus.Log a.Bus.Log)) && ((same (α := Bool) a.Stop a.Stop) && (y10_12 a)))))))))
def y10_14 : Nat := (ln (g80 (g79 b (g78 a))).R.D)
def y10_15 : Nat := (ln (g80 (g79 b (g78 a))).R.A)
def y10_16 : Nat := (ln (g80 (g79 b (g78 a))).Bus.Bytes)
def y10_17 : Nat := (ln (g80 (g79 b (g78 a))).Bus.Log)
def y10_18 : Bool := ((same (α := Int) (g80 (g79 b (g78 a))).R.Mask (g80 (g79 b (g78 a))).R.Mask) && ((same (α := Bool) (g80 (g79 b (g78 a))).R.Super (g80 (g79 b (g78 a))).R.Super) && ((same (α := Bool) (g80 (g79 b (g78 a))).R.Trace (g80 (g79 b (g78 a))).R.Trace) && ((same (α := Nat) (y10_16 a b) (y10_16 a b)) && ((same (α := Nat) (y10_17 a b) (y10_17 a b)) && ((same (α := Bool) (g80 (g79 b (g78 a))).Stop (g80 (g79 b (g78 a))).Stop) && (y10_12 a)))))))
def y10_19 : Bool := ((same (α := Nat) (y10_14 a b) (y10_14 a b)) && ((same (α := Nat) (y10_15 a b) (y10_15 a b)) && ((same (α := Int) (g80 (g79 b (g78 a))).R.Other (g80 (g79 b (g78 a))).R.Other) && ((same (α := Int) (g80 (g79 b (g78 a))).R.PC (g80 (g79 b (g78 a))).R.PC) && ((same (α := Int) (g80 (g79 b (g78 a))).R.Flags (g80 (g79 b (g78 a))).R.Flags) && (y10_18 a b))))))
def y10_20 : Bool := ((same (α := Int) (g79 b (g78 a)).ffault.Vector (g79 b (g78 a)).ffault.Vector) && ((same (α := Int) (g79 b (g78 a)).ffault.PC (g79 b (g78 a)).ffault.PC) && ((same (α := Int) (g79 b (g78 a)).ffault.Addr (g79 b (g78 a)).ffault.Addr) && ((same (α := Int) (g79 b (g78 a)).ffault.Word (g79 b (g78 a)).ffault.Word) && ((same (α := Bool) (g79 b (g78 a)).ffault.Write (g79 b (g78 a)).ffault.Write) && true)))))
def y10_21 : Bool := ((same (α := Int) (g79 b (g78 a)).fr.Mask (g79 b (g78 a)).fr.Mask) && ((same (α := Bool) (g79 b (g78 a)).fr.Super (g79 b (g78 a)).fr.Super) && ((same (α := Bool) (g79 b (g78 a)).fr.Trace (g79 b (g78 a)).fr.Trace) && ((same (α := Nat) (y10_7 a b) (y10_7 a b)) && ((same (α := Nat) (ln (g79 b (g78 a)).fbus.Log) (ln (g79 b (g78 a)).fbus.Log)) && ((same (α := Bool) (g79 b (g78 a)).fstop (g79 b (g78 a)).fstop) && (y10_20 a b)))))))
def y10_22 : Bool := ((same (α := Nat) (ln (g79 b (g78 a)).fr.D) (ln (g79 b (g78 a)).fr.D)) && ((same (α := Nat) (ln (g79 b (g78 a)).fr.A) (ln (g79 b (g78 a)).fr.A)) && ((same (α := Int) (g79 b (g78 a)).fr.Other (g79 b (g78 a)).fr.Other) && ((same (α := Int) (g79 b (g78 a)).fr.PC (g79 b (g78 a)).fr.PC) && ((same (α := Int) (g79 b (g78 a)).fr.Flags (g79 b (g78 a)).fr.Flags) && (y10_21 a b))))))
def y10_23 : Bool := ((sameR (g80 (g79 b (g78 a))).Bus.Bytes (g80 (g79 b (g78 a))).Bus.Bytes) && ((sameR (g80 (g79 b (g78 a))).Bus.Log (g80 (g79 b (g78 a))).Bus.Log) && ((y10_19 a b) && ((sameR (g79 b (g78 a)).fr.D (g79 b (g78 a)).fr.D) && ((sameR (g79 b (g78 a)).fr.A (g79 b (g78 a)).fr.A) && ((sameR (g79 b (g78 a)).fbus.Bytes (g79 b (g78 a)).fbus.Bytes) && ((sameR (g79 b (g78 a)).fbus.Log (g79 b (g78 a)).fbus.Log) && true)))))))
def y10_24 : Bool := (((same (α := Bool) (g81 (g79 b (g78 a))) (g81 (g79 b (g78 a)))) && ((same (α := Bool) true true) && true)) && ((((same (α := Bool) true true) && (sameR a.R.D a.R.D)) && (((same (α := Bool) true true) && (sameR a.R.A a.R.A)) && ((same (α := Int) a.R.Other a.R.Other) && (y10_13 a)))) && ((y10_19 a b) && ((y10_22 a b) && ((sameR (g80 (g79 b (g78 a))).R.D (g80 (g79 b (g78 a))).R.D) && ((sameR (g80 (g79 b (g78 a))).R.A (g80 (g79 b (g78 a))).R.A) && (y10_23 a b)))))))
def y10_25 : Bool := ((eqN (y10_14 a b) (y10_14 a b)) && ((eqN (y10_15 a b) (y10_15 a b)) && ((eqN (y10_16 a b) (y10_16 a b)) && ((eqN (y10_17 a b) (y10_17 a b)) && true))))
end
def T10 (a : GCpu) (b : Int) : Pt (GCpu × Bool × Bool) := (.ok true (.ok ((k76 a) && ((((k77 b) && true) || (!(g76 a))) && true)) (.br (bif (!(g76 a)) then true else (!(g77 b))) (.ok true (.ok true (.ok true (.leaf ((GCpu.mk (GRegs.mk [] [] 0 0 0 0 false false) (GBus.mk [] []) false false), false, false))))) (.ok ((k78 a) && true) (.ok (((((y10_4 a) && (y10_4 a)) && true) && ((y10_0 a) && ((y10_1 a) && ((y10_2 a) && ((y10_3 a) && (k79 b (g78 a))))))) && true) (.ok (((y10_10 a b) && ((y10_5 a b) && ((y10_6 a b) && ((eqN (y10_7 a b) (y10_7 a b)) && ((y10_8 a b) && (k80 (g79 b (g78 a)))))))) && true) (.ok true (.ok ((y10_11 a b) && ((y10_11 a b) && (y10_24 a b))) (.ok ((y10_25 a b) && ((y10_25 a b) && true)) (.ok ((y10_25 a b) && true) (.leaf ({ (g80 (g79 b (g78 a))) with Halt := a.Halt }, (g81 (g79 b (g78 a))), true))))))))))))
def g10 (a : GCpu) (b : Int) : GCpu × Bool × Bool := hid (T10 a b).val
def k10 (a : GCpu) (b : Int) : Bool := hid (T10 a b).okv
def q10 := DS27 (fun a b => n9 a b (g10 a b)) k10
theorem t10 : Con 100010 q10 := DS27_t fun a b hk => tz at10 Q80_ok [(9, K8), (18, K8), (26, K11), (28, K8)] [] true (T10 a b) (n9 a b) hk
def Q10 := qcons 100010 q10 Q80
theorem Q10_ok : QO Q10 := qcons_ok t10 Q80_ok
def AS33 (a : List Row) (b : List Row) : List SV := [(.one (.imm true 1 a)), (.one (.imm true 1 b))]
def HS33 (a : List Row) (b : List Row) : List Blk := []
def DS33 (N : List Row → List Row → SV × List Blk) (K : List Row → List Row → Bool) : List SV → List Blk → Option ((SV × List Blk) × Bool)
 | [(.one (.imm true 1 c0)), (.one (.imm true 1 c1))], [] => some (N c0 c1, K c0 c1)
 | _, _ => none
theorem DS33_t {N : List Row → List Row → SV × List Blk} {K : List Row → List Row → Bool} {f : Nat} (h : ∀ (a : List Row) (b : List Row), K a b = true → frzR R f (AS33 a b) (HS33 a b) = some (N a b)) : Con f (DS33 N K) := fun _ _ _ e => by
 unfold DS33 at e
 split at e
 ·exact dsf e (h _ _)
 ·cases e
structure V14_0 where
 mk ::
 (s0 : List Row)
 (s1 : List Row)
 (s12 : Int)
 (s13 : Int)
def N14_0 (v : V14_0) : Pt (Option V14_0) := (.ok true (.br (ltI v.s13 v.s12) (.ok true (.ok ((inRow [.int .i64] v.s0 v.s13) && ((inRow [.int .i64] v.s1 v.s13) && true)) (.br (neI (intAt v.s0 (Int.toNat v.s13) 0) (intAt v.s1 (Int.toNat v.s13) 0)) (.ok true (.leaf none)) (.ok true (.ok true (.leaf (some { v with s13 := (addI v.s13 1) }))))))) (.leaf none)))
def s14_0 (v : V14_0) : St := ⟨[(0, (.one (.imm true 1 v.s0))), (1, (.one (.imm true 1 v.s1))), (12, (.one (li v.s12))), (13, (.one (li v.s13)))], []⟩
def u14_0 : St → Option (V14_0 × Bool)
 | ⟨[(0, (.one (.imm true 1 c0))), (1, (.one (.imm true 1 c1))), (12, (.one (li c2))), (13, (.one (li c3)))], []⟩ => some ((V14_0.mk c0 c1 c2 c3), true)
 | _ => none
def ev14_0 : St → Option (Pt Out) := evp Q10 [(18, K0), (19, K0), (22, K0), (23, K0)] [] true [] 0 2097152 F14b0
theorem hN14_0 (v : V14_0) : ((ev14_0 (s14_0 v)).bind (stpT true false 0 [0, 1, 12, 13])) = some ((N14_0 v).map (Option.map s14_0)) := by kernel_rfl
theorem hu14_0 (σ : St) (v : V14_0) (h : u14_0 σ = some (v, true)) : σ = s14_0 v := by
 unfold u14_0 at h
 split at h
 ·obtain ⟨hr, hk⟩ := qp (qi h)
  rw [← hr]
  rfl
 ·simp at h
theorem lt14_0 : TellsP (lqP true false 0 [0, 1, 12, 13] ev14_0 u14_0 s14_0 N14_0 2097152) (evc R 0 2097152 (.loop [0, 1, 12, 13] F14b0)) := lqP_tells (evp_tells Q10_ok (loops_of (l := []) (by kernel_rfl) trivial)) hu14_0 hN14_0
def lq14_0 : Lp   := (14, lqP true false 0 [0, 1, 12, 13] ev14_0 u14_0 s14_0 N14_0 2097152) :: []
def w14_0 (v : V14_0) : V14_0 := (hid (loopV N14_0 2097152 v)).getD v
def i14_0 (v : V14_0) : Bool := (hid (loopV N14_0 2097152 v)).isSome
section
variable (a : List Row) (b : List Row)
def y14_0 : V14_0 := (w14_0 (V14_0.mk a b (lenI a) 0))
end
def T14 (a : List Row) (b : List Row) : Pt (Bool) := (.ok true (.ok true (.br (neI (lenI a) (lenI b)) (.ok true (.ok true (.ok true (.leaf false)))) (.ok true (.ok true (.ok true (.ok (i14_0 (V14_0.mk a b (lenI a) 0)) (.br (ltI (y14_0 a b).s13 (y14_0 a b).s12) (.ok true (.ok true (.leaf false))) (.ok true (.ok true (.ok true (.leaf true))))))))))))
def g14 (a : List Row) (b : List Row) : Bool := hid (T14 a b).val
def k14 (a : List Row) (b : List Row) : Bool := hid (T14 a b).okv
def n14 (a : List Row) (b : List Row) (r : Bool) : SV × List Blk := ((.one (.lit (.bool r))), [])
def q14 := DS33 (fun a b => n14 a b (g14 a b)) k14
theorem hL14 : Loops (fun live x => TellsP (lpAt lq14_0 (tagC x)) (evc R 0 2097152 (.loop live x))) F14.body := (loops_of (l := [([0, 1, 12, 13], F14b0)]) (by kernel_rfl) ⟨tellsAt (n := 14) (by kernel_rfl) fun σ σr t h ho hl => lt14_0 σ σr t h ho hl, trivial⟩)
theorem t14 : Con 100014 q14 := DS33_t fun a b hk => tzl at14 Q10_ok hL14 [(18, K0), (19, K0), (22, K0), (23, K0)] [] true (T14 a b) (n14 a b) hk
def Q14 := qcons 100014 q14 Q10
theorem Q14_ok : QO Q14 := qcons_ok t14 Q10_ok
def AS34 (a : GRegs) (b : GRegs) : List SV := [(.agg [.imm true 1 a.D, .imm true 1 a.A, li a.Other, li a.PC, li a.Flags, li a.Mask, .lit (.bool a.Super), .lit (.bool a.Trace)]), (.agg [.imm true 1 b.D, .imm true 1 b.A, li b.Other, li b.PC, li b.Flags, li b.Mask, .lit (.bool b.Super), .lit (.bool b.Trace)])]
def HS34 (a : GRegs) (b : GRegs) : List Blk := []
def DS34 (N : GRegs → GRegs → SV × List Blk) (K : GRegs → GRegs → Bool) : List SV → List Blk → Option ((SV × List Blk) × Bool)
 | [(.agg [.imm true 1 c0, .imm true 1 c1, li c2, li c3, li c4, li c5, .lit (.bool c6), .lit (.bool c7)]), (.agg [.imm true 1 c8, .imm true 1 c9, li c10, li c11, li c12, li c13, .lit (.bool c14), .lit (.bool c15)])], [] => some (N (GRegs.mk c0 c1 c2 c3 c4 c5 c6 c7) (GRegs.mk c8 c9 c10 c11 c12 c13 c14 c15), K (GRegs.mk c0 c1 c2 c3 c4 c5 c6 c7) (GRegs.mk c8 c9 c10 c11 c12 c13 c14 c15))
 | _, _ => none
theorem DS34_t {N : GRegs → GRegs → SV × List Blk} {K : GRegs → GRegs → Bool} {f : Nat} (h : ∀ (a : GRegs) (b : GRegs), K a b = true → frzR R f (AS34 a b) (HS34 a b) = some (N a b)) : Con f (DS34 N K) := fun _ _ _ e => by
 unfold DS34 at e
 split at e
 ·exact dsf e (h _ _)
 ·cases e
def T13 (a : GRegs) (b : GRegs) : Pt (Bool) := (.ok true (.ok ((k14 a.D b.D) && ((((k14 a.A b.A) && true) || (!(g14 a.D b.D))) && true)) (.ok true (.ok true (.leaf (bif (bif (bif (bif (bif (bif (bif (g14 a.D b.D) then (g14 a.A b.A) else false) then (eqI a.Other b.Other) else false) then (eqI a.PC b.PC) else false) then (eqI a.Flags b.Flags) else false) then (eqI a.Mask b.Mask) else false) then (eqB a.Super b.Super) else false) then (eqB a.Trace b.Trace) else false))))))
def g13 (a : GRegs) (b : GRegs) : Bool := hid (T13 a b).val
def k13 (a : GRegs) (b : GRegs) : Bool := hid (T13 a b).okv
def n13 (a : GRegs) (b : GRegs) (r : Bool) : SV × List Blk := ((.one (.lit (.bool r))), [])
def q13 := DS34 (fun a b => n13 a b (g13 a b)) k13
theorem t13 : Con 100013 q13 := DS34_t fun a b hk => tz at13 Q14_ok [(6, K1), (8, K1), (12, K1), (14, K1), (19, K0), (21, K0), (26, K0), (28, K0), (33, K0), (35, K0), (40, K0), (42, K0), (47, K11), (49, K11), (54, K11), (56, K11)] [] true (T13 a b) (n13 a b) hk
def Q13 := qcons 100013 q13 Q14
theorem Q13_ok : QO Q13 := qcons_ok t13 Q14_ok
def AS35 (a : List Row) (b : List Row) : List SV := [(.one (.imm true 5 a)), (.one (.imm true 5 b))]
def HS35 (a : List Row) (b : List Row) : List Blk := []
def DS35 (N : List Row → List Row → SV × List Blk) (K : List Row → List Row → Bool) : List SV → List Blk → Option ((SV × List Blk) × Bool)
 | [(.one (.imm true 5 c0)), (.one (.imm true 5 c1))], [] => some (N c0 c1, K c0 c1)
 | _, _ => none
theorem DS35_t {N : List Row → List Row → SV × List Blk} {K : List Row → List Row → Bool} {f : Nat} (h : ∀ (a : List Row) (b : List Row), K a b = true → frzR R f (AS35 a b) (HS35 a b) = some (N a b)) : Con f (DS35 N K) := fun _ _ _ e => by
 unfold DS35 at e
 split at e
 ·exact dsf e (h _ _)
 ·cases e
structure V157_0 where
 mk ::
 (s0 : List Row)
 (s1 : List Row)
 (s12 : Int)
 (s13 : Int)
def N157_0 (v : V157_0) : Pt (Option V157_0) := (.ok true (.br (ltI v.s13 v.s12) (.ok true (.ok ((inRow [.int .i64, .int .i64, .int .i64, .int .i64, .int .i64] v.s0 v.s13) && ((inRow [.int .i64, .int .i64, .int .i64, .int .i64, .int .i64] v.s1 v.s13) && true)) (.br (!((eqI (intAt v.s0 (Int.toNat v.s13) 0) (intAt v.s1 (Int.toNat v.s13) 0)) && ((eqI (intAt v.s0 (Int.toNat v.s13) 1) (intAt v.s1 (Int.toNat v.s13) 1)) && ((eqI (intAt v.s0 (Int.toNat v.s13) 2) (intAt v.s1 (Int.toNat v.s13) 2)) && ((eqI (intAt v.s0 (Int.toNat v.s13) 3) (intAt v.s1 (Int.toNat v.s13) 3)) && ((eqI (intAt v.s0 (Int.toNat v.s13) 4) (intAt v.s1 (Int.toNat v.s13) 4)) && true)))))) (.ok true (.leaf none)) (.ok true (.ok true (.leaf (some { v with s13 := (addI v.s13 1) }))))))) (.leaf none)))
def s157_0 (v : V157_0) : St := ⟨[(0, (.one (.imm true 5 v.s0))), (1, (.one (.imm true 5 v.s1))), (12, (.one (li v.s12))), (13, (.one (li v.s13)))], []⟩
def u157_0 : St → Option (V157_0 × Bool)
 | ⟨[(0, (.one (.imm true 5 c0))), (1, (.one (.imm true 5 c1))), (12, (.one (li c2))), (13, (.one (li c3)))], []⟩ => some ((V157_0.mk c0 c1 c2 c3), true)
 | _ => none
def ev157_0 : St → Option (Pt Out) := evp Q13 [(18, K9), (19, K9), (22, K9), (23, K9)] [] true [] 0 2097152 F157b0
theorem hN157_0 (v : V157_0) : ((ev157_0 (s157_0 v)).bind (stpT true false 0 [0, 1, 12, 13])) = some ((N157_0 v).map (Option.map s157_0)) := by kernel_rfl
theorem hu157_0 (σ : St) (v : V157_0) (h : u157_0 σ = some (v, true)) : σ = s157_0 v := by
 unfold u157_0 at h
 split at h
 ·obtain ⟨hr, hk⟩ := qp (qi h)
  rw [← hr]
  rfl
 ·simp at h
theorem lt157_0 : TellsP (lqP true false 0 [0, 1, 12, 13] ev157_0 u157_0 s157_0 N157_0 2097152) (evc R 0 2097152 (.loop [0, 1, 12, 13] F157b0)) := lqP_tells (evp_tells Q13_ok (loops_of (l := []) (by kernel_rfl) trivial)) hu157_0 hN157_0
def lq157_0 : Lp   := (14, lqP true false 0 [0, 1, 12, 13] ev157_0 u157_0 s157_0 N157_0 2097152) :: []
def w157_0 (v : V157_0) : V157_0 := (hid (loopV N157_0 2097152 v)).getD v
def i157_0 (v : V157_0) : Bool := (hid (loopV N157_0 2097152 v)).isSome
section
variable (a : List Row) (b : List Row)
def y157_0 : V157_0 := (w157_0 (V157_0.mk a b (lenI a) 0))
end
def T157 (a : List Row) (b : List Row) : Pt (Bool) := (.ok true (.ok true (.br (neI (lenI a) (lenI b)) (.ok true (.ok true (.ok true (.leaf false)))) (.ok true (.ok true (.ok true (.ok (i157_0 (V157_0.mk a b (lenI a) 0)) (.br (ltI (y157_0 a b).s13 (y157_0 a b).s12) (.ok true (.ok true (.leaf false))) (.ok true (.ok true (.ok true (.leaf true))))))))))))
def g157 (a : List Row) (b : List Row) : Bool := hid (T157 a b).val
def k157 (a : List Row) (b : List Row) : Bool := hid (T157 a b).okv
def q157 := DS35 (fun a b => n14 a b (g157 a b)) k157
theorem hL157 : Loops (fun live x => TellsP (lpAt lq157_0 (tagC x)) (evc R 0 2097152 (.loop live x))) F157.body := (loops_of (l := [([0, 1, 12, 13], F157b0)]) (by kernel_rfl) ⟨tellsAt (n := 14) (by kernel_rfl) fun σ σr t h ho hl => lt157_0 σ σr t h ho hl, trivial⟩)
theorem t157 : Con 100157 q157 := DS35_t fun a b hk => tzl at157 Q13_ok hL157 [(18, K9), (19, K9), (22, K9), (23, K9)] [] true (T157 a b) (n14 a b) hk
def Q157 := qcons 100157 q157 Q13
theorem Q157_ok : QO Q157 := qcons_ok t157 Q13_ok
def AS36 (a : GBus) (b : GBus) : List SV := [(.agg [.imm true 1 a.Bytes, .imm true 5 a.Log]), (.agg [.imm true 1 b.Bytes, .imm true 5 b.Log])]
def HS36 (a : GBus) (b : GBus) : List Blk := []
def DS36 (N : GBus → GBus → SV × List Blk) (K : GBus → GBus → Bool) : List SV → List Blk → Option ((SV × List Blk) × Bool)
 | [(.agg [.imm true 1 c0, .imm true 5 c1]), (.agg [.imm true 1 c2, .imm true 5 c3])], [] => some (N (GBus.mk c0 c1) (GBus.mk c2 c3), K (GBus.mk c0 c1) (GBus.mk c2 c3))
 | _, _ => none
theorem DS36_t {N : GBus → GBus → SV × List Blk} {K : GBus → GBus → Bool} {f : Nat} (h : ∀ (a : GBus) (b : GBus), K a b = true → frzR R f (AS36 a b) (HS36 a b) = some (N a b)) : Con f (DS36 N K) := fun _ _ _ e => by
 unfold DS36 at e
 split at e
 ·exact dsf e (h _ _)
 ·cases e
def T82 (a : GBus) (b : GBus) : Pt (Bool) := (.ok true (.ok ((k14 a.Bytes b.Bytes) && ((((k157 a.Log b.Log) && true) || (!(g14 a.Bytes b.Bytes))) && true)) (.ok true (.ok true (.leaf (bif (g14 a.Bytes b.Bytes) then (g157 a.Log b.Log) else false))))))
def g82 (a : GBus) (b : GBus) : Bool := hid (T82 a b).val
def k82 (a : GBus) (b : GBus) : Bool := hid (T82 a b).okv
def n82 (a : GBus) (b : GBus) (r : Bool) : SV × List Blk := ((.one (.lit (.bool r))), [])
def q82 := DS36 (fun a b => n82 a b (g82 a b)) k82
theorem t82 : Con 100082 q82 := DS36_t fun a b hk => tz at82 Q157_ok [(6, K1), (8, K1), (12, K10), (14, K10)] [] true (T82 a b) (n82 a b) hk
def Q82 := qcons 100082 q82 Q157
theorem Q82_ok : QO Q82 := qcons_ok t82 Q157_ok
def AS37 (a : GCpu) (b : GCpu) : List SV := [(.agg [.imm true 1 a.R.D, .imm true 1 a.R.A, li a.R.Other, li a.R.PC, li a.R.Flags, li a.R.Mask, .lit (.bool a.R.Super), .lit (.bool a.R.Trace), .imm true 1 a.Bus.Bytes, .imm true 5 a.Bus.Log, .lit (.bool a.Stop), .lit (.bool a.Halt)]), (.agg [.imm true 1 b.R.D, .imm true 1 b.R.A, li b.R.Other, li b.R.PC, li b.R.Flags, li b.R.Mask, .lit (.bool b.R.Super), .lit (.bool b.R.Trace), .imm true 1 b.Bus.Bytes, .imm true 5 b.Bus.Log, .lit (.bool b.Stop), .lit (.bool b.Halt)])]
def HS37 (a : GCpu) (b : GCpu) : List Blk := []
def DS37 (N : GCpu → GCpu → SV × List Blk) (K : GCpu → GCpu → Bool) : List SV → List Blk → Option ((SV × List Blk) × Bool)
 | [(.agg [.imm true 1 c0, .imm true 1 c1, li c2, li c3, li c4, li c5, .lit (.bool c6), .lit (.bool c7), .imm true 1 c8, .imm true 5 c9, .lit (.bool c10), .lit (.bool c11)]), (.agg [.imm true 1 c12, .imm true 1 c13, li c14, li c15, li c16, li c17, .lit (.bool c18), .lit (.bool c19), .imm true 1 c20, .imm true 5 c21, .lit (.bool c22), .lit (.bool c23)])], [] => some (N (GCpu.mk (GRegs.mk c0 c1 c2 c3 c4 c5 c6 c7) (GBus.mk c8 c9) c10 c11) (GCpu.mk (GRegs.mk c12 c13 c14 c15 c16 c17 c18 c19) (GBus.mk c20 c21) c22 c23), K (GCpu.mk (GRegs.mk c0 c1 c2 c3 c4 c5 c6 c7) (GBus.mk c8 c9) c10 c11) (GCpu.mk (GRegs.mk c12 c13 c14 c15 c16 c17 c18 c19) (GBus.mk c20 c21) c22 c23))
 | _, _ => none
theorem DS37_t {N : GCpu → GCpu → SV × List Blk} {K : GCpu → GCpu → Bool} {f : Nat} (h : ∀ (a : GCpu) (b : GCpu), K a b = true → frzR R f (AS37 a b) (HS37 a b) = some (N a b)) : Con f (DS37 N K) := fun _ _ _ e => by
 unfold DS37 at e
 split at e
 ·exact dsf e (h _ _)
 ·cases e
end
end Go.Proofs.YtdipcnijfkdnfaaGreatStack
