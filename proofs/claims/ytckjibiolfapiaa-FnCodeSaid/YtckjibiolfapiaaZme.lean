/- Code: the plain law. -/
import Derived.Test.YtckjibiolfapiaaZqCodeQ
import Derived.Test.YtckjibiolfapiaaZmd
set_option linter.unusedVariables false
set_option linter.unusedSimpArgs false
namespace Go.Proofs.YtckjibiolfapiaaCode
open Go Go.Zq
set_option maxHeartbeats 4000000
set_option maxRecDepth 100000

/-! Bounds, lists of bytes, equal lists. -/
@[simp] theorem within_g (x a b : Int) : g142 x a b = inB x a b := by
  simp only [g142, hid_eq, T142, val_ok, val_leaf, geI, leI, inB, ge_iff_le]
  cases decide (a ≤ x) <;> rfl
@[simp] theorem within_k (x a b : Int) : k142 x a b = true := by
  simp [k142, hid_eq, T142]
@[simp] theorem l1In_g (x a b : Int) : g144 x a b = inB x a b := by
  simp only [g144, hid_eq, T144, val_ok, val_leaf, geI, leI, inB, ge_iff_le]
  cases decide (a ≤ x) <;> rfl
@[simp] theorem l1In_k (x a b : Int) : k144 x a b = true := by
  simp [k144, hid_eq, T144]
/-! Sizes, operands. -/
theorem word_s (a : Int) : k162 a = true ∧ g162 a = inB a 0 65535 := by
  constructor
  · simp [k162, hid_eq, T162]
  · simp [g162, hid_eq, T162]
theorem word_i (a : Int) : k160 a = true ∧ g160 a = inB a 0 65535 := by
  constructor
  · simp [k160, hid_eq, T160]
  · simp [g160, hid_eq, T160]
def sizeB (s : Int) : Bool := bif eqI s 1 then true else eqI s 2
theorem size_s (s : Int) : k201 s = true ∧ g201 s = sizeB s := by
  refine sat_hid (t := T201 s) (P := fun r => r = sizeB s) ?_
  unfold T201 sizeB
  simp only [sat_ok', sat_leaf, true_and]
theorem size_i (s : Int) : k198 s = true ∧ g198 s = sizeB s := by
  refine sat_hid (t := T198 s) (P := fun r => r = sizeB s) ?_
  unfold T198 sizeB
  simp only [sat_ok', sat_leaf, true_and]
theorem ext_s (m : Int) : k204 m = true ∧ g204 m = geI m 5 := by
  refine sat_hid (t := T204 m) (P := fun r => r = geI m 5) ?_
  unfold T204
  simp only [sat_ok', sat_leaf, true_and]
def extB (m : Int) : Bool := bif (bif eqI m 5 then true else eqI m 6) then true else eqI m 7
theorem ext_i (m : Int) : k203 m = true ∧ g203 m = extB m := by
  refine sat_hid (t := T203 m) (P := fun r => r = extB m) ?_
  unfold T203 extB
  simp only [sat_ok', sat_leaf, true_and]
theorem ext_eq {m : Int} (h : inB m 0 7 = true) : extB m = geI m 5 := by
  rw [inB_iff] at h
  unfold extB
  have : m = 0 ∨ m = 1 ∨ m = 2 ∨ m = 3 ∨ m = 4 ∨ m = 5 ∨ m = 6 ∨ m = 7 := by omega
  rcases this with rfl | rfl | rfl | rfl | rfl | rfl | rfl | rfl <;> rfl
def opB (o : GOperand) : Bool := inB o.Mode 0 7 && (inB o.Reg 0 3 && ((eqI o.Reg 0 || ltI o.Mode 6) && (inB o.Ext 0 65535 && (geI o.Mode 5 || eqI o.Ext 0))))
theorem op_s (o : GOperand) : k115 o = true ∧ g115 o = opB o := by
  refine sat_hid (t := T115 o) (P := fun r => r = opB o) ?_
  have e1 : geI o.Mode 6 = !ltI o.Mode 6 := by
    cases h : ltI o.Mode 6
    · rw [ltI_f] at h; exact geI_iff.2 h
    · rw [ltI_iff] at h; exact geI_f.2 h
  have e2 : neI o.Reg 0 = !eqI o.Reg 0 := rfl
  unfold T115 opB
  simp only [sat_ok', sat_br, sat_leaf, l1In_g, l1In_k, (word_s _).1, (word_s _).2, (ext_s _).1, (ext_s _).2, e1, e2, Bool.and_true, Bool.true_or, true_and]
  cases inB o.Mode 0 7 <;> cases inB o.Reg 0 3 <;> cases eqI o.Reg 0 <;> cases ltI o.Mode 6 <;> cases inB o.Ext 0 65535 <;> cases geI o.Mode 5 <;> simp
theorem op_i (o : GOperand) : k114 o = true ∧ g114 o = opB o := by
  refine sat_hid (t := T114 o) (P := fun r => r = opB o) ?_
  have e2 : neI o.Ext 0 = !eqI o.Ext 0 := rfl
  unfold T114 opB
  simp only [sat_ok', sat_br, sat_leaf, y114_0, within_g, within_k, (word_i _).1, (word_i _).2, (ext_i _).1, (ext_i _).2, e2, Bool.and_true, Bool.true_or, true_and]
  cases hm : inB o.Mode 0 7
  · simp
  · rw [ext_eq hm]
    cases inB o.Reg 0 3 <;> cases eqI o.Reg 0 <;> cases ltI o.Mode 6 <;> cases inB o.Ext 0 65535 <;> cases geI o.Mode 5 <;> cases eqI o.Ext 0 <;> simp
/-! Kinds. -/
def memB (m : Int) : Bool := inB m 2 6
def setB (m : Int) : Bool := bif eqI m 0 then true else memB m
def plainB (m : Int) : Bool := bif (bif eqI m 2 then true else eqI m 5) then true else eqI m 6
def nowB (o : GOperand) : Bool := bif eqI o.Mode 7 then leI o.Ext 1023 else false
def zeroB (o : GOperand) : Bool := eqI o.Mode 0 && (eqI o.Reg 0 && eqI o.Ext 0)
theorem mem_s (m : Int) : k233 m = true ∧ g233 m = memB m := by
  refine sat_hid (t := T233 m) (P := fun r => r = memB m) ?_
  unfold T233 memB
  simp only [sat_ok', sat_leaf, l1In_g, l1In_k, Bool.and_true, true_and]
theorem mem_i (m : Int) : k199 m = true ∧ g199 m = memB m := by
  refine sat_hid (t := T199 m) (P := fun r => r = memB m) ?_
  unfold T199 memB
  simp only [sat_ok', sat_leaf, within_g, within_k, Bool.and_true, true_and]
theorem set_i (m : Int) : k237 m = true ∧ g237 m = setB m := by
  refine sat_hid (t := T237 m) (P := fun r => r = setB m) ?_
  unfold T237 setB
  simp only [sat_ok', sat_leaf, (mem_i _).1, (mem_i _).2, Bool.true_or, Bool.and_true, true_and]
theorem plain_s (m : Int) : k234 m = true ∧ g234 m = plainB m := by
  refine sat_hid (t := T234 m) (P := fun r => r = plainB m) ?_
  unfold T234 plainB
  simp only [sat_ok', sat_leaf, true_and]
theorem plain_i (m : Int) : k238 m = true ∧ g238 m = plainB m := by
  refine sat_hid (t := T238 m) (P := fun r => r = plainB m) ?_
  unfold T238 plainB
  simp only [sat_ok', sat_leaf, true_and]
theorem now_s (o : GOperand) : k235 o = true ∧ g235 o = nowB o := by
  refine sat_hid (t := T235 o) (P := fun r => r = nowB o) ?_
  unfold T235 nowB
  simp only [sat_ok', sat_leaf, true_and]
theorem now_i (o : GOperand) : k240 o = true ∧ g240 o = nowB o := by
  refine sat_hid (t := T240 o) (P := fun r => r = nowB o) ?_
  unfold T240 nowB
  simp only [sat_ok', sat_leaf, true_and]
theorem zero_s (o : GOperand) : k236 o = true ∧ g236 o = zeroB o := by
  refine sat_hid (t := T236 o) (P := fun r => r = zeroB o) ?_
  unfold T236 zeroB
  simp only [sat_ok', sat_leaf, Bool.and_true, true_and]
def flowB (x : GIns) : Bool := bif (bif neI x.Size 2 then true else gtI x.Sub 6) then false else bif eqI x.Sub 3 then (bif eqI x.Reg 0 then nowB x.Ea else false) else bif (bif ltI x.Sub 3 then neI x.Reg 0 else false) then false else zeroB x.Ea
theorem flow_i (x : GIns) : k239 x = true ∧ g239 x = flowB x := by
  refine sat_hid (t := T239 x) (P := fun r => r = flowB x) ?_
  unfold T239 flowB
  simp only [sat_ok', sat_br, sat_leaf, (now_i _).1, (now_i _).2, Bool.true_or, Bool.and_true, true_and]
  refine ⟨fun h => by rw [h]; rfl, fun h => ⟨fun k => by rw [h, k]; rfl, fun k => ⟨fun m => by rw [h, k, m]; rfl, fun m => by rw [h, k, m]; rfl⟩⟩⟩
/-- Instructions of a kind. -/
def kB (x : GIns) : Bool :=
  bif (bif (eqI x.Op 1) then (eqI x.Op 1) else (bif (eqI x.Op 3) then (eqI x.Op 3) else (bif (eqI x.Op 4) then (eqI x.Op 4) else (bif (eqI x.Op 5) then (eqI x.Op 5) else (bif (eqI x.Op 6) then (eqI x.Op 6) else (bif (eqI x.Op 7) then (eqI x.Op 7) else (eqI x.Op 8))))))) then (bif eqI x.Sub 0 then (bif neI x.Ea.Mode 1 then true else eqI x.Size 2) else false)
  else bif eqI x.Op 2 then (bif eqI x.Sub 0 then setB x.Ea.Mode else false)
  else bif eqI x.Op 9 then (bif eqI x.Size 2 then eqI x.Sub 0 else false)
  else bif eqI x.Op 10 then (bif (bif eqI x.Size 2 then eqI x.Sub 0 else false) then plainB x.Ea.Mode else false)
  else bif eqI x.Op 11 then (bif (bif eqI x.Reg 0 then leI x.Sub 3 else false) then setB x.Ea.Mode else false)
  else bif eqI x.Op 12 then eqI x.Ea.Mode 0
  else bif eqI x.Op 13 then (bif (bif eqI x.Size 2 then leI x.Reg 1 else false) then eqI x.Ea.Mode 7 else false)
  else bif eqI x.Op 14 then (bif (bif (bif eqI x.Size 2 then eqI x.Reg 0 else false) then leI x.Sub 1 else false) then plainB x.Ea.Mode else false)
  else bif eqI x.Op 15 then flowB x
  else bif (bif eqI x.Op 16 then eqI x.Op 16 else eqI x.Op 17) then (bif (bif eqI x.Size 2 then eqI x.Sub 0 else false) then neI x.Ea.Mode 1 else false)
  else bif eqI x.Op 18 then (bif (bif !(eqI x.Size 2) then leI x.Sub 1 else false) then eqI x.Ea.Mode 0 else false)
  else bif eqI x.Op 19 then (bif eqI x.Size 2 then (bif (bif (bif eqI x.Sub 0 then eqI x.Reg 0 else false) then nowB x.Ea else false) then true else (bif eqI x.Sub 1 then zeroB x.Ea else false)) else false)
  else false
theorem bif_of {α : Type} {P : α → Prop} {b : Bool} {x y : α} (h : b = true → P x) (k : b = false → P y) : P (bif b then x else y) := by
  cases b
  · exact k rfl
  · exact h rfl
theorem kind_i (x : GIns) : k211 x = true ∧ g211 x = kB x := by
  refine sat_hid (t := T211 x) (P := fun r => r = kB x) ?_
  unfold T211
  simp only [sat_ok', sat_br, sat_leaf, y211_3, y211_2, y211_1, y211_0, (set_i _).1, (set_i _).2, (plain_i _).1, (plain_i _).2, (now_i _).1, (now_i _).2, (flow_i _).1, (flow_i _).2, Bool.true_or, Bool.and_true, true_and]
  unfold kB
  refine ⟨fun h => by rw [h]; rfl, fun h1 => ?_⟩
  rw [h1]
  refine ⟨fun h => by rw [h]; rfl, fun h1 => ?_⟩
  rw [h1]
  refine ⟨fun h => by rw [h]; rfl, fun h1 => ?_⟩
  rw [h1]
  refine ⟨fun h => by rw [h]; rfl, fun h1 => ?_⟩
  rw [h1]
  refine ⟨fun h => by rw [h]; rfl, fun h1 => ?_⟩
  rw [h1]
  refine ⟨fun h => by rw [h]; rfl, fun h1 => ?_⟩
  rw [h1]
  refine ⟨fun h => by rw [h]; rfl, fun h1 => ?_⟩
  rw [h1]
  refine ⟨fun h => by rw [h]; rfl, fun h1 => ?_⟩
  rw [h1]
  refine ⟨fun h => by rw [h]; rfl, fun h1 => ?_⟩
  rw [h1]
  refine ⟨fun h => by rw [h]; rfl, fun h1 => ?_⟩
  rw [h1]
  refine ⟨fun h => by rw [h]; rfl, fun h1 => ?_⟩
  rw [h1]
  refine ⟨fun h => by rw [h]; rfl, fun h1 => ?_⟩
  rw [h1]
  rfl
end Go.Proofs.YtckjibiolfapiaaCode

/- Code: the plain law. -/
namespace Go.Proofs.YtckjibiolfapiaaCode
open Go Go.Zq
set_option maxHeartbeats 4000000
set_option maxRecDepth 100000

def byteB (x : GIns) : Bool := bif (bif eqI x.Ea.Mode 7 then eqI x.Size 1 else false) then gtI x.Ea.Ext 255 else false
def goodI (x : GIns) : Bool := sizeB x.Size && (inB x.Reg 0 3 && (opB x.Ea && (inB x.Sub 0 7 && (!byteB x && kB x))))
theorem good_i (x : GIns) : k125 x = true ∧ g125 x = goodI x := by
  refine sat_hid (t := T125 x) (P := fun r => r = goodI x) ?_
  unfold T125 goodI byteB
  simp only [sat_ok', sat_leaf, y125_2, y125_1, y125_0, within_g, within_k, (size_i _).1, (size_i _).2, (op_i _).1, (op_i _).2, (kind_i _).1, (kind_i _).2, Bool.true_or, Bool.and_true, true_and]
  cases sizeB x.Size <;> cases inB x.Reg 0 3 <;> cases opB x.Ea <;> cases inB x.Sub 0 7 <;> cases (bif (bif eqI x.Ea.Mode 7 then eqI x.Size 1 else false) then gtI x.Ea.Ext 255 else false) <;> rfl
theorem kB_15 (x : GIns) (h : x.Op = 15) : kB x = flowB x := by
  unfold kB
  rw [h]
  rfl
theorem good_s (x : GIns) : k209 x = true ∧ g209 x = goodI x := by
  refine sat_hid (t := T209 x) (P := fun r => r = goodI x) ?_
  unfold T209
  simp only [sat_ok', sat_br, sat_leaf, y209_10, y209_9, y209_8, y209_7, y209_6, y209_5, y209_4, y209_3, y209_2, y209_1, y209_0, l1In_g, l1In_k, (size_s _).1, (size_s _).2, (op_s _).1, (op_s _).2, (mem_s _).1, (mem_s _).2, (plain_s _).1, (plain_s _).2, (now_s _).1, (now_s _).2, (zero_s _).1, (zero_s _).2, Bool.true_or, Bool.and_true, true_and]
  have e : goodI x = bif (bif (bif (bif (bif !sizeB x.Size then true else !inB x.Reg 0 3) then true else !opB x.Ea) then true else !inB x.Sub 0 7) then true else byteB x) then false else kB x := by
    unfold goodI
    cases sizeB x.Size <;> cases inB x.Reg 0 3 <;> cases opB x.Ea <;> cases inB x.Sub 0 7 <;> cases byteB x <;> rfl
  rw [e]
  refine ⟨fun h => ?_, fun h => ?_⟩
  · have h' : (bif (bif (bif (bif (bif !sizeB x.Size then true else !inB x.Reg 0 3) then true else !opB x.Ea) then true else !inB x.Sub 0 7) then true else byteB x) then false else kB x) = false := by
      have : (bif (bif (bif (bif !sizeB x.Size then true else !inB x.Reg 0 3) then true else !opB x.Ea) then true else !inB x.Sub 0 7) then true else byteB x) = true := h
      rw [this]; rfl
    exact h'.symm
  · have h' : (bif (bif (bif (bif (bif !sizeB x.Size then true else !inB x.Reg 0 3) then true else !opB x.Ea) then true else !inB x.Sub 0 7) then true else byteB x) then false else kB x) = kB x := by
      have : (bif (bif (bif (bif !sizeB x.Size then true else !inB x.Reg 0 3) then true else !opB x.Ea) then true else !inB x.Sub 0 7) then true else byteB x) = false := h
      rw [this]; rfl
    rw [h']
    by_cases h15 : x.Op = 15
    · rw [kB_15 x h15]
      unfold flowB
      rw [h15]
      simp only [show eqI 15 1 = false from rfl, show eqI 15 2 = false from rfl, show eqI 15 3 = false from rfl, show eqI 15 4 = false from rfl, show eqI 15 5 = false from rfl, show eqI 15 6 = false from rfl, show eqI 15 7 = false from rfl, show eqI 15 8 = false from rfl, show eqI 15 9 = false from rfl, show eqI 15 10 = false from rfl, show eqI 15 11 = false from rfl, show eqI 15 12 = false from rfl, show eqI 15 13 = false from rfl, show eqI 15 14 = false from rfl, show eqI 15 15 = true from rfl, show eqI 15 16 = false from rfl, show eqI 15 17 = false from rfl, show eqI 15 18 = false from rfl, show eqI 15 19 = false from rfl, cond_false, Bool.false_eq_true, Bool.true_eq_false, false_implies, forall_const, true_and, and_true]
      have e6 : gtI x.Sub 6 = !leI x.Sub 6 := by
        cases hh : leI x.Sub 6
        · rw [leI_f] at hh; exact gtI_iff.2 hh
        · rw [leI_iff] at hh; exact gtI_f.2 hh
      have e2 : neI x.Size 2 = !eqI x.Size 2 := rfl
      have e0 : neI x.Reg 0 = !eqI x.Reg 0 := rfl
      refine ⟨fun h3 => ?_, fun h3 => ?_⟩
      · have l6 : leI x.Sub 6 = true := by rw [eqI_iff] at h3; rw [leI_iff]; omega
        rw [h3, e6, l6, e2]
        cases eqI x.Size 2 <;> cases eqI x.Reg 0 <;> rfl
      · rw [h3, e6, e2, e0]
        have e3 : gtI x.Sub 3 = !ltI x.Sub 3 := by
          rw [eqI_f] at h3
          cases hh : ltI x.Sub 3
          · rw [ltI_f] at hh; exact gtI_iff.2 (by omega)
          · rw [ltI_iff] at hh; exact gtI_f.2 (by omega)
        rw [e3]
        cases eqI x.Size 2 <;> cases leI x.Sub 6 <;> cases eqI x.Reg 0 <;> cases ltI x.Sub 3 <;> cases zeroB x.Ea <;> rfl
    · have n15 : eqI x.Op 15 = false := by rw [eqI_f]; exact h15
      have cm : (bif neI x.Ea.Mode 1 then true else eqI x.Size 2) = bif eqI x.Size 2 then true else neI x.Ea.Mode 1 := by
        cases neI x.Ea.Mode 1 <;> cases eqI x.Size 2 <;> rfl
      unfold kB
      rw [n15, cm]
      refine ⟨fun h => by rw [h]; rfl, fun h1 => ?_⟩
      rw [h1]
      refine ⟨fun h => by rw [h]; rfl, fun h1 => ?_⟩
      rw [h1]
      refine ⟨fun h => by rw [h]; rfl, fun h1 => ?_⟩
      rw [h1]
      refine ⟨fun h => by rw [h]; rfl, fun h1 => ?_⟩
      rw [h1]
      refine ⟨fun h => by rw [h]; rfl, fun h1 => ?_⟩
      rw [h1]
      refine ⟨fun h => by rw [h]; rfl, fun h1 => ?_⟩
      rw [h1]
      refine ⟨fun h => by rw [h]; rfl, fun h1 => ?_⟩
      rw [h1]
      refine ⟨fun h => by rw [h]; rfl, fun h1 => ?_⟩
      rw [h1]
      refine ⟨fun h => by rw [h]; rfl, fun h1 => ?_⟩
      rw [h1]
      refine ⟨fun h => by rw [h]; rfl, fun h1 => ?_⟩
      rw [h1]
      refine ⟨fun h => by rw [h]; rfl, fun h1 => ?_⟩
      rw [h1]
      simp only [Bool.false_eq_true, false_implies, forall_const, true_and]
      rfl
end Go.Proofs.YtckjibiolfapiaaCode

/- Code: the plain law. -/
namespace Go.Proofs.YtckjibiolfapiaaCode
open Go Go.Zq
set_option maxHeartbeats 4000000
set_option maxRecDepth 100000

/-! Words of an instruction. -/
theorem shl_11 {v : Int} (h : 0 ≤ v) (h1 : v < 65536) : shlI v 11 = v * 2048 := by
  unfold shlI
  rw [show ((2 : Int) ^ min (Int.toNat 11) 64) = 2048 from by decide, IntKind.wrap_i64]
  omega
theorem or_11 {q r : Int} (hq : 0 ≤ q) (hq1 : q < 65536) (hr : 0 ≤ r) (hr1 : r < 2048) : orI (q * 2048) r = q * 2048 + r := by
  obtain ⟨a, rfl⟩ := Int.eq_ofNat_of_zero_le hq
  obtain ⟨b, rfl⟩ := Int.eq_ofNat_of_zero_le hr
  unfold orI
  rw [BitVec.toNat_or, BitVec.toNat_ofInt, BitVec.toNat_ofInt]
  have e1 : (((a : Int) * 2048) % ((2 ^ 64 : Nat) : Int)).toNat = 2 ^ 11 * a := by omega
  have e2 : ((b : Int) % ((2 ^ 64 : Nat) : Int)).toNat = b := by omega
  rw [e1, e2, ← Nat.two_pow_add_eq_or_of_lt (by omega), IntKind.wrap_i64]
  omega
theorem shl_10 {v : Int} (h : 0 ≤ v) (h1 : v < 65536) : shlI v 10 = v * 1024 := by
  unfold shlI
  rw [show ((2 : Int) ^ min (Int.toNat 10) 64) = 1024 from by decide, IntKind.wrap_i64]
  omega
theorem or_10 {q r : Int} (hq : 0 ≤ q) (hq1 : q < 65536) (hr : 0 ≤ r) (hr1 : r < 1024) : orI (q * 1024) r = q * 1024 + r := by
  obtain ⟨a, rfl⟩ := Int.eq_ofNat_of_zero_le hq
  obtain ⟨b, rfl⟩ := Int.eq_ofNat_of_zero_le hr
  unfold orI
  rw [BitVec.toNat_or, BitVec.toNat_ofInt, BitVec.toNat_ofInt]
  have e1 : (((a : Int) * 1024) % ((2 ^ 64 : Nat) : Int)).toNat = 2 ^ 10 * a := by omega
  have e2 : ((b : Int) % ((2 ^ 64 : Nat) : Int)).toNat = b := by omega
  rw [e1, e2, ← Nat.two_pow_add_eq_or_of_lt (by omega), IntKind.wrap_i64]
  omega
theorem shl_8 {v : Int} (h : 0 ≤ v) (h1 : v < 65536) : shlI v 8 = v * 256 := by
  unfold shlI
  rw [show ((2 : Int) ^ min (Int.toNat 8) 64) = 256 from by decide, IntKind.wrap_i64]
  omega
theorem or_8 {q r : Int} (hq : 0 ≤ q) (hq1 : q < 65536) (hr : 0 ≤ r) (hr1 : r < 256) : orI (q * 256) r = q * 256 + r := by
  obtain ⟨a, rfl⟩ := Int.eq_ofNat_of_zero_le hq
  obtain ⟨b, rfl⟩ := Int.eq_ofNat_of_zero_le hr
  unfold orI
  rw [BitVec.toNat_or, BitVec.toNat_ofInt, BitVec.toNat_ofInt]
  have e1 : (((a : Int) * 256) % ((2 ^ 64 : Nat) : Int)).toNat = 2 ^ 8 * a := by omega
  have e2 : ((b : Int) % ((2 ^ 64 : Nat) : Int)).toNat = b := by omega
  rw [e1, e2, ← Nat.two_pow_add_eq_or_of_lt (by omega), IntKind.wrap_i64]
  omega
theorem shl_5 {v : Int} (h : 0 ≤ v) (h1 : v < 65536) : shlI v 5 = v * 32 := by
  unfold shlI
  rw [show ((2 : Int) ^ min (Int.toNat 5) 64) = 32 from by decide, IntKind.wrap_i64]
  omega
theorem or_5 {q r : Int} (hq : 0 ≤ q) (hq1 : q < 65536) (hr : 0 ≤ r) (hr1 : r < 32) : orI (q * 32) r = q * 32 + r := by
  obtain ⟨a, rfl⟩ := Int.eq_ofNat_of_zero_le hq
  obtain ⟨b, rfl⟩ := Int.eq_ofNat_of_zero_le hr
  unfold orI
  rw [BitVec.toNat_or, BitVec.toNat_ofInt, BitVec.toNat_ofInt]
  have e1 : (((a : Int) * 32) % ((2 ^ 64 : Nat) : Int)).toNat = 2 ^ 5 * a := by omega
  have e2 : ((b : Int) % ((2 ^ 64 : Nat) : Int)).toNat = b := by omega
  rw [e1, e2, ← Nat.two_pow_add_eq_or_of_lt (by omega), IntKind.wrap_i64]
  omega
theorem shl_3 {v : Int} (h : 0 ≤ v) (h1 : v < 65536) : shlI v 3 = v * 8 := by
  unfold shlI
  rw [show ((2 : Int) ^ min (Int.toNat 3) 64) = 8 from by decide, IntKind.wrap_i64]
  omega
theorem or_3 {q r : Int} (hq : 0 ≤ q) (hq1 : q < 65536) (hr : 0 ≤ r) (hr1 : r < 8) : orI (q * 8) r = q * 8 + r := by
  obtain ⟨a, rfl⟩ := Int.eq_ofNat_of_zero_le hq
  obtain ⟨b, rfl⟩ := Int.eq_ofNat_of_zero_le hr
  unfold orI
  rw [BitVec.toNat_or, BitVec.toNat_ofInt, BitVec.toNat_ofInt]
  have e1 : (((a : Int) * 8) % ((2 ^ 64 : Nat) : Int)).toNat = 2 ^ 3 * a := by omega
  have e2 : ((b : Int) % ((2 ^ 64 : Nat) : Int)).toNat = b := by omega
  rw [e1, e2, ← Nat.two_pow_add_eq_or_of_lt (by omega), IntKind.wrap_i64]
  omega
structure Rng (x : GIns) : Prop where
  o : 1 ≤ x.Op ∧ x.Op ≤ 19
  s : 1 ≤ x.Size ∧ x.Size ≤ 2
  r : 0 ≤ x.Reg ∧ x.Reg ≤ 3
  m : 0 ≤ x.Ea.Mode ∧ x.Ea.Mode ≤ 7
  e : 0 ≤ x.Ea.Reg ∧ x.Ea.Reg ≤ 3
  b : 0 ≤ x.Sub ∧ x.Sub ≤ 7
  xt : 0 ≤ x.Ea.Ext ∧ x.Ea.Ext ≤ 65535
  z : geI x.Ea.Mode 5 = false → x.Ea.Ext = 0
theorem rng {x : GIns} (h : goodI x = true) : Rng x := by
  unfold goodI opB sizeB at h
  simp only [Bool.and_eq_true, inB_iff] at h
  obtain ⟨h1, h2, ⟨h3, h4, -, h5, h6⟩, h7, -, h8⟩ := h
  refine ⟨?_, ?_, h2, h3, h4, h7, h5, fun hm => ?_⟩
  · refine Classical.byContradiction fun hn => ?_
    have z : ∀ i : Int, 1 ≤ i → i ≤ 19 → eqI x.Op i = false := fun i h1 h2 => by rw [eqI_f]; intro e; exact hn (by omega)
    unfold kB at h8
    simp only [z 1 (by decide) (by decide), z 2 (by decide) (by decide), z 3 (by decide) (by decide), z 4 (by decide) (by decide), z 5 (by decide) (by decide), z 6 (by decide) (by decide), z 7 (by decide) (by decide), z 8 (by decide) (by decide), z 9 (by decide) (by decide), z 10 (by decide) (by decide), z 11 (by decide) (by decide), z 12 (by decide) (by decide), z 13 (by decide) (by decide), z 14 (by decide) (by decide), z 15 (by decide) (by decide), z 16 (by decide) (by decide), z 17 (by decide) (by decide), z 18 (by decide) (by decide), z 19 (by decide) (by decide), cond_false, Bool.false_eq_true] at h8
  · cases e : eqI x.Size 1
    · rw [e, cond_false, eqI_iff] at h1; omega
    · rw [eqI_iff] at e; omega
  · rw [hm] at h6
    simpa using h6
/-- The word. -/
def W (x : GIns) : Int := x.Op * 2048 + (x.Size - 1) * 1024 + x.Reg * 256 + x.Ea.Mode * 32 + x.Ea.Reg * 8 + x.Sub
def encL (x : GIns) : List Int := bif geI x.Ea.Mode 5 then [W x, x.Ea.Ext] else [W x]
def encR (x : GIns) : List Row × Bool := bif goodI x then (ri (encL x), true) else (ri [], false)
theorem W_i {x : GIns} (h : Rng x) : addI (addI (addI (addI (addI (mulI x.Op 2048) (mulI (subI x.Size 1) 1024)) (mulI x.Reg 256)) (mulI x.Ea.Mode 32)) (mulI x.Ea.Reg 8)) x.Sub = W x := by
  obtain ⟨h1, h2, h3, h4, h5, h6, -, -⟩ := h
  unfold W
  rw [mulI_eq (x := x.Op) (by omega), subI_eq (by omega), mulI_eq (x := x.Size - 1) (by omega), mulI_eq (x := x.Reg) (by omega), mulI_eq (x := x.Ea.Mode) (by omega), mulI_eq (x := x.Ea.Reg) (by omega), addI_eq (x := x.Op * 2048) (by omega), addI_eq (x := x.Op * 2048 + (x.Size - 1) * 1024) (by omega), addI_eq (x := x.Op * 2048 + (x.Size - 1) * 1024 + x.Reg * 256) (by omega), addI_eq (x := x.Op * 2048 + (x.Size - 1) * 1024 + x.Reg * 256 + x.Ea.Mode * 32) (by omega), addI_eq (by omega)]
theorem W_s {x : GIns} (h : Rng x) : orI (orI (orI (orI (orI (shlI x.Op 11) (shlI (subI x.Size 1) 10)) (shlI x.Reg 8)) (shlI x.Ea.Mode 5)) (shlI x.Ea.Reg 3)) x.Sub = W x := by
  obtain ⟨h1, h2, h3, h4, h5, h6, -, -⟩ := h
  unfold W
  rw [subI_eq (by omega), shl_11 (by omega) (by omega), shl_10 (by omega) (by omega), shl_8 (by omega) (by omega), shl_5 (by omega) (by omega), shl_3 (by omega) (by omega), or_11 (by omega) (by omega) (by omega) (by omega)]
  rw [show x.Op * 2048 + (x.Size - 1) * 1024 = (x.Op * 2 + (x.Size - 1)) * 1024 from by omega, or_10 (by omega) (by omega) (by omega) (by omega)]
  rw [show (x.Op * 2 + (x.Size - 1)) * 1024 + x.Reg * 256 = ((x.Op * 2 + (x.Size - 1)) * 4 + x.Reg) * 256 from by omega, or_8 (by omega) (by omega) (by omega) (by omega)]
  rw [show ((x.Op * 2 + (x.Size - 1)) * 4 + x.Reg) * 256 + x.Ea.Mode * 32 = (((x.Op * 2 + (x.Size - 1)) * 4 + x.Reg) * 8 + x.Ea.Mode) * 32 from by omega, or_5 (by omega) (by omega) (by omega) (by omega)]
  rw [show (((x.Op * 2 + (x.Size - 1)) * 4 + x.Reg) * 8 + x.Ea.Mode) * 32 + x.Ea.Reg * 8 = ((((x.Op * 2 + (x.Size - 1)) * 4 + x.Reg) * 8 + x.Ea.Mode) * 4 + x.Ea.Reg) * 8 from by omega, or_3 (by omega) (by omega) (by omega) (by omega)]
theorem enc_i (x : GIns) : k123 x = true ∧ g123 x = encR x := by
  refine sat_hid (t := T123 x) (P := fun r => r = encR x) ?_
  have e : goodI x = true → k208 x = true ∧ g208 x = ri (encL x) := fun h => by
    have r := rng h
    refine sat_hid (t := T208 x) (P := fun r => r = ri (encL x)) ?_
    unfold T208 encL
    rw [(ext_i _).1, (ext_i _).2, ext_eq (inB_iff.2 r.m), W_i r]
    simp only [sat_ok', sat_br, sat_leaf, Bool.and_true, true_and]
    exact ⟨fun z => by rw [z]; rfl, fun z => by rw [z]; rfl⟩
  unfold T123 encR
  simp only [sat_ok', sat_br, sat_leaf, y123_0, eqN_self, (good_i _).1, (good_i _).2, Bool.and_true, true_and]
  refine ⟨fun h => by rw [Bool.not_eq_true'] at h; rw [h]; rfl, fun h => ?_⟩
  rw [Bool.not_eq_false'] at h
  rw [h, (e h).1, (e h).2]
  exact ⟨rfl, rfl⟩
theorem enc_s (x : GIns) : k124 x = true ∧ g124 x = encR x := by
  refine sat_hid (t := T124 x) (P := fun r => r = encR x) ?_
  have e : goodI x = true → k210 x = true ∧ g210 x = ri (encL x) := fun h => by
    have r := rng h
    refine sat_hid (t := T210 x) (P := fun r => r = ri (encL x)) ?_
    unfold T210 encL
    rw [(ext_s _).1, (ext_s _).2, W_s r]
    simp only [sat_ok', sat_br, sat_leaf, Bool.and_true, true_and]
    exact ⟨fun z => by rw [z]; rfl, fun z => by rw [z]; rfl⟩
  unfold T124 encR
  simp only [sat_ok', sat_br, sat_leaf, (good_s _).1, (good_s _).2, Bool.and_true, true_and]
  refine ⟨fun h => by rw [Bool.not_eq_true'] at h; rw [h]; rfl, fun h => ?_⟩
  rw [Bool.not_eq_false'] at h
  rw [h, (e h).1, (e h).2]
  exact ⟨rfl, rfl⟩
/-! Reading words. -/
def longB (w : Int) : Bool := geI (w / 32 % 8) 5
def longI (w : Int) : Int := bif longB w then 2 else 1
def decI (w e : Int) : GIns := ⟨w / 2048, w / 1024 % 2 + 1, w / 256 % 4, ⟨w / 32 % 8, w / 8 % 4, bif longB w then e else 0⟩, w % 8⟩
def decR (w e : Int) : GIns × Int × Bool := bif inB w 0 65535 && (inB e 0 65535 && goodI (decI w e)) then (decI w e, longI w, true) else (⟨0, 0, 0, ⟨0, 0, 0⟩, 0⟩, 0, false)
theorem flds (w : Int) : shrI w 11 = w / 2048 ∧ addI (andI (shrI w 10) 1) 1 = w / 1024 % 2 + 1 ∧ andI (shrI w 8) 3 = w / 256 % 4 ∧ andI (shrI w 5) 7 = w / 32 % 8 ∧ andI (shrI w 3) 3 = w / 8 % 4 ∧ andI w 7 = w % 8 := by
  refine ⟨shr_div (n := 11) 11 rfl (by omega), ?_, ?_, ?_, ?_, ?_⟩
  · rw [shr_div (n := 10) 10 rfl (by omega), andMask 1 1 (by omega) rfl, addI_eq (by omega)]; rfl
  · rw [shr_div (n := 8) 8 rfl (by omega), andMask 2 3 (by omega) rfl]; rfl
  · rw [shr_div (n := 5) 5 rfl (by omega), andMask 3 7 (by omega) rfl]; rfl
  · rw [shr_div (n := 3) 3 rfl (by omega), andMask 2 3 (by omega) rfl]; rfl
  · rw [andMask 3 7 (by omega) rfl]; rfl
theorem long_i (w : Int) : k213 w = true ∧ g213 w = longI w := by
  refine sat_hid (t := T213 w) (P := fun r => r = longI w) ?_
  have f : ∀ b, k224 b 1 = true ∧ g224 b 1 = bif b then 1 else 0 := fun b => by
    refine sat_hid (t := T224 b 1) (P := fun r => r = bif b then 1 else 0) ?_
    unfold T224
    simp only [sat_ok', sat_br, sat_leaf, true_and]
    exact ⟨fun h => by rw [h]; rfl, fun h => by rw [h]; rfl⟩
  unfold T213
  simp only [sat_ok', sat_leaf, y213_0, (flds w).2.2.2.1, (ext_i _).1, (ext_i _).2, (f _).1, (f _).2, Bool.and_true, true_and]
  rw [ext_eq (by rw [inB_iff]; omega)]
  unfold longI longB
  cases geI (w / 32 % 8) 5 <;> decide
theorem long_s (w : Int) : k216 w = true ∧ g216 w = longI w := by
  refine sat_hid (t := T216 w) (P := fun r => r = longI w) ?_
  unfold T216 longI longB
  simp only [sat_ok', sat_br, sat_leaf, (flds w).2.2.2.1, (ext_s _).1, (ext_s _).2, Bool.and_true, true_and]
  exact ⟨fun h => by rw [h]; rfl, fun h => by rw [h]; rfl⟩
theorem long2 {w : Int} : eqI (longI w) 2 = longB w := by
  unfold longI
  cases longB w <;> rfl
theorem dec_iM (w e : Int) : k212 w e = true ∧ g212 w e = decI w e := by
  refine sat_hid (t := T212 w e) (P := fun r => r = decI w e) ?_
  obtain ⟨f1, f2, f3, f4, f5, f6⟩ := flds w
  unfold T212 decI
  simp only [sat_ok', sat_br, sat_leaf, (long_i _).1, (long_i _).2, long2, f1, f2, f3, f4, f5, f6, Bool.and_true, true_and]
  exact ⟨fun h => by rw [h]; rfl, fun h => by rw [h]; rfl⟩
theorem dec_sM (w e : Int) : k215 w e = true ∧ g215 w e = decI w e := by
  refine sat_hid (t := T215 w e) (P := fun r => r = decI w e) ?_
  obtain ⟨f1, f2, f3, f4, f5, f6⟩ := flds w
  unfold T215 decI
  simp only [sat_ok', sat_br, sat_leaf, (long_s _).1, (long_s _).2, long2, f1, f2, f3, f4, f5, f6, Bool.and_true, true_and]
  exact ⟨fun h => by rw [h]; rfl, fun h => by rw [h]; rfl⟩
theorem dec_i (w e : Int) : k127 w e = true ∧ g127 w e = decR w e := by
  refine sat_hid (t := T127 w e) (P := fun r => r = decR w e) ?_
  unfold T127 decR
  cases h1 : inB w 0 65535
  · simp only [sat_ok', sat_br, sat_leaf, (word_i _).1, (word_i _).2, h1, Bool.not_false, Bool.not_true, Bool.false_and, Bool.true_or, Bool.or_true, cond_true, cond_false, Bool.and_true, true_and, Bool.true_eq_false, false_implies, forall_const, and_true]
  · cases h2 : inB e 0 65535
    · simp only [sat_ok', sat_br, sat_leaf, (word_i _).1, (word_i _).2, h1, h2, Bool.not_false, Bool.not_true, Bool.false_and, Bool.true_and, Bool.true_or, Bool.or_true, cond_true, cond_false, Bool.and_true, true_and, Bool.true_eq_false, false_implies, forall_const, and_true]
    · simp only [sat_ok', sat_br, sat_leaf, (word_i _).1, (word_i _).2, (dec_iM _ _).1, (dec_iM _ _).2, (good_i _).1, (good_i _).2, (long_i _).1, (long_i _).2, h1, h2, Bool.not_false, Bool.not_true, Bool.false_and, Bool.true_and, Bool.true_or, Bool.or_true, cond_true, cond_false, Bool.and_true, true_and, Bool.false_eq_true, false_implies, forall_const, and_true]
      cases goodI (decI w e)
      · exact ⟨fun _ => rfl, fun h => absurd h (by decide)⟩
      · exact ⟨fun h => absurd h (by decide), fun _ => rfl⟩
theorem lng_i (w : Int) : k128 w = true ∧ g128 w = (bif inB w 0 65535 then (longI w, true) else (0, false)) := by
  refine sat_hid (t := T128 w) (P := fun r => r = (bif inB w 0 65535 then (longI w, true) else (0, false))) ?_
  unfold T128
  simp only [sat_ok', sat_br, sat_leaf, (word_i _).1, (word_i _).2, (long_i _).1, (long_i _).2, Bool.and_true, true_and]
  cases inB w 0 65535 <;> simp
theorem dec_s (w e : Int) : k130 w e = true ∧ g130 w e = decR w e := by
  refine sat_hid (t := T130 w e) (P := fun r => r = decR w e) ?_
  unfold T130 decR
  cases h1 : inB w 0 65535
  · simp only [sat_ok', sat_br, sat_leaf, (word_s _).1, (word_s _).2, h1, Bool.not_false, Bool.not_true, Bool.false_and, Bool.true_or, Bool.or_true, cond_true, cond_false, Bool.and_true, true_and, Bool.true_eq_false, false_implies, forall_const, and_true]
  · cases h2 : inB e 0 65535
    · simp only [sat_ok', sat_br, sat_leaf, (word_s _).1, (word_s _).2, h1, h2, Bool.not_false, Bool.not_true, Bool.false_and, Bool.true_and, Bool.true_or, Bool.or_true, cond_true, cond_false, Bool.and_true, true_and, Bool.true_eq_false, false_implies, forall_const, and_true]
    · simp only [sat_ok', sat_br, sat_leaf, (word_s _).1, (word_s _).2, (dec_sM _ _).1, (dec_sM _ _).2, (good_s _).1, (good_s _).2, (long_s _).1, (long_s _).2, h1, h2, Bool.not_false, Bool.not_true, Bool.false_and, Bool.true_and, Bool.true_or, Bool.or_true, cond_true, cond_false, Bool.and_true, true_and, Bool.false_eq_true, false_implies, forall_const, and_true]
      cases goodI (decI w e)
      · exact ⟨fun _ => rfl, fun h => absurd h (by decide)⟩
      · exact ⟨fun h => absurd h (by decide), fun _ => rfl⟩
theorem lng_s (w : Int) : k132 w = true ∧ g132 w = (bif inB w 0 65535 then (longI w, true) else (0, false)) := by
  refine sat_hid (t := T132 w) (P := fun r => r = (bif inB w 0 65535 then (longI w, true) else (0, false))) ?_
  unfold T132
  simp only [sat_ok', sat_br, sat_leaf, (word_s _).1, (word_s _).2, (long_s _).1, (long_s _).2, Bool.and_true, true_and]
  cases inB w 0 65535 <;> simp
end Go.Proofs.YtckjibiolfapiaaCode

/- Code: the plain law. -/
namespace Go.Proofs.YtckjibiolfapiaaCode
open Go Go.Zq
set_option maxHeartbeats 4000000
set_option maxRecDepth 100000

/-! The reader of bytes. -/
def CO (B : Int) (c : Gl1Cur) : Prop := CurOk B c.fcode c.fat
theorem CO.mono {B C : Int} {c : Gl1Cur} (h : CO B c) (hB : B ≤ C) : CO C c := CurOk.mono h hB
theorem far_g (s : Int) : 0 ≤ wrapK .i64 (andK .u64 (shrK .u64 s 40) 255) ∧ wrapK .i64 (andK .u64 (shrK .u64 s 40) 255) < 256 := by
  have e : shrK .u64 s 40 = Int.fdiv s 1099511627776 := by
    unfold shrK
    rw [show ((2 : Int) ^ min (Int.toNat 40) IntKind.u64.bits) = 1099511627776 from by decide]
  unfold wrapK andK
  rw [e]
  exact far_rng s
theorem next_d {B : Int} {c : Gl1Cur} (h : CO B c) (hB : B < 4000000000000000000) : k217 c = true ∧ (CO (B + 1) (g217 c).1 ∧ 0 ≤ (g217 c).2 ∧ (g217 c).2 < 256) := by
  refine sat_hid (t := T217 c) (P := fun r => CO (B + 1) r.1 ∧ 0 ≤ r.2 ∧ r.2 < 256) ?_
  obtain ⟨h1, h2, h3⟩ := h
  have ha : addI c.fat 1 = c.fat + 1 := addI_eq (by omega)
  have hc : CurOk (B + 1) c.fcode (c.fat + 1) := ⟨h1, by omega, by omega⟩
  have hv : 0 ≤ y217_0 c ∧ y217_0 c < 256 := by
    unfold y217_0
    cases hl : ltI c.fat (lenI c.fcode)
    · simp
    · have hl' : c.fat < (c.fcode.length : Int) := by simpa using hl
      obtain ⟨z, -, e, z0, z1⟩ := row_at h1 (j := c.fat.toNat) (by omega)
      rw [cond_true, e, wrap_id (by omega)]
      exact ⟨z0, z1⟩
  have hr : (inRow [.int .u8] c.fcode c.fat || !(ltI c.fat (lenI c.fcode))) = true := by
    cases hl : ltI c.fat (lenI c.fcode)
    · simp
    · have hl' : c.fat < (c.fcode.length : Int) := by simpa using hl
      rw [inRow_byte h1 h2 hl']
      rfl
  unfold T217
  simp only [sat_ok', sat_br, sat_leaf, hr, ha, Bool.and_true, true_and]
  exact ⟨fun _ => ⟨hc, hv⟩, fun _ => ⟨hc, far_g _⟩⟩
theorem pick_d {B : Int} {c : Gl1Cur} (n : Int) (h : CO B c) (hB : B < 3000000000000000000) : k141 n c = true ∧ (CO (B + 2) (g141 n c).1 ∧ 0 ≤ (g141 n c).2 ∧ (2 ≤ n → (g141 n c).2 < n) ∧ (n ≤ 1 → (g141 n c).2 = 0)) := by
  refine sat_hid (t := T141 n c) (P := fun r => CO (B + 2) r.1 ∧ 0 ≤ r.2 ∧ (2 ≤ n → r.2 < n) ∧ (n ≤ 1 → r.2 = 0)) ?_
  obtain ⟨k1, c1, v0, v1⟩ := next_d h (by omega)
  obtain ⟨k2, c2, w0, w1⟩ := next_d c1 (by omega)
  unfold T141
  simp only [sat_ok', sat_br, sat_leaf, k1, k2, leI_iff, leI_f, gtI_iff, gtI_f, neI_iff, Bool.and_true, true_and]
  refine ⟨fun hn => ⟨h.mono (by omega), by omega, by omega, fun _ => trivial⟩, fun hn => ⟨fun hb => ⟨by omega, c2.mono (by omega), ?_⟩, fun hb => ⟨by omega, c1.mono (by omega), ?_⟩⟩⟩
  · have e : mulI (g217 c).2 256 = (g217 c).2 * 256 := mulI_eq (by omega)
    rw [e, addI_eq (by omega)]
    obtain ⟨r0, r1⟩ := rem_rng (x := (g217 c).2 * 256 + (g217 (g217 c).1).2) (n := n) (by omega) (by omega)
    exact ⟨r0, fun _ => r1, by omega⟩
  · obtain ⟨r0, r1⟩ := rem_rng (x := (g217 c).2) (n := n) (by omega) (by omega)
    exact ⟨r0, fun _ => r1, by omega⟩
theorem one_d {B : Int} {c : Gl1Cur} (n : Int) (h : CO B c) (hB : B < 3000000000000000000) : k167 n c = true ∧ CO (B + 2) (g167 n c).1 := by
  refine sat_hid (t := T167 n c) (P := fun r => CO (B + 2) r.1) ?_
  obtain ⟨k1, c1, -⟩ := pick_d n h hB
  unfold T167
  simp only [sat_ok', sat_leaf, k1, Bool.and_true, true_and]
  exact c1
theorem among_d {B : Int} {c : Gl1Cur} {r : List Row} (hr : Num r) (hl : 1 ≤ r.length) (h : CO B c) (hB : B < 3000000000000000000) : k133 r c = true ∧ (CO (B + 2) (g133 r c).1 ∧ ∃ j, j < r.length ∧ (g133 r c).2 = intAt r j 0) := by
  refine sat_hid (t := T133 r c) (P := fun q => CO (B + 2) q.1 ∧ ∃ j, j < r.length ∧ q.2 = intAt r j 0) ?_
  obtain ⟨k1, c1, v0, v1, v2⟩ := pick_d (lenI r) h hB
  rw [lenI_eq] at k1 c1 v0 v1 v2
  have hj : (g141 (r.length : Int) c).2 < (r.length : Int) := by
    by_cases h2 : r.length = 1
    · rw [v2 (by omega)]; omega
    · exact v1 (by omega)
  unfold T133
  simp only [sat_ok', sat_leaf, lenI_eq, k1, num_in hr v0 hj, Bool.and_true, true_and]
  exact ⟨c1, _, by omega, rfl⟩
theorem amongC {B : Int} {c : Gl1Cur} (r : List Int) (h1 : CO B c) (h2 : B < 2500000000000000000) (h3 : 1 ≤ r.length) : k133 (ri r) c = true ∧ CO (B + 2) (g133 (ri r) c).1 := by
  obtain ⟨a, b, -⟩ := among_d (r := ri r) ⟨r, rfl⟩ (by rw [ri_len]; exact h3) h1 (by omega)
  exact ⟨a, b⟩
theorem value_d {B : Int} {c : Gl1Cur} (h : CO B c) (hB : B < 2000000000000000000) : k166 c = true ∧ CO (B + 8) (g166 c).1 := by
  refine sat_hid (t := T166 c) (P := fun r => CO (B + 8) r.1) ?_
  obtain ⟨a1, a2⟩ := one_d 2 h (by omega)
  obtain ⟨b1, b2⟩ := amongC [0, 1, 127, 128, 255, 256, 32767, 32768, 65535, 65536, -1] a2 (by omega) (by decide)
  obtain ⟨d1, d2, -⟩ := pick_d 256 a2 (by omega)
  obtain ⟨e1, e2, -⟩ := pick_d 2 d2 (by omega)
  obtain ⟨f1, f2, -⟩ := pick_d 256 e2 (by omega)
  unfold T166
  simp only [sat_ok', sat_br, sat_leaf, a1, d1, e1, Bool.and_true, true_and]
  refine ⟨fun _ => ⟨b1, b2.mono (by omega)⟩, fun _ => ⟨?_, f2.mono (by omega)⟩⟩
  rw [Bool.true_and]; exact f1
theorem CO_if {B : Int} {p : Bool} {c d : Gl1Cur} (h : CO B c) (k : CO B d) : CO B (Gl1Cur.mk (bif p then c.fcode else d.fcode) (bif p then c.fat else d.fat) (bif p then c.fseed else d.fseed)) := by
  cases p
  · exact k
  · exact h
theorem flag_k (b : Bool) : k168 b 1 = true := by
  refine (sat_hid (t := T168 b 1) (P := fun _ => True) ?_).1
  unfold T168
  simp only [sat_ok', sat_br, sat_leaf, true_and, implies_true, and_true]
theorem operand_d {B : Int} {c : Gl1Cur} (h : CO B c) (hB : B < 2000000000000000000) : k197 c = true ∧ CO (B + 14) (g197 c).1 := by
  refine sat_hid (t := T197 c) (P := fun r => CO (B + 14) r.1) ?_
  have tl : ∀ {c' : Gl1Cur}, CO (B + 6) c' → k167 60 c' = true ∧ CO (B + 14) (g167 60 c').1 ∧ k141 9 (g167 60 c').1 = true ∧ k141 5 (g141 9 (g167 60 c').1).1 = true ∧ k141 2 (g141 5 (g141 9 (g167 60 c').1).1).1 = true ∧ CO (B + 14) (g141 2 (g141 5 (g141 9 (g167 60 c').1).1).1).1 := fun {c'} hc => by
    obtain ⟨a1, a2⟩ := one_d 60 hc (by omega)
    obtain ⟨b1, b2, -⟩ := pick_d 9 a2 (by omega)
    obtain ⟨e1, e2, -⟩ := pick_d 5 b2 (by omega)
    obtain ⟨f1, f2, -⟩ := pick_d 2 e2 (by omega)
    exact ⟨a1, a2.mono (by omega), b1, e1, f1, f2.mono (by omega)⟩
  obtain ⟨a1, a2, -⟩ := pick_d 8 h (by omega)
  obtain ⟨b1, b2, -⟩ := pick_d 4 a2 (by omega)
  obtain ⟨c1, c2⟩ := amongC [0, 1, 2, 20, 100, 200, 384, 448, 65535, 65534] b2 (by omega) (by decide)
  obtain ⟨d1, d2⟩ := amongC [0, 1, 2, 20, 100, 200, 384, 448, 65535, 65534] a2 (by omega) (by decide)
  simp only [ri_cons, ri_nil] at c1 c2 d1 d2
  obtain ⟨p1, p2, p3, p4, p5, p6⟩ := tl (c2.mono (by omega))
  obtain ⟨q1, q2, q3, q4, q5, q6⟩ := tl (b2.mono (by omega))
  obtain ⟨r1, r2, r3, r4, r5, r6⟩ := tl (d2.mono (by omega))
  obtain ⟨s1, s2, s3, s4, s5, s6⟩ := tl (a2.mono (by omega))
  unfold T197
  simp only [sat_ok', sat_br, sat_leaf, y197_9, y197_8, y197_7, y197_6, y197_5, y197_4, y197_3, y197_2, y197_1, y197_0, (ext_s _).1, a1, b1, c1, d1, p1, p3, p4, p5, q1, q3, q4, q5, r1, r3, r4, r5, s1, s3, s4, s5, Bool.and_true, true_and]
  refine ⟨fun _ => ⟨fun _ => ⟨fun _ => p6, fun _ => p2⟩, fun _ => ⟨fun _ => q6, fun _ => q2⟩⟩, fun _ => ⟨fun _ => ⟨fun _ => r6, fun _ => r2⟩, fun _ => ⟨fun _ => s6, fun _ => s2⟩⟩⟩
/-- What a round of the loop leaves. -/
def InsL (B : Int) (n : Nat) (c : Gl1Cur) (r : Option V214_0) : Prop := match r with
  | none => CO (B + 360) c
  | some w => ∃ m, m < n ∧ (CO (B + 60 * (6 - m)) w.b0 ∧ w.s3 = 6 - (m : Int) ∧ m ≤ 6)
theorem ins_loop (c : Gl1Cur) (x : GIns) {B : Int} (h : CO B c) (hB : B < 1000000000000000000) : i214_0 (V214_0.mk c x 0) = true ∧ CO (B + 360) (w214_0 (V214_0.mk c x 0)).b0 := by
  unfold i214_0 w214_0
  refine loop_w (Post := fun w : V214_0 => CO (B + 360) w.b0) (loop_sat (fun (m : Nat) (v : V214_0) => CO (B + 60 * (6 - m)) v.b0 ∧ v.s3 = 6 - (m : Int) ∧ m ≤ 6) _ ?_ 9223372036854775808 6 _ ⟨h.mono (by omega), rfl, by omega⟩ (by omega))
  rintro n v ⟨h, h2, h3⟩
  have hp : CO (B + 360) v.b0 := h.mono (by omega)
  have key : (N214_0 v).Sat (InsL B n v.b0) := by
    have stp : InsL B n v.b0 none := hp
    by_cases hn : n = 0
    · have e : ltI v.s3 6 = false := by rw [ltI_f]; omega
      unfold N214_0
      simp only [sat_ok', sat_br, sat_leaf, e, true_and, Bool.false_eq_true, false_implies]
      exact fun _ => stp
    have nxt : ∀ c', CO (B + 60 * (6 - n) + 60) c' → InsL B n v.b0 (some (V214_0.mk c' v.b1 (addI v.s3 1))) := fun c' hc => ⟨n - 1, by omega, hc.mono (by omega), by show addI v.s3 1 = _; rw [addI_eq (by omega)]; omega, by omega⟩
    obtain ⟨a1, a2, -⟩ := pick_d 19 h (by omega)
    obtain ⟨b1, b2, -⟩ := pick_d 2 a2 (by omega)
    obtain ⟨c1, c2, -⟩ := pick_d 4 b2 (by omega)
    obtain ⟨o1, o2⟩ := operand_d c2 (by omega)
    obtain ⟨d1, d2, -⟩ := pick_d 4 o2 (by omega)
    obtain ⟨e1, e2, -⟩ := pick_d 2 o2 (by omega)
    obtain ⟨f1, f2, -⟩ := pick_d 7 e2 (by omega)
    obtain ⟨g1, g2, -⟩ := pick_d 4 f2 (by omega)
    obtain ⟨i1, i2, -⟩ := pick_d 8 e2 (by omega)
    obtain ⟨j1, j2⟩ := amongC [2, 4, 6, 8, 65526, 65530, 0, 3] i2 (by omega) (by decide)
    obtain ⟨l1, l2⟩ := amongC [0, 1, 2, 2, 3, 4, 5, 6] o2 (by omega) (by decide)
    simp only [ri_cons, ri_nil] at j1 j2 l1 l2
    obtain ⟨m1, m2, -⟩ := pick_d 4 l2 (by omega)
    obtain ⟨n1, n2⟩ := amongC [0, 256, 512, 1023] m2 (by omega) (by decide)
    obtain ⟨q1, q2⟩ := amongC [0, 256, 512, 1023] l2 (by omega) (by decide)
    obtain ⟨r1, r2⟩ := amongC [0, 256, 480, 768, 31] o2 (by omega) (by decide)
    simp only [ri_cons, ri_nil] at n1 n2 q1 q2 r1 r2
    obtain ⟨s1, s2⟩ := one_d 2 r2 (by omega)
    obtain ⟨t1, t2, -⟩ := pick_d 4 s2 (by omega)
    have o2' : CO (B + 60 * (6 - n) + 60) _ := o2.mono (by omega)
    have d2' : CO (B + 60 * (6 - n) + 60) _ := d2.mono (by omega)
    have e2' : CO (B + 60 * (6 - n) + 60) _ := e2.mono (by omega)
    have g2' : CO (B + 60 * (6 - n) + 60) _ := g2.mono (by omega)
    have j2' : CO (B + 60 * (6 - n) + 60) _ := j2.mono (by omega)
    have l2' : CO (B + 60 * (6 - n) + 60) _ := l2.mono (by omega)
    have m2' : CO (B + 60 * (6 - n) + 60) _ := m2.mono (by omega)
    have n2' : CO (B + 60 * (6 - n) + 60) _ := n2.mono (by omega)
    have q2' : CO (B + 60 * (6 - n) + 60) _ := q2.mono (by omega)
    have s2' : CO (B + 60 * (6 - n) + 60) _ := s2.mono (by omega)
    have t2' : CO (B + 60 * (6 - n) + 60) _ := t2.mono (by omega)
    unfold N214_0
    simp only [sat_ok', sat_br, sat_leaf, y214_0_l_34, y214_0_l_33, y214_0_l_32, y214_0_l_31, y214_0_l_30, y214_0_l_29, y214_0_l_28, y214_0_l_27, y214_0_l_26, y214_0_l_25, y214_0_l_24, y214_0_l_23, y214_0_l_22, y214_0_l_21, y214_0_l_20, y214_0_l_19, y214_0_l_18, y214_0_l_17, y214_0_l_16, y214_0_l_15, y214_0_l_14, y214_0_l_13, y214_0_l_12, y214_0_l_11, y214_0_l_10, y214_0_l_9, y214_0_l_8, y214_0_l_7, y214_0_l_6, y214_0_l_5, y214_0_l_4, y214_0_l_3, y214_0_l_2, y214_0_l_1, y214_0_l_0, same_s, sameR_s, eqN_self, flag_k, (good_s _).1, a1, b1, c1, o1, d1, e1, f1, g1, i1, j1, l1, m1, n1, q1, r1, s1, t1, Bool.and_true, true_and]
    repeat' first
      | with_reducible exact stp
      | (with_reducible refine nxt _ ?_; with_reducible assumption)
      | intro _
      | with_reducible constructor
  exact key
def InsP (B : Int) (r : Gl1Cur × GIns) : Prop := CO (B + 420) r.1
theorem ins_d {B : Int} {c : Gl1Cur} (h : CO B c) (hB : B < 1000000000000000000) : k214 c = true ∧ CO (B + 420) (g214 c).1 := by
  refine sat_hid (t := T214 c) (P := fun r => CO (B + 420) r.1) ?_
  obtain ⟨w1, w2⟩ := ins_loop c ⟨0, 0, 0, ⟨0, 0, 0⟩, 0⟩ h hB
  obtain ⟨a1, a2, -⟩ := pick_d 19 w2 (by omega)
  obtain ⟨b1, b2, -⟩ := pick_d 2 a2 (by omega)
  obtain ⟨c1, c2, -⟩ := pick_d 4 b2 (by omega)
  obtain ⟨o1, o2⟩ := operand_d c2 (by omega)
  obtain ⟨d1, d2, -⟩ := pick_d 4 o2 (by omega)
  obtain ⟨e1, e2, -⟩ := pick_d 2 o2 (by omega)
  obtain ⟨f1, f2, -⟩ := pick_d 7 e2 (by omega)
  obtain ⟨g1, g2, -⟩ := pick_d 4 f2 (by omega)
  obtain ⟨i1, i2, -⟩ := pick_d 8 e2 (by omega)
  obtain ⟨j1, j2⟩ := amongC [2, 4, 6, 8, 65526, 65530, 0, 3] i2 (by omega) (by decide)
  obtain ⟨l1, l2⟩ := amongC [0, 1, 2, 2, 3, 4, 5, 6] o2 (by omega) (by decide)
  simp only [ri_cons, ri_nil] at j1 j2 l1 l2
  obtain ⟨m1, m2, -⟩ := pick_d 4 l2 (by omega)
  obtain ⟨n1, n2⟩ := amongC [0, 256, 512, 1023] m2 (by omega) (by decide)
  obtain ⟨q1, q2⟩ := amongC [0, 256, 512, 1023] l2 (by omega) (by decide)
  obtain ⟨r1, r2⟩ := amongC [0, 256, 480, 768, 31] o2 (by omega) (by decide)
  simp only [ri_cons, ri_nil] at n1 n2 q1 q2 r1 r2
  obtain ⟨s1, s2⟩ := one_d 2 r2 (by omega)
  obtain ⟨t1, t2, -⟩ := pick_d 4 s2 (by omega)
  have o2' : CO (B + 420) _ := o2.mono (by omega)
  have d2' : CO (B + 420) _ := d2.mono (by omega)
  have e2' : CO (B + 420) _ := e2.mono (by omega)
  have g2' : CO (B + 420) _ := g2.mono (by omega)
  have j2' : CO (B + 420) _ := j2.mono (by omega)
  have l2' : CO (B + 420) _ := l2.mono (by omega)
  have m2' : CO (B + 420) _ := m2.mono (by omega)
  have n2' : CO (B + 420) _ := n2.mono (by omega)
  have q2' : CO (B + 420) _ := q2.mono (by omega)
  have s2' : CO (B + 420) _ := s2.mono (by omega)
  have t2' : CO (B + 420) _ := t2.mono (by omega)
  have w2' : CO (B + 420) _ := w2.mono (by omega)
  have nxt : ∀ c' x, CO (B + 420) c' → InsP B (c', x) := fun c' x h => h
  have key : (T214 c).Sat (InsP B) := by
    unfold T214
    simp only [sat_ok', sat_br, sat_leaf, y214_18, y214_17, y214_16, y214_15, y214_14, y214_13, y214_12, y214_11, y214_10, y214_9, y214_8, y214_7, y214_6, y214_5, y214_4, y214_3, y214_2, y214_1, y214_0, same_s, sameR_s, eqN_self, flag_k, (good_s _).1, w1, a1, b1, c1, o1, d1, e1, f1, g1, i1, j1, l1, m1, n1, q1, r1, s1, t1, Bool.and_true, true_and]
    repeat' first
      | (with_reducible refine nxt _ _ ?_; with_reducible assumption)
      | intro _
      | with_reducible constructor
  exact key
theorem any_d {B : Int} {c : Gl1Cur} (h : CO B c) (hB : B < 1000000000000000000) : k232 c = true ∧ CO (B + 500) (g232 c).1 := by
  refine sat_hid (t := T232 c) (P := fun r => CO (B + 500) r.1) ?_
  obtain ⟨a1, a2⟩ := ins_d h hB
  obtain ⟨b1, b2⟩ := one_d 20 a2 (by omega)
  obtain ⟨c1, c2, -⟩ := pick_d 22 b2 (by omega)
  obtain ⟨d1, d2, -⟩ := pick_d 4 c2 (by omega)
  obtain ⟨e1, e2, -⟩ := pick_d 5 d2 (by omega)
  obtain ⟨f1, f2⟩ := operand_d e2 (by omega)
  obtain ⟨g1, g2, -⟩ := pick_d 9 f2 (by omega)
  unfold T232
  simp only [sat_ok', sat_br, sat_leaf, y232_2, y232_1, y232_0, a1, b1, c1, d1, e1, f1, g1, Bool.and_true, true_and]
  exact ⟨fun _ => g2.mono (by omega), fun _ => b2.mono (by omega)⟩
theorem CO_0 {x : List Row} (h : bytesOk x = true) : CO 0 (Gl1Cur.mk x 0 0) := ⟨h, Int.le_refl 0, Int.le_refl 0⟩
theorem dgood_d {x : List Row} (h : bytesOk x = true) : k122 x = true := by
  have g : k207 x = true := by
    refine (sat_hid (t := T207 x) (P := fun _ => True) ?_).1
    obtain ⟨a1, -⟩ := any_d (CO_0 h) (by decide)
    unfold T207
    simp only [sat_ok', sat_leaf, a1, Bool.and_true, true_and]
  refine (sat_hid (t := T122 x) (P := fun _ => True) ?_).1
  unfold T122
  simp only [sat_ok', sat_leaf, g, Bool.and_true, true_and]
theorem dlong_d {x : List Row} (h : bytesOk x = true) : k131 x = true := by
  refine (sat_hid (t := T131 x) (P := fun _ => True) ?_).1
  obtain ⟨a1, -⟩ := value_d (CO_0 h) (by decide)
  unfold T131
  simp only [sat_ok', sat_leaf, a1, Bool.and_true, true_and]
theorem enc_in (z : GIns) : ((encR z).2 = true → inRow [.int .i64] (encR z).1 0 = true) ∧ ((encR z).2 = true → eqI (lenI (encR z).1) 2 = true → inRow [.int .i64] (encR z).1 1 = true) := by
  unfold encR
  cases goodI z
  · exact ⟨fun h => Bool.noConfusion h, fun h => Bool.noConfusion h⟩
  · rw [cond_true]
    unfold encL
    cases geI z.Ea.Mode 5
    · exact ⟨fun _ => ri_inr (zs := [W z]) (i := 0) (by simp), fun _ h => absurd h (by simp [ri_len])⟩
    · exact ⟨fun _ => ri_inr (zs := [W z, z.Ea.Ext]) (i := 0) (by simp), fun _ _ => ri_inr (zs := [W z, z.Ea.Ext]) (i := 1) (by simp)⟩
theorem ddec_d {x : List Row} (h : bytesOk x = true) : k129 x = true := by
  refine (sat_hid (t := T129 x) (P := fun _ => True) ?_).1
  obtain ⟨a1, a2⟩ := ins_d (CO_0 h) (by decide)
  obtain ⟨b1, b2⟩ := enc_s (g214 (Gl1Cur.mk x 0 0)).2
  obtain ⟨c1, c2⟩ := one_d 4 a2 (by decide)
  have d2 : CO 422 (y129_4 x) := CO_if (c2.mono (by decide)) (a2.mono (by decide))
  obtain ⟨e1, e2⟩ := one_d 12 d2 (by decide)
  have f2 : CO 424 (Gl1Cur.mk (bif (eqI (lenI (g124 (y129_0 x).2).1) 2) then (g167 12 (y129_4 x)).1.fcode else (y129_1 x)) (bif (eqI (lenI (g124 (y129_0 x).2).1) 2) then (g167 12 (y129_4 x)).1.fat else (y129_2 x)) (bif (eqI (lenI (g124 (y129_0 x).2).1) 2) then (g167 12 (y129_4 x)).1.fseed else (y129_3 x))) := CO_if (d := y129_4 x) (e2.mono (by decide)) (d2.mono (by decide))
  obtain ⟨f1, -⟩ := value_d f2 (by decide)
  obtain ⟨i1, i2, -⟩ := pick_d 256 d2 (by decide)
  obtain ⟨j1, j2, -⟩ := pick_d 256 i2 (by decide)
  obtain ⟨l1, -⟩ := value_d j2 (by decide)
  obtain ⟨n0, n1⟩ := enc_in (y129_0 x).2
  rw [← (enc_s _).2] at n0 n1
  have f1' : y129_7 x = true := f1
  have l1' : k166 (y129_5 x).1 = true := l1
  have b1' : k124 (y129_0 x).2 = true := b1
  have c1' : k167 4 (y129_0 x).1 = true := c1
  unfold T129
  simp only [sat_ok', sat_br, sat_leaf, a1, b1', c1', e1, f1', i1, j1, l1', y129_8, y129_10, same_s, sameR_s, Bool.and_true, Bool.true_or, true_and]
  cases hg : (g124 (y129_0 x).2).2
  · simp
  · have p6 : y129_6 x = true := n0 hg
    rw [p6]
    simp only [Bool.and_true, Bool.true_and, true_and, implies_true, and_true]
    intro _ hh
    refine n1 hg ?_
    cases h2 : eqI (lenI (g124 (y129_0 x).2).1) 2
    · rw [h2] at hh; simp at hh
    · rfl
end Go.Proofs.YtckjibiolfapiaaCode

/- Code: the plain law. -/
namespace Go.Proofs.YtckjibiolfapiaaCode
open Go Go.Zq
set_option maxHeartbeats 4000000
set_option maxRecDepth 100000

theorem same_loop (xs ys : List Int) (hl : xs.length < 1000000) (he : xs.length = ys.length) : i47_0 (V47_0.mk (ri xs) (ri ys) (lenI (ri xs)) 0) = true ∧ (ltI (w47_0 (V47_0.mk (ri xs) (ri ys) (lenI (ri xs)) 0)).s13 (w47_0 (V47_0.mk (ri xs) (ri ys) (lenI (ri xs)) 0)).s12 = !decide (xs = ys)) := by
  unfold i47_0 w47_0
  refine loop_w (Post := fun w => ltI w.s13 w.s12 = !decide (xs = ys)) (loop_sat (fun n v => ∃ i : Nat, v = V47_0.mk (ri xs) (ri ys) (lenI (ri xs)) i ∧ i ≤ xs.length ∧ n = xs.length - i ∧ ∀ j (hj : j < xs.length), j < i → xs[j] = ys[j]) _ ?_ 9223372036854775808 xs.length _ ⟨0, rfl, by omega, by omega, fun j _ h => absurd h (by omega)⟩ (by omega))
  rintro n v ⟨i, rfl, hi, rfl, hall⟩
  unfold N47_0
  simp only [sat_ok', sat_br, sat_leaf, lenI_eq, ri_len, ltI_iff, ltI_f, true_and, Int.toNat_natCast]
  constructor
  · intro h
    have hi' : i < xs.length := by omega
    have hy' : i < ys.length := by omega
    rw [ri_inr hi', ri_int hi', ri_inr hy', ri_int hy']
    refine ⟨rfl, fun hz => ?_, fun hz => ?_⟩
    · have : xs ≠ ys := fun e => by subst e; simp at hz
      rw [decide_eq_false this]
      simpa [ltI] using h
    · refine ⟨_, ?_, i + 1, ?_, by omega, rfl, ?_⟩
      · omega
      · rw [addI_eq (by omega)]; rfl
      · intro j hj hji
        by_cases e : j = i
        · subst e; simpa using hz
        · exact hall j hj (by omega)
  · intro h
    rw [decide_eq_true (List.ext_getElem he fun j h1 h2 => hall j h1 (by omega))]
    simpa [ltI] using h
theorem sameInts_t (xs ys : List Int) (hl : xs.length < 1000000) : k47 (ri xs) (ri ys) = true ∧ g47 (ri xs) (ri ys) = decide (xs = ys) := by
  unfold k47 g47 T47 y47_0
  rw [hid_eq, hid_eq]
  by_cases he : xs.length = ys.length
  · obtain ⟨h1, h2⟩ := same_loop xs ys hl he
    have e : neI (lenI (ri xs)) (lenI (ri ys)) = false := by simp [he, ri_len]
    simp only [okv_ok, okv_br, okv_leaf, val_ok, val_br, val_leaf, h1, h2, e, Bool.true_and, cond_false]
    cases decide (xs = ys) <;> exact ⟨rfl, rfl⟩
  · have e : neI (lenI (ri xs)) (lenI (ri ys)) = true := by simp [ri_len]; omega
    have : xs ≠ ys := fun e => he (by rw [e])
    simp only [okv_ok, okv_br, okv_leaf, val_ok, val_br, val_leaf, e, decide_eq_false this, Bool.true_and, cond_true, and_self]
/-! A number of the bytes. -/
theorem num_d {x : List Row} (h : bytesOk x = true) (hl : x.length ≤ 9223372036854775807) : k126 x = true ∧ 0 ≤ g126 x := by
  have L : i126_0 (V126_0.mk 0 x (lenI x) 0) = true ∧ 0 ≤ (w126_0 (V126_0.mk 0 x (lenI x) 0)).s3 := by
    unfold i126_0 w126_0
    refine loop_w (Post := fun w : V126_0 => 0 ≤ w.s3) (loop_sat (fun (n : Nat) (v : V126_0) => ∃ i : Nat, v.s6 = x ∧ v.s7 = (x.length : Int) ∧ v.s8 = (i : Int) ∧ i + n = x.length ∧ 0 ≤ v.s3 ∧ v.s3 < 1000003) _ ?_ 9223372036854775808 x.length _ ⟨0, rfl, rfl, rfl, by omega, by simp, by simp⟩ (by omega))
    rintro n v ⟨i, h1, h2, h3, h4, h5, h6⟩
    unfold N126_0
    simp only [sat_ok', sat_br, sat_leaf, h1, h2, h3, ltI_iff, ltI_f, Int.toNat_natCast, Bool.and_true, true_and]
    refine ⟨fun hlt => ?_, fun _ => h5⟩
    obtain ⟨z, -, e, z0, z1⟩ := row_at h (j := i) (by omega)
    have eI : inRow [.int .u8] x (i : Int) = true := inRow_byte h (by omega) (by omega)
    rw [eI, e, wrap_id (by omega), mulI_eq (by omega), addI_eq (by omega), addI_eq (by omega)]
    obtain ⟨r0, r1⟩ := rem_rng (x := 31 * v.s3 + z) (n := 1000003) (by omega) (by omega)
    exact ⟨rfl, n - 1, by omega, i + 1, by omega, by omega, r0, r1⟩
  refine sat_hid (t := T126 x) (P := fun r => 0 ≤ r) ?_
  unfold T126
  simp only [sat_ok', sat_leaf, L.1, true_and]
  exact L.2
/-! There and back. -/
theorem W_rng {x : GIns} (h : Rng x) : inB (W x) 0 65535 = true := by
  obtain ⟨h1, h2, h3, h4, h5, h6, -, -⟩ := h
  rw [inB_iff]; unfold W; omega
theorem longB_W {x : GIns} (h : Rng x) : longB (W x) = geI x.Ea.Mode 5 := by
  obtain ⟨h1, h2, h3, h4, h5, h6, -, -⟩ := h
  unfold longB
  have : W x / 32 % 8 = x.Ea.Mode := by unfold W; omega
  rw [this]
theorem dec_W {x : GIns} (h : Rng x) (e : Int) (he : geI x.Ea.Mode 5 = true → e = x.Ea.Ext) : decI (W x) e = x := by
  have hl := longB_W h
  obtain ⟨h1, h2, h3, h4, h5, h6, h7, h8⟩ := h
  obtain ⟨o, s, r, ⟨m, er, ex⟩, sb⟩ := x
  dsimp only at *
  unfold decI
  rw [hl]
  have e1 : W ⟨o, s, r, ⟨m, er, ex⟩, sb⟩ / 2048 = o := by unfold W; dsimp only; omega
  have e2 : W ⟨o, s, r, ⟨m, er, ex⟩, sb⟩ / 1024 % 2 + 1 = s := by unfold W; dsimp only; omega
  have e3 : W ⟨o, s, r, ⟨m, er, ex⟩, sb⟩ / 256 % 4 = r := by unfold W; dsimp only; omega
  have e4 : W ⟨o, s, r, ⟨m, er, ex⟩, sb⟩ / 32 % 8 = m := by unfold W; dsimp only; omega
  have e5 : W ⟨o, s, r, ⟨m, er, ex⟩, sb⟩ / 8 % 4 = er := by unfold W; dsimp only; omega
  have e6 : W ⟨o, s, r, ⟨m, er, ex⟩, sb⟩ % 8 = sb := by unfold W; dsimp only; omega
  rw [e1, e2, e3, e4, e5, e6]
  cases hm : geI m 5
  · rw [hm] at h8; rw [h8 rfl]; rfl
  · rw [hm] at he; rw [he rfl]; rfl
theorem W_dec {w e : Int} (h : inB w 0 65535 = true) : W (decI w e) = w := by
  rw [inB_iff] at h
  unfold W decI
  dsimp only
  omega
theorem enc_dec {w e : Int} (h : inB w 0 65535 = true) (hg : goodI (decI w e) = true) : encR (decI w e) = (ri (bif longB w then [w, e] else [w]), true) := by
  unfold encR
  rw [hg, cond_true]
  unfold encL
  rw [W_dec h]
  have : (decI w e).Ea.Mode = w / 32 % 8 := rfl
  rw [this]
  show (ri (bif longB w then [w, (decI w e).Ea.Ext] else [w]), true) = _
  have e2 : (decI w e).Ea.Ext = bif longB w then e else 0 := rfl
  rw [e2]
  cases longB w <;> rfl
/-- The law's second half. -/
def tailB (x1 : List Row) : Prop := k129 x1 = true ∧ k131 x1 = true ∧ (g132 (g131 x1) = g128 (g131 x1))
theorem okL (x0 x1 : List Row) (h0 : bytesOk x0 = true) (h1 : bytesOk x1 = true) (_ : x0.length ≤ 9223372036854775807) (m1 : x1.length ≤ 9223372036854775807) : k14 x0 x1 = true ∧ g14 x0 x1 = true := by
  refine sat_hid (t := T14 x0 x1) (P := fun q => q = true) ?_
  have d1 := dgood_d h0
  have d2 := ddec_d h1
  have d3 := dlong_d h1
  obtain ⟨x, hx⟩ : ∃ x, g122 x0 = x := ⟨_, rfl⟩
  obtain ⟨w, e, he⟩ : ∃ w e, g129 x1 = (w, e) := ⟨_, _, rfl⟩
  have eI : ∀ x, neI x x = false := fun x => by simp
  have eJ : ∀ x, eqI x x = true := fun x => by simp
  have eB : ∀ x, eqB x x = true := fun x => by simp
  -- the tail: words read, and told again
  have t12 : y14_8 x1 = false ∧ y14_9 x1 = false := by
    have a : y14_8 x1 = false := by
      unfold y14_8 y14_6 y14_7
      rw [he, (dec_i _ _).2, (dec_s _ _).2]
      simp only [eI, eJ, eB, Bool.not_true, cond_false, Bool.and_true]
    refine ⟨a, ?_⟩
    unfold y14_9
    rw [a, (lng_i _).2, (lng_s _).2]
    simp only [eI, eB, Bool.not_true, cond_false]
  have back : (y14_6 x1).2.2 = true → y14_12 x1 = true ∧ y14_13 x1 = true := fun hh => by
    have y6 : y14_6 x1 = decR w e := by unfold y14_6; rw [he, (dec_i _ _).2]
    rw [y6] at hh
    have hc : (inB w 0 65535 && (inB e 0 65535 && goodI (decI w e))) = true := by
      cases hz : (inB w 0 65535 && (inB e 0 65535 && goodI (decI w e)))
      · unfold decR at hh; rw [hz] at hh; exact Bool.noConfusion hh
      · rfl
    have hR : decR w e = (decI w e, longI w, true) := by unfold decR; rw [hc]; rfl
    simp only [Bool.and_eq_true] at hc
    obtain ⟨c1, c2, c3⟩ := hc
    have y10 : (g123 (y14_6 x1).1) = (ri (bif longB w then [w, e] else [w]), true) := by rw [y6, hR, (enc_i _).2, enc_dec c1 c3]
    have in0 : inRow [.int .i64] (ri (bif longB w then [w, e] else [w])) 0 = true := ri_inr (i := 0) (by cases longB w <;> simp)
    have at0 : intAt (ri (bif longB w then [w, e] else [w])) 0 0 = w := by cases longB w <;> rfl
    have p10 : y14_10 x1 = true := by
      unfold y14_10
      rw [y10, y6, hR]
      unfold longI
      cases longB w <;> rfl
    have p11 : y14_11 x1 = true := by
      unfold y14_11
      rw [p10, y10, at0, he]
      exact eJ w
    constructor
    · unfold y14_12
      rw [p10, p11, y10, in0, y6, hR]
      unfold longI
      cases longB w
      · rfl
      · exact Bool.and_eq_true_iff.2 ⟨rfl, Bool.and_eq_true_iff.2 ⟨Bool.or_eq_true_iff.2 (Or.inl (Bool.and_eq_true_iff.2 ⟨Bool.or_eq_true_iff.2 (Or.inl (Bool.and_eq_true_iff.2 ⟨ri_inr (zs := [w, e]) (i := 1) (by simp), rfl⟩)), rfl⟩)), rfl⟩⟩
    · unfold y14_13
      rw [p11, y10, y6, hR, he]
      unfold longI
      cases longB w
      · rfl
      · exact eJ e
  have kd : ∀ a b, k127 a b = true := fun a b => (dec_i a b).1
  have ks : ∀ a b, k130 a b = true := fun a b => (dec_s a b).1
  have li : ∀ a, k128 a = true := fun a => (lng_i a).1
  have ls : ∀ a, k132 a = true := fun a => (lng_s a).1
  have ke : ∀ a, k123 a = true := fun a => (enc_i a).1
  have kf : ∀ a, k124 a = true := fun a => (enc_s a).1
  have kg : ∀ a, k125 a = true := fun a => (good_i a).1
  have ll : (encR x).1.length ≤ 2 ∧ ∃ zs, (encR x).1 = ri zs ∧ zs.length ≤ 2 := by
    unfold encR encL
    cases goodI x <;> cases geI x.Ea.Mode 5 <;> exact ⟨by simp [ri_len], _, rfl, by simp⟩
  obtain ⟨-, zs, lz, lz2⟩ := ll
  obtain ⟨s1, s2⟩ := sameInts_t zs zs (by omega)
  simp only [decide_true] at s2
  have same1 : y14_1 x0 = false := by
    unfold y14_1 y14_0
    rw [hx, (enc_i _).2, (enc_s _).2, lz, s2, eB]
    rfl
  have same0 : y14_0 x0 = false := by
    unfold y14_0
    rw [hx, (enc_i _).2, (enc_s _).2, eB]
    rfl
  have gd : eqB (g125 x) (encR x).2 = true := by
    rw [(good_i _).2]
    unfold encR
    cases goodI x <;> rfl
  have first : (encR x).2 = true → x1.length ≤ 9223372036854775807 → k126 x1 = true ∧ inRow [.int .i64] (encR x).1 0 = true ∧ (eqI (lenI (encR x).1) 2 = true → inRow [.int .i64] (encR x).1 1 = true) ∧ y14_4 x0 x1 = false ∧ (y14_5 x0).2 = true ∧ (y14_5 x0).1 = (y14_3 x0 x1).2.1 := fun hh hl => by
    obtain ⟨n1, n2⟩ := num_d h1 hl
    obtain ⟨i0, i1⟩ := enc_in x
    have hg : goodI x = true := by
      cases hz : goodI x
      · unfold encR at hh; rw [hz] at hh; exact Bool.noConfusion hh
      · rfl
    have r := rng hg
    have hR : encR x = (ri (encL x), true) := by unfold encR; rw [hg]; rfl
    have at0 : intAt (ri (encL x)) 0 0 = W x := by unfold encL; cases geI x.Ea.Mode 5 <;> rfl
    obtain ⟨m0, m1⟩ := rem_rng (x := g126 x1) (n := 65536) n2 (by omega)
    have y2 : inB (y14_2 x0 x1) 0 65535 = true ∧ (geI x.Ea.Mode 5 = true → y14_2 x0 x1 = x.Ea.Ext) := by
      unfold y14_2
      rw [hx, (enc_i _).2, hR]
      unfold encL
      cases geI x.Ea.Mode 5
      · exact ⟨by rw [inB_iff]; show 0 ≤ remI (g126 x1) 65536 ∧ remI (g126 x1) 65536 ≤ 65535; omega, fun h => Bool.noConfusion h⟩
      · exact ⟨by rw [inB_iff]; show 0 ≤ x.Ea.Ext ∧ x.Ea.Ext ≤ 65535; exact r.xt, fun _ => rfl⟩
    have y3 : y14_3 x0 x1 = (x, longI (W x), true) := by
      unfold y14_3
      rw [hx, (enc_i _).2, hR, at0, (dec_i _ _).2]
      unfold decR
      rw [dec_W r _ y2.2, W_rng r, y2.1, hg]
      rfl
    have y5 : y14_5 x0 = (longI (W x), true) := by
      unfold y14_5
      rw [hx, (enc_i _).2, hR, at0, (lng_i _).2, W_rng r]
      rfl
    refine ⟨n1, i0 hh, i1 hh, ?_, by rw [y5], by rw [y5, y3]⟩
    unfold y14_4
    rw [y3, hx, (enc_i _).2, hR]
    simp only [eJ, Bool.and_true, Bool.not_true, cond_false]
    unfold longI
    rw [longB_W r]
    unfold encL
    cases geI x.Ea.Mode 5 <;> rfl
  obtain ⟨t1, t2⟩ := t12
  rw [lz] at first
  unfold T14
  rw [hx, he] at *
  cases hb : (encR x).2 <;> rw [hb] at gd
  · simp only [sat_ok', sat_br, sat_leaf, (enc_i _).2, (enc_s _).2, lz, s1, same0, same1, gd, hb, d1, d2, d3, kd, ks, li, ls, ke, kf, kg, t2, Bool.and_true, Bool.true_or, Bool.not_true, cond_false, true_and, implies_true, and_true, Bool.false_eq_true, Bool.true_eq_false, false_implies, forall_const]
    exact fun _ hh => back hh
  · obtain ⟨f1, f2, f3, f4, f5, f6⟩ := first hb m1
    have z1 : (inRow [.int .i64] (ri zs) 1 || !eqI (lenI (ri zs)) 2) = true := by
      cases hz : eqI (lenI (ri zs)) 2
      · simp
      · rw [f3 hz]; rfl
    simp only [sat_ok', sat_br, sat_leaf, (enc_i _).2, (enc_s _).2, lz, s1, same0, same1, gd, hb, d1, d2, d3, kd, ks, li, ls, ke, kf, kg, t2, f1, f2, z1, f4, f5, f6, eI, Bool.and_true, Bool.true_or, Bool.not_true, cond_false, true_and, implies_true, and_true, Bool.false_eq_true, Bool.true_eq_false, false_implies, forall_const]
    exact fun _ hh => back hh
end Go.Proofs.YtckjibiolfapiaaCode
