import Derived.Test.YtdipcnijfkdnfaaGreatZqStackQ
import Derived.Test.YtdipcnijfkdnfaaGreatZmc
set_option linter.unusedVariables false
set_option linter.unusedSimpArgs false
namespace Go.Proofs.YtdipcnijfkdnfaaGreatStack
open Go Go.Zq
set_option maxHeartbeats 4000000
set_option maxRecDepth 100000
theorem ef (a b : Int) (h : eqI a b = false := by rfl) : eqI a b = false := h
theorem et (a b : Int) (h : eqI a b = true := by rfl) : eqI a b = true := h
@[simp] theorem within_g (x a b : Int) : g106 x a b = inB x a b := by
  simp only [g106, hid_eq, T106, val_ok, val_leaf, geI, leI, inB, ge_iff_le]
  cases decide (a ≤ x) <;> rfl
@[simp] theorem within_k (x a b : Int) : k106 x a b = true := by
  simp [k106, hid_eq, T106]
@[simp] theorem l1In_g (x a b : Int) : g108 x a b = inB x a b := by
  simp only [g108, hid_eq, T108, val_ok, val_leaf, geI, leI, inB, ge_iff_le]
  cases decide (a ≤ x) <;> rfl
@[simp] theorem l1In_k (x a b : Int) : k108 x a b = true := by
  simp [k108, hid_eq, T108]
theorem bytesB_f {zs : List Int} {i : Nat} (h : i < zs.length) (hz : inB zs[i] 0 255 = false) : bytesB zs = false := by
 unfold bytesB
 rw [List.all_eq_false]
 exact ⟨zs[i], List.getElem_mem h, by simp [hz]⟩
theorem bytesB_t {zs : List Int} (h : ∀ j (hj : j < zs.length), inB zs[j] 0 255 = true) : bytesB zs = true := by
 unfold bytesB
 rw [List.all_eq_true]
 intro z hz
 obtain ⟨j, hj, rfl⟩ := List.getElem_of_mem hz
 exact h j hj
theorem l4_loop (zs : List Int) (hl : zs.length < 1000000) : i164_0 (V164_0.mk (ri zs) (lenI (ri zs)) 0) = true ∧ (ltI (w164_0 (V164_0.mk (ri zs) (lenI (ri zs)) 0)).s7 (w164_0 (V164_0.mk (ri zs) (lenI (ri zs)) 0)).s6 = !bytesB zs) := by
 unfold i164_0 w164_0
 refine loop_w (Post := fun w => ltI w.s7 w.s6 = !bytesB zs) (loop_sat (fun n v => ∃ i : Nat, v = V164_0.mk (ri zs) (lenI (ri zs)) i ∧ i ≤ zs.length ∧ n = zs.length - i ∧ ∀ j (hj : j < zs.length), j < i → inB zs[j] 0 255 = true) _ ?_ 2097152 zs.length _ ⟨0, rfl, by omega, by omega, fun j _ h => absurd h (by omega)⟩ (by omega))
 rintro n v ⟨i, rfl, hi, rfl, hall⟩
 unfold N164_0
 simp only [sat_ok', sat_br, sat_leaf, lenI_eq, ri_len, ltI_iff, ltI_f, true_and, Int.toNat_natCast]
 constructor
 ·intro h
  have hi' : i < zs.length := by omega
  rw [ri_inr hi', ri_int hi', l1In_g, l1In_k]
  refine ⟨rfl, rfl, fun hz => ?_, fun hz => ?_⟩
  ·rw [bytesB_f hi' (by simpa using hz)]
   simpa [ltI] using h
  ·refine ⟨_, ?_, i + 1, ?_, by omega, rfl, ?_⟩
   ·omega
   ·rw [addI_eq (by omega)]; rfl
   ·intro j hj hji
    by_cases e : j = i
    ·subst e; simpa using hz
    ·exact hall j hj (by omega)
 ·intro h
  rw [bytesB_t fun j hj => hall j hj (by omega)]
  simpa [ltI] using h
theorem l4Bytes_t (zs : List Int) (hl : zs.length < 1000000) : k164 (ri zs) = true ∧ g164 (ri zs) = bytesB zs := by
 obtain ⟨h1, h2⟩ := l4_loop zs hl
 unfold k164 g164 T164 y164_0
 rw [hid_eq, hid_eq]
 simp only [okv_ok, okv_br, okv_leaf, val_ok, val_br, val_leaf, h1, h2, Bool.true_and]
 cases bytesB zs <;> exact ⟨rfl, rfl⟩
theorem same_loop (xs ys : List Int) (hl : xs.length < 1000000) (he : xs.length = ys.length) : i14_0 (V14_0.mk (ri xs) (ri ys) (lenI (ri xs)) 0) = true ∧ (ltI (w14_0 (V14_0.mk (ri xs) (ri ys) (lenI (ri xs)) 0)).s13 (w14_0 (V14_0.mk (ri xs) (ri ys) (lenI (ri xs)) 0)).s12 = !decide (xs = ys)) := by
 unfold i14_0 w14_0
 refine loop_w (Post := fun w => ltI w.s13 w.s12 = !decide (xs = ys)) (loop_sat (fun n v => ∃ i : Nat, v = V14_0.mk (ri xs) (ri ys) (lenI (ri xs)) i ∧ i ≤ xs.length ∧ n = xs.length - i ∧ ∀ j (hj : j < xs.length), j < i → xs[j] = ys[j]) _ ?_ 2097152 xs.length _ ⟨0, rfl, by omega, by omega, fun j _ h => absurd h (by omega)⟩ (by omega))
 rintro n v ⟨i, rfl, hi, rfl, hall⟩
 unfold N14_0
 simp only [sat_ok', sat_br, sat_leaf, lenI_eq, ri_len, ltI_iff, ltI_f, true_and, Int.toNat_natCast]
 constructor
 ·intro h
  have hi' : i < xs.length := by omega
  have hy' : i < ys.length := by omega
  rw [ri_inr hi', ri_int hi', ri_inr hy', ri_int hy']
  refine ⟨rfl, fun hz => ?_, fun hz => ?_⟩
  ·have : xs ≠ ys := fun e => by subst e; simp at hz
   rw [decide_eq_false this]
   simpa [ltI] using h
  ·refine ⟨_, ?_, i + 1, ?_, by omega, rfl, ?_⟩
   ·omega
   ·rw [addI_eq (by omega)]; rfl
   ·intro j hj hji
    by_cases e : j = i
    ·subst e; simpa using hz
    ·exact hall j hj (by omega)
 ·intro h
  rw [decide_eq_true (List.ext_getElem he fun j h1 h2 => hall j h1 (by omega))]
  simpa [ltI] using h
theorem sameInts_t (xs ys : List Int) (hl : xs.length < 1000000) : k14 (ri xs) (ri ys) = true ∧ g14 (ri xs) (ri ys) = decide (xs = ys) := by
 unfold k14 g14 T14 y14_0
 rw [hid_eq, hid_eq]
 by_cases he : xs.length = ys.length
 ·obtain ⟨h1, h2⟩ := same_loop xs ys hl he
  have e : neI (lenI (ri xs)) (lenI (ri ys)) = false := by simp [he, ri_len]
  simp only [okv_ok, okv_br, okv_leaf, val_ok, val_br, val_leaf, h1, h2, e, Bool.true_and, cond_false]
  cases decide (xs = ys) <;> exact ⟨rfl, rfl⟩
 ·have e : neI (lenI (ri xs)) (lenI (ri ys)) = true := by simp [ri_len]; omega
  have : xs ≠ ys := fun e => he (by rw [e])
  simp only [okv_ok, okv_br, okv_leaf, val_ok, val_br, val_leaf, e, decide_eq_false this, Bool.true_and, cond_true, and_self]
def CO (B : Int) (c : Gl1Cur) : Prop := CurOk B c.fcode c.fat
theorem CO.mono {B C : Int} {c : Gl1Cur} (h : CO B c) (hB : B ≤ C) : CO C c := CurOk.mono h hB
theorem far_g (s : Int) : 0 ≤ wrapK .i64 (andK .u64 (shrK .u64 s 40) 255) ∧ wrapK .i64 (andK .u64 (shrK .u64 s 40) 255) < 256 := by
 have e : shrK .u64 s 40 = Int.fdiv s 1099511627776 := by
  unfold shrK
  rw [show ((2 : Int) ^ min (Int.toNat 40) IntKind.u64.bits) = 1099511627776 from by decide]
 unfold wrapK andK
 rw [e]
 exact far_rng s
theorem next_d {B : Int} {c : Gl1Cur} (h : CO B c) (hB : B < 4000000000000000000) : k162 c = true ∧ (CO (B + 1) (g162 c).1 ∧ 0 ≤ (g162 c).2 ∧ (g162 c).2 < 256) := by
 refine sat_hid (t := T162 c) (P := fun r => CO (B + 1) r.1 ∧ 0 ≤ r.2 ∧ r.2 < 256) ?_
 obtain ⟨h1, h2, h3⟩ := h
 have ha : addI c.fat 1 = c.fat + 1 := addI_eq (by omega)
 have hc : CurOk (B + 1) c.fcode (c.fat + 1) := ⟨h1, by omega, by omega⟩
 have hv : 0 ≤ y162_0 c ∧ y162_0 c < 256 := by
  unfold y162_0
  cases hl : ltI c.fat (lenI c.fcode)
  ·simp
  ·have hl' : c.fat < (c.fcode.length : Int) := by simpa using hl
   obtain ⟨z, -, e, z0, z1⟩ := row_at h1 (j := c.fat.toNat) (by omega)
   rw [cond_true, e, wrap_id (by omega)]
   exact ⟨z0, z1⟩
 have hr : (inRow [.int .u8] c.fcode c.fat || !(ltI c.fat (lenI c.fcode))) = true := by
  cases hl : ltI c.fat (lenI c.fcode)
  ·simp
  ·have hl' : c.fat < (c.fcode.length : Int) := by simpa using hl
   rw [inRow_byte h1 h2 hl']
   rfl
 unfold T162
 simp only [sat_ok', sat_br, sat_leaf, hr, ha, Bool.and_true, true_and]
 exact ⟨fun _ => ⟨hc, hv⟩, fun _ => ⟨hc, far_g _⟩⟩
theorem pick_d {B : Int} {c : Gl1Cur} (n : Int) (h : CO B c) (hB : B < 3000000000000000000) : k89 n c = true ∧ (CO (B + 2) (g89 n c).1 ∧ 0 ≤ (g89 n c).2 ∧ (2 ≤ n → (g89 n c).2 < n) ∧ (n ≤ 1 → (g89 n c).2 = 0)) := by
 refine sat_hid (t := T89 n c) (P := fun r => CO (B + 2) r.1 ∧ 0 ≤ r.2 ∧ (2 ≤ n → r.2 < n) ∧ (n ≤ 1 → r.2 = 0)) ?_
 obtain ⟨k1, c1, v0, v1⟩ := next_d h (by omega)
 obtain ⟨k2, c2, w0, w1⟩ := next_d c1 (by omega)
 unfold T89
 simp only [sat_ok', sat_br, sat_leaf, k1, k2, leI_iff, leI_f, gtI_iff, gtI_f, neI_iff, Bool.and_true, true_and]
 refine ⟨fun hn => ⟨h.mono (by omega), by omega, by omega, fun _ => trivial⟩, fun hn => ⟨fun hb => ⟨by omega, c2.mono (by omega), ?_⟩, fun hb => ⟨by omega, c1.mono (by omega), ?_⟩⟩⟩
 ·have e : mulI (g162 c).2 256 = (g162 c).2 * 256 := mulI_eq (by omega)
  rw [e, addI_eq (by omega)]
  obtain ⟨r0, r1⟩ := rem_rng (x := (g162 c).2 * 256 + (g162 (g162 c).1).2) (n := n) (by omega) (by omega)
  exact ⟨r0, fun _ => r1, by omega⟩
 ·obtain ⟨r0, r1⟩ := rem_rng (x := (g162 c).2) (n := n) (by omega) (by omega)
  exact ⟨r0, fun _ => r1, by omega⟩
theorem one_d {B : Int} {c : Gl1Cur} (n : Int) (h : CO B c) (hB : B < 3000000000000000000) : k86 n c = true ∧ CO (B + 2) (g86 n c).1 := by
 refine sat_hid (t := T86 n c) (P := fun r => CO (B + 2) r.1) ?_
 obtain ⟨k1, c1, -⟩ := pick_d n h hB
 unfold T86
 simp only [sat_ok', sat_leaf, k1, Bool.and_true, true_and]
 exact c1
theorem among_d {B : Int} {c : Gl1Cur} {r : List Row} (hr : Num r) (hl : 1 ≤ r.length) (h : CO B c) (hB : B < 3000000000000000000) : k90 r c = true ∧ (CO (B + 2) (g90 r c).1 ∧ ∃ j, j < r.length ∧ (g90 r c).2 = intAt r j 0) := by
 refine sat_hid (t := T90 r c) (P := fun q => CO (B + 2) q.1 ∧ ∃ j, j < r.length ∧ q.2 = intAt r j 0) ?_
 obtain ⟨k1, c1, v0, v1, v2⟩ := pick_d (lenI r) h hB
 rw [lenI_eq] at k1 c1 v0 v1 v2
 have hj : (g89 (r.length : Int) c).2 < (r.length : Int) := by
  by_cases h2 : r.length = 1
  ·rw [v2 (by omega)]; omega
  ·exact v1 (by omega)
 unfold T90
 simp only [sat_ok', sat_leaf, lenI_eq, k1, num_in hr v0 hj, Bool.and_true, true_and]
 exact ⟨c1, _, by omega, rfl⟩
end Go.Proofs.YtdipcnijfkdnfaaGreatStack

namespace Go.Proofs.YtdipcnijfkdnfaaGreatStack
open Go Go.Zq
set_option maxHeartbeats 4000000
set_option maxRecDepth 100000
def Acc (r : List Row) : Prop := ∃ l : List GAccess, r = l.map GAccess.row
theorem acc_in {l : List GAccess} {i : Nat} (h : i < l.length) : inRow [.int .i64, .int .i64, .int .i64, .int .i64, .int .i64] (l.map GAccess.row) (i : Int) = true ∧ GAccess.at (l.map GAccess.row) i 0 = l[i] := by
 have e : (l.map GAccess.row).getD i [] = GAccess.row l[i] := by simp [List.getD_eq_getElem?_getD, h]
 constructor
 ·simp only [inRow, hasRow, Int.toNat_natCast, e, List.length_map]
  have : Nat.blt i l.length = true := by simpa using h
  rw [this]
  rfl
 ·unfold GAccess.at intAt cellAt
  rw [e]
  rfl
structure BV (b : GBus) : Prop where
 n : Num b.Bytes
 a : Acc b.Log
 nb : b.Bytes.length ≤ 512
 nl : b.Log.length ≤ 1000
theorem z_len {r : List Row} : eqN (0 + r.length) r.length = true ∧ leN (0 + r.length) r.length = true := by simp
theorem roomB {n : Nat} (h : n ≤ 2000) : leN (mulN n 8) 140737488355328 = true ∧ leN (mulN n 40) 140737488355328 = true ∧ leN n 140737488355328 = true ∧ leN (mulN (0 + n) 8) 140737488355328 = true ∧ leN (mulN (0 + n) 40) 140737488355328 = true ∧ leN (0 + n) 140737488355328 = true ∧ leN (mulN (n + 1) 8) 140737488355328 = true ∧ leN (mulN (n + 1) 40) 140737488355328 = true ∧ leN (n + 1) 140737488355328 = true := by
 simp only [leN_iff, mulN_eq]
 omega
theorem word_s (a : Int) : k180 a = true ∧ g180 a = inB a 0 65535 := by
 constructor
 ·simp [k180, hid_eq, T180]
 ·simp [g180, hid_eq, T180]
theorem word_i (a : Int) : k73 a = true ∧ g73 a = inB a 0 65535 := by
 constructor
 ·simp [k73, hid_eq, T73]
 ·simp [g73, hid_eq, T73]
def valB (s v : Int) : Bool := bif eqI s 1 then inB v 0 255 else bif eqI s 2 then inB v 0 65535 else false
theorem size_s (s : Int) : k190 s = true ∧ g190 s = (eqI s 1 || eqI s 2) := by
 constructor
 ·simp [k190, hid_eq, T190]
 ·simp only [g190, hid_eq, T190, val_ok, val_leaf]
  cases eqI s 1 <;> rfl
theorem size_i (s : Int) : k187 s = true ∧ g187 s = (eqI s 1 || eqI s 2) := by
 constructor
 ·simp [k187, hid_eq, T187]
 ·simp only [g187, hid_eq, T187, val_ok, val_leaf]
  cases eqI s 1 <;> rfl
theorem lim_s1 : k248 1 = true ∧ g248 1 = 256 := by
 refine sat_hid (t := T248 1) (P := fun r => r = 256) ?_
 unfold T248
 simp only [sat_ok', sat_leaf]
 decide +kernel
theorem lim_s2 : k248 2 = true ∧ g248 2 = 65536 := by
 refine sat_hid (t := T248 2) (P := fun r => r = 65536) ?_
 unfold T248
 simp only [sat_ok', sat_leaf]
 decide +kernel
theorem lim_i1 : k262 1 = true ∧ g262 1 = 256 := by
 refine sat_hid (t := T262 1) (P := fun r => r = 256) ?_
 unfold T262
 simp only [sat_ok', sat_leaf]
 decide +kernel
theorem lim_i2 : k262 2 = true ∧ g262 2 = 65536 := by
 refine sat_hid (t := T262 2) (P := fun r => r = 65536) ?_
 unfold T262
 simp only [sat_ok', sat_leaf]
 decide +kernel
theorem val_s (s v : Int) : k246 s v = true ∧ g246 s v = valB s v := by
 refine sat_hid (t := T246 s v) (P := fun r => r = valB s v) ?_
 unfold T246 valB
 rw [(size_s s).1, (size_s s).2]
 by_cases h1 : s = 1
 ·subst h1
  rw [lim_s1.1, lim_s1.2, show subI 256 1 = 255 from by decide]
  simp [et 1 1]
 ·by_cases h2 : s = 2
  ·subst h2
   rw [lim_s2.1, lim_s2.2, show subI 65536 1 = 65535 from by decide]
   simp [ef 2 1, et 2 2]
  ·have e1 : eqI s 1 = false := by simp [h1]
   have e2 : eqI s 2 = false := by simp [h2]
   simp [e1, e2]
theorem val_i (s v : Int) : k229 s v = true ∧ g229 s v = valB s v := by
 refine sat_hid (t := T229 s v) (P := fun r => r = valB s v) ?_
 unfold T229 valB
 rw [(size_i s).1, (size_i s).2]
 by_cases h1 : s = 1
 ·subst h1
  rw [lim_i1.1, lim_i1.2, show subI 256 1 = 255 from by decide]
  simp [et 1 1]
 ·by_cases h2 : s = 2
  ·subst h2
   rw [lim_i2.1, lim_i2.2, show subI 65536 1 = 65535 from by decide]
   simp [ef 2 1, et 2 2]
  ·have e1 : eqI s 1 = false := by simp [h1]
   have e2 : eqI s 2 = false := by simp [h2]
   simp [e1, e2]
def accB (a : GAccess) : Bool := inB a.Kind 1 3 && (inB a.Addr 0 65535 && (valB a.Size a.Value && (inB a.Code 0 3 && !(eqI a.Kind 3 && eqI a.Code 0))))
theorem acc_s (a : GAccess) : k208 a = true ∧ g208 a = accB a := by
 refine sat_hid (t := T208 a) (P := fun r => r = accB a) ?_
 unfold T208 accB
 simp only [sat_ok', sat_br, sat_leaf, y208_1, y208_0, l1In_g, l1In_k, (word_s _).1, (word_s _).2, (val_s _ _).1, (val_s _ _).2, Bool.and_true, Bool.true_or, true_and]
 cases inB a.Kind 1 3 <;> cases valB a.Size a.Value <;> cases inB a.Addr 0 65535 <;> cases inB a.Code 0 3 <;> cases h : eqI a.Kind 3 <;> cases h2 : eqI a.Code 0 <;> simp_all
theorem acc_i (a : GAccess) : k175 a = true ∧ g175 a = accB a := by
 refine sat_hid (t := T175 a) (P := fun r => r = accB a) ?_
 unfold T175 accB
 simp only [sat_ok', sat_leaf, y175_1, y175_0, within_g, within_k, (word_i _).1, (word_i _).2, (val_i _ _).1, (val_i _ _).2, Bool.and_true, Bool.true_or, true_and]
 cases inB a.Kind 1 3 <;> cases valB a.Size a.Value <;> cases inB a.Addr 0 65535 <;> cases inB a.Code 0 3 <;> cases eqI a.Kind 3 <;> cases eqI a.Code 0 <;> rfl
theorem all_f {α : Type} {p : α → Bool} {l : List α} {i : Nat} (h : i < l.length) (hz : p l[i] = false) : l.all p = false := by
 rw [List.all_eq_false]
 exact ⟨l[i], List.getElem_mem h, by simp [hz]⟩
theorem all_t {α : Type} {p : α → Bool} {l : List α} (h : ∀ j (hj : j < l.length), p l[j] = true) : l.all p = true := by
 rw [List.all_eq_true]
 intro z hz
 obtain ⟨j, hj, rfl⟩ := List.getElem_of_mem hz
 exact h j hj
end Go.Proofs.YtdipcnijfkdnfaaGreatStack

namespace Go.Proofs.YtdipcnijfkdnfaaGreatStack
open Go Go.Zq
set_option maxHeartbeats 4000000
set_option maxRecDepth 100000
theorem l4_loopv1 (zs : List Int) (hl : zs.length < 1000000) : i164v1_0 (V164v1_0.mk (ri zs) (lenI (ri zs)) 0) = true ∧ (ltI (w164v1_0 (V164v1_0.mk (ri zs) (lenI (ri zs)) 0)).s7 (w164v1_0 (V164v1_0.mk (ri zs) (lenI (ri zs)) 0)).s6 = !bytesB zs) := by
 unfold i164v1_0 w164v1_0
 refine loop_w (Post := fun w => ltI w.s7 w.s6 = !bytesB zs) (loop_sat (fun n v => ∃ i : Nat, v = V164v1_0.mk (ri zs) (lenI (ri zs)) i ∧ i ≤ zs.length ∧ n = zs.length - i ∧ ∀ j (hj : j < zs.length), j < i → inB zs[j] 0 255 = true) _ ?_ 2097152 zs.length _ ⟨0, rfl, by omega, by omega, fun j _ h => absurd h (by omega)⟩ (by omega))
 rintro n v ⟨i, rfl, hi, rfl, hall⟩
 unfold N164v1_0
 simp only [sat_ok', sat_br, sat_leaf, lenI_eq, ri_len, ltI_iff, ltI_f, true_and, Int.toNat_natCast]
 constructor
 ·intro h
  have hi' : i < zs.length := by omega
  rw [ri_inr hi', ri_int hi', l1In_g, l1In_k]
  refine ⟨rfl, rfl, fun hz => ?_, fun hz => ?_⟩
  ·rw [bytesB_f hi' (by simpa using hz)]
   simpa [ltI] using h
  ·refine ⟨_, ?_, i + 1, ?_, by omega, rfl, ?_⟩
   ·omega
   ·rw [addI_eq (by omega)]; rfl
   ·intro j hj hji
    by_cases e : j = i
    ·subst e; simpa using hz
    ·exact hall j hj (by omega)
 ·intro h
  rw [bytesB_t fun j hj => hall j hj (by omega)]
  simpa [ltI] using h
theorem l4Bytes_tv1 (zs : List Int) (hl : zs.length < 1000000) : k164v1 (ri zs) = true ∧ g164v1 (ri zs) = bytesB zs := by
 obtain ⟨h1, h2⟩ := l4_loopv1 zs hl
 unfold k164v1 g164v1 T164v1 y164v1_0
 rw [hid_eq, hid_eq]
 simp only [okv_ok, okv_br, okv_leaf, val_ok, val_br, val_leaf, h1, h2, Bool.true_and]
 cases bytesB zs <;> exact ⟨rfl, rfl⟩
theorem gs_loop (b : GBus) (l : List GAccess) (hl : l.length ≤ 2000) : i155_0 (V155_0.mk b (l.map GAccess.row) (lenI (l.map GAccess.row)) 0) = true ∧ ((w155_0 (V155_0.mk b (l.map GAccess.row) (lenI (l.map GAccess.row)) 0)).b0 = b ∧ ltI (w155_0 (V155_0.mk b (l.map GAccess.row) (lenI (l.map GAccess.row)) 0)).s8 (w155_0 (V155_0.mk b (l.map GAccess.row) (lenI (l.map GAccess.row)) 0)).s7 = !l.all accB) := by
 unfold i155_0 w155_0
 refine loop_w (Post := fun w : V155_0 => w.b0 = b ∧ ltI w.s8 w.s7 = !l.all accB) (loop_sat (fun (m : Nat) (v : V155_0) => ∃ i : Nat, v = V155_0.mk b (l.map GAccess.row) (lenI (l.map GAccess.row)) i ∧ i + m = l.length ∧ ∀ j (hj : j < l.length), j < i → accB l[j] = true) _ ?_ 2097152 l.length _ ⟨0, rfl, by omega, fun j _ h => absurd h (by omega)⟩ (by omega))
 rintro m v ⟨i, rfl, hi, hall⟩
 unfold N155_0
 simp only [sat_ok', sat_br, sat_leaf, eqN_self, lenI_eq, List.length_map, ltI_iff, ltI_f, Bool.and_true, true_and, Int.toNat_natCast]
 constructor
 ·intro h
  have hi' : i < l.length := by omega
  obtain ⟨p1, p2⟩ := acc_in hi'
  rw [p1, p2, (acc_s _).1, (acc_s _).2]
  refine ⟨rfl, rfl, fun hz => ?_, fun hz => ?_⟩
  ·rw [all_f hi' (by simpa using hz)]
   simpa [ltI] using h
  ·refine ⟨m - 1, by omega, i + 1, ?_, by omega, ?_⟩
   ·rw [addI_eq (by omega)]; rfl
   ·intro j hj hji
    by_cases e : j = i
    ·subst e; simpa using hz
    ·exact hall j hj (by omega)
 ·intro h
  rw [all_t fun j hj => hall j hj (by omega)]
  simpa [ltI] using h
theorem good_s {b : GBus} (h : BV b) {zs : List Int} {l : List GAccess} (hz : b.Bytes = ri zs) (hl : b.Log = l.map GAccess.row) : k155 b = true ∧ g155 b = (eqI (zs.length : Int) 512 && (leI (l.length : Int) 400 && (bytesB zs && l.all accB))) := by
 refine sat_hid (t := T155 b) (P := fun r => r = (eqI (zs.length : Int) 512 && (leI (l.length : Int) 400 && (bytesB zs && l.all accB)))) ?_
 have n1 := h.nb
 have n2 := h.nl
 rw [hz, ri_len] at n1
 rw [hl, List.length_map] at n2
 obtain ⟨a1, a2, a3⟩ := gs_loop b l (by omega)
 rw [lenI_eq, List.length_map] at a1 a2 a3
 obtain ⟨c1, c2⟩ := l4Bytes_tv1 zs (by omega)
 unfold T155
 simp only [sat_ok', sat_br, sat_leaf, y155_0, eqN_self, hl, Bool.and_true, true_and, a1, a2, a3, hz, c1, c2, lenI_eq, ri_len, List.length_map, Bool.true_or]
 cases l.all accB <;> cases eqI (zs.length : Int) 512 <;> cases leI (l.length : Int) 400 <;> cases bytesB zs <;> simp
theorem bytes4_d (n : Nat) (c : Gl1Cur) {B : Int} (h : CO B c) (hB : B + 4 * n < 1000000000000000000) (hn : n ≤ 1000) : k88 (n : Int) c = true ∧ (CO (B + 4 * n) (g88 (n : Int) c).1 ∧ ∃ zs : List Int, (g88 (n : Int) c).2 = ri zs ∧ zs.length ≤ n ∧ bytesB zs = true) := by
 have L : i88_0 (V88_0.mk c (n : Int) []) = true ∧ (CO (B + 4 * n) (w88_0 (V88_0.mk c (n : Int) [])).b0 ∧ ∃ zs : List Int, (w88_0 (V88_0.mk c (n : Int) [])).s5 = ri zs ∧ zs.length ≤ n ∧ bytesB zs = true) := by
  unfold i88_0 w88_0
  refine loop_w (Post := fun w : V88_0 => CO (B + 4 * n) w.b0 ∧ ∃ zs : List Int, w.s5 = ri zs ∧ zs.length ≤ n ∧ bytesB zs = true) (loop_sat (fun (m : Nat) (v : V88_0) => CO (B + 4 * (n - m)) v.b0 ∧ v.s1 = (m : Int) ∧ m ≤ n ∧ ∃ zs : List Int, v.s5 = ri zs ∧ zs.length + m ≤ n ∧ bytesB zs = true) _ ?_ 2097152 n _ ⟨h.mono (by omega), rfl, by omega, [], rfl, by simp, rfl⟩ (by omega))
  rintro m v ⟨h1, h2, h3, zs, h4, h5, h6⟩
  obtain ⟨p1, p2, p3, p4, -⟩ := pick_d 256 h1 (by omega)
  have p4 := p4 (by omega)
  obtain ⟨r1, r2, r3, r4, r5, r6, r7, r8, r9⟩ := roomB (n := zs.length) (by omega)
  unfold N88_0
  simp only [sat_ok', sat_br, sat_leaf, y88_0_l_1, y88_0_l_0, h2, h4, ri_len, p1, z_len.1, r7, r9, eqN_self, gtI_iff, gtI_f, Bool.and_true, true_and]
  have e1 : eqN (0 + zs.length) zs.length = true := by simp
  rw [e1]
  refine ⟨fun hm => ⟨rfl, m - 1, by omega, p2.mono (by omega), ?_, by omega, zs ++ [(g89 256 v.b0).2], ?_, by simp; omega, ?_⟩, fun hm => ⟨h1.mono (by omega), zs, rfl, by omega, h6⟩⟩
  ·rw [subI_eq (by omega)]; omega
  ·exact (ri_append (xs := zs) (ys := [(g89 256 v.b0).2])).symm
  ·unfold bytesB at *
   rw [List.all_append, h6]
   simp
   omega
 refine sat_hid (t := T88 (n : Int) c) (P := fun r => CO (B + 4 * n) r.1 ∧ ∃ zs : List Int, r.2 = ri zs ∧ zs.length ≤ n ∧ bytesB zs = true) ?_
 unfold T88
 simp only [sat_ok', sat_leaf, y88_1, y88_0, L.1, eqN_self, Bool.and_true, true_and]
 exact L.2
structure B512 (b : GBus) : Prop where
 z : ∃ zs : List Int, b.Bytes = ri zs ∧ zs.length = 512
 l : b.Log = []
theorem loop_st {V : Type} {N : V → Pt (Option V)} (st : Nat → V) (n : Nat) (hn : n < 1000000) (h : ∀ i, i < n → (N (st i)).Sat (fun r => r = some (st (i + 1)))) (he : (N (st n)).Sat (fun r => r = none)) : (hid (loopV N 2097152 (st 0))).isSome = true ∧ (hid (loopV N 2097152 (st 0))).getD (st 0) = st n := by
 refine loop_w (Post := fun w => w = st n) (loop_sat (fun (m : Nat) (v : V) => ∃ i, i + m = n ∧ v = st i) _ ?_ 2097152 n _ ⟨0, by omega, rfl⟩ (by omega))
 rintro m v ⟨i, hi, rfl⟩
 have mono : ∀ {α : Type} {P Q : α → Prop}, (∀ a, P a → Q a) → ∀ {t : Pt α}, t.Sat P → t.Sat Q := fun {α P Q} hPQ t => by
  induction t with
  | leaf a => exact hPQ a
  | ok b x ih => exact fun h => ⟨h.1, ih h.2⟩
  | br b x y ix iy => exact fun h => ⟨fun e => ix (h.1 e), fun e => iy (h.2 e)⟩
 by_cases e : i = n
 ·subst e
  exact mono (fun r hr => by subst hr; rfl) he
 ·exact mono (fun r hr => by subst hr; exact ⟨m - 1, by omega, i + 1, by omega, rfl⟩) (h i (by omega))
def kindO (a : Int) : Int := bif inB a 448 495 || leI 512 a then 1 else bif inB a 384 447 then 3 else 0
theorem kind_i (a : Int) : k230 a = true ∧ g230 a = kindO a := by
 refine sat_hid (t := T230 a) (P := fun r => r = kindO a) ?_
 unfold T230 kindO
 have e : geI a 512 = leI 512 a := rfl
 simp only [sat_ok', sat_br, sat_leaf, within_g, within_k, e, Bool.and_true, true_and]
 cases inB a 448 495 <;> cases leI 512 a <;> cases inB a 384 447 <;> simp
theorem kind_s (a : Int) : k231 a = true ∧ g231 a = kindO a := by
 refine sat_hid (t := T231 a) (P := fun r => r = kindO a) ?_
 unfold T231 kindO
 have e : geI a 512 = leI 512 a := rfl
 simp only [sat_ok', sat_br, sat_leaf, l1In_g, l1In_k, e, Bool.and_true, Bool.true_or, true_and]
 cases inB a 448 495 <;> cases leI 512 a <;> cases inB a 384 447 <;> simp
def codeO (k s a : Int) : Int := bif eqI s 2 && eqI (a % 2) 1 then 2 else bif eqI (kindO a) 1 || eqI (kindO (a + s - 1)) 1 then 1 else bif eqI k 2 && (eqI (kindO a) 3 || eqI (kindO (a + s - 1)) 3) then 3 else 0
theorem code_i (k s a : Int) (h : inB a 0 65535 = true) (hs : inB s 0 2 = true) : k176 k s a = true ∧ g176 k s a = codeO k s a := by
 refine sat_hid (t := T176 k s a) (P := fun r => r = codeO k s a) ?_
 rw [inB_iff] at h hs
 have e : subI (addI a s) 1 = a + s - 1 := by rw [addI_eq (by omega), subI_eq (by omega)]
 unfold T176 codeO
 simp only [sat_ok', sat_br, sat_leaf, y176_0, (kind_i _).1, (kind_i _).2, rem2 h.1, e, Bool.and_true, true_and]
 cases eqI s 2 <;> cases eqI (a % 2) 1 <;> cases eqI (kindO a) 1 <;> cases eqI (kindO (a + s - 1)) 1 <;> cases eqI k 2 <;> cases eqI (kindO a) 3 <;> cases eqI (kindO (a + s - 1)) 3 <;> simp
theorem code_s (k s a : Int) (h : inB a 0 65535 = true) (hs : inB s 0 2 = true) : k181 k s a = true ∧ g181 k s a = codeO k s a := by
 refine sat_hid (t := T181 k s a) (P := fun r => r = codeO k s a) ?_
 rw [inB_iff] at h hs
 have e : subI (addI a s) 1 = a + s - 1 := by rw [addI_eq (by omega), subI_eq (by omega)]
 unfold T181 codeO
 simp only [sat_ok', sat_br, sat_leaf, y181_0, (kind_s _).1, (kind_s _).2, and1, e, Bool.and_true, Bool.true_or, true_and]
 cases eqI s 2 <;> cases eqI (a % 2) 1 <;> cases eqI (kindO a) 1 <;> cases eqI (kindO (a + s - 1)) 1 <;> cases eqI k 2 <;> cases eqI (kindO a) 3 <;> cases eqI (kindO (a + s - 1)) 3 <;> simp
theorem code_rng (k s a : Int) : inB (codeO k s a) 0 3 = true := by
 unfold codeO
 cases eqI s 2 && eqI (a % 2) 1 <;> cases eqI (kindO a) 1 || eqI (kindO (a + s - 1)) 1 <;> cases eqI k 2 && (eqI (kindO a) 3 || eqI (kindO (a + s - 1)) 3) <;> rfl
theorem kind_not {a : Int} : (kindO a ≠ 1 → a < 448 ∨ (496 ≤ a ∧ a < 512)) ∧ (kindO a ≠ 1 → kindO a ≠ 3 → a < 384 ∨ 496 ≤ a) := by
 unfold kindO
 cases h1 : inB a 448 495 <;> cases h2 : leI 512 a <;> cases h3 : inB a 384 447 <;> simp [inB] at * <;> omega
theorem code_0 {k s a : Int} (h : codeO k s a = 0) : codeO 1 s a = 0 ∧ (a < 448 ∨ (496 ≤ a ∧ a < 512)) ∧ (a + s - 1 < 448 ∨ (496 ≤ a + s - 1 ∧ a + s - 1 < 512)) ∧ (k = 2 → (a < 384 ∨ 496 ≤ a) ∧ (a + s - 1 < 384 ∨ 496 ≤ a + s - 1)) := by
 unfold codeO at *
 cases h1 : eqI s 2 && eqI (a % 2) 1
 ·cases h2 : eqI (kindO a) 1 || eqI (kindO (a + s - 1)) 1
  ·rw [h1, h2] at h
   rw [Bool.or_eq_false_iff, eqI_f, eqI_f] at h2
   refine ⟨rfl, kind_not.1 h2.1, kind_not.1 h2.2, fun e => ?_⟩
   subst e
   cases h3 : eqI (kindO a) 3 || eqI (kindO (a + s - 1)) 3
   ·rw [Bool.or_eq_false_iff, eqI_f, eqI_f] at h3
    exact ⟨kind_not.2 h2.1 h3.1, kind_not.2 h2.2 h3.2⟩
   ·rw [h3, et 2 2] at h; simp at h
  ·rw [h1, h2] at h; simp at h
 ·rw [h1] at h; simp at h
end Go.Proofs.YtdipcnijfkdnfaaGreatStack

namespace Go.Proofs.YtdipcnijfkdnfaaGreatStack
open Bool renaming and_true → qt
open Bool renaming true_eq_false → q_1
open Bool renaming false_eq_true → q_2
open Go Go.Zq
set_option maxHeartbeats 4000000
set_option maxRecDepth 100000
def wk (s v : Int) (a : Nat) (zs : List Int) : Nat → List Int
 | 0 => zs
 | 1 => zs.set a (bif eqI s 1 then v % 256 else v / 256)
 | _ => (zs.set a (v / 256)).set (a + 1) (v % 256)
def rkq (a : Nat) (zs : List Int) : Nat → Int
 | 0 => 0
 | 1 => zs.getD a 0
 | _ => zs.getD a 0 * 256 + zs.getD (a + 1) 0
theorem getD_lt {zs : List Int} {i : Nat} (h : i < zs.length) : zs.getD i 0 = zs[i] := by simp [List.getD_eq_getElem?_getD, h]
theorem byte_at {zs : List Int} (h : bytesB zs = true) {i : Nat} (hi : i < zs.length) : 0 ≤ zs[i] ∧ zs[i] < 256 := by
 have := List.all_eq_true.1 h _ (List.getElem_mem hi)
 rw [inB_iff] at this
 omega
structure TouchOk (s v : Int) (zs : List Int) (l : List GAccess) : Prop where
 hs : s = 1 ∨ s = 2
 hv : valB s v = true
 hz : zs.length = 512
 hb : bytesB zs = true
 hl : l.length ≤ 400
theorem val_rng {s v : Int} (hs : s = 1 ∨ s = 2) (h : valB s v = true) : 0 ≤ v ∧ v < 65536 ∧ (s = 1 → v < 256) := by
 unfold valB at h
 rcases hs with rfl | rfl
 ·rw [et 1 1, cond_true, inB_iff] at h; omega
 ·rw [ef 2 1, et 2 2, cond_true, cond_false, inB_iff] at h; omega
theorem cell_ok {zs : List Int} {a : Nat} (h : a < zs.length) : leI 0 (a : Int) = true ∧ ltI (a : Int) (zs.length : Int) = true ∧ blt a zs.length = true ∧ beqN (rlen (ri zs) a) 1 = true ∧ hasRow [.int .i64] (ri zs) a 0 = true := by
 refine ⟨by simp, by simp; exact h, by simp; exact h, by rw [ri_rlen h]; rfl, num_has ⟨zs, rfl⟩ (by rw [ri_len]; exact h)⟩
theorem shr0 {v : Int} : shrI v 0 = v := by rw [shr_div (n := 0) 0 rfl (by omega)]; simp
theorem shr8 {v : Int} : shrI v 8 = v / 256 := by rw [shr_div (n := 8) 8 rfl (by omega)]; rfl
theorem wr_loop {s v : Int} {a : Nat} {zs : List Int} {l : List GAccess} (h : TouchOk s v zs l) (hc : codeO 2 s a = 0) : i209_0 (V209_0.mk ⟨ri zs, l.map GAccess.row⟩ 2 s a v 0 v 0) = true ∧ w209_0 (V209_0.mk ⟨ri zs, l.map GAccess.row⟩ 2 s a v 0 v 0) = V209_0.mk ⟨ri (wk s v a zs s.toNat), l.map GAccess.row⟩ 2 s a v 0 v s := by
 obtain ⟨-, q1, q2, q3⟩ := code_0 hc
 obtain ⟨v0, v1, v2⟩ := val_rng h.hs h.hv
 have hz := h.hz
 have hl := h.hl
 have e22 : eqI 2 2 = true := rfl
 have an : andI v 255 = v % 256 := and255 v0 (by omega)
 have an8 : andI (v / 256) 255 = v / 256 := by rw [and255 (by omega) (by omega)]; omega
 have := loop_st (N := N209_0) (fun i => V209_0.mk ⟨ri (wk s v a zs i), l.map GAccess.row⟩ 2 s a v 0 v i) s.toNat (by rcases h.hs with rfl | rfl <;> decide) ?_ ?_
 ·rw [show ((s.toNat : Nat) : Int) = s from by rcases h.hs with rfl | rfl <;> rfl] at this
  exact this
 ·intro i hi
  have p : addI (a : Int) ((i : Nat) : Int) = ((a + i : Nat) : Int) := by
   have : s.toNat ≤ 2 := by rcases h.hs with rfl | rfl <;> decide
   rw [addI_eq (by omega)]; omega
  rcases h.hs with rfl | rfl
  ·obtain rfl : i = 0 := by have : Int.toNat 1 = 1 := rfl; omega
   have p2 : wrapK .u64 (mulI 8 (subI (subI 1 1) ((0 : Nat) : Int))) = 0 := by decide
   have p3 : ltI ((0 : Nat) : Int) 1 = true := by decide
   have p4 : addI ((0 : Nat) : Int) 1 = ((0 + 1 : Nat) : Int) := by decide
   obtain ⟨c1, c2, c3, c4, c5⟩ := cell_ok (zs := zs) (a := a) (by omega)
   unfold N209_0
   simp only [sat_ok', sat_br, sat_leaf, y209_0_l_5, y209_0_l_4, y209_0_l_3, y209_0_l_2, y209_0_l_1, y209_0_l_0, wk, p, p2, p3, p4, shr0, an, Int.toNat_natCast, Nat.zero_add, Nat.add_zero, lenI_eq, ri_len, ri_set, List.length_set, eqN_self, e22, et 1 1, show leI 0 0 = true from rfl, c1, c2, c3, c4, c5, qt, true_and, cond_true, implies_true, q_1, false_implies, and_true]
  ·obtain rfl | rfl : i = 0 ∨ i = 1 := by have : Int.toNat 2 = 2 := rfl; omega
   ·have p2 : wrapK .u64 (mulI 8 (subI (subI 2 1) ((0 : Nat) : Int))) = 8 := by decide
    have p3 : ltI ((0 : Nat) : Int) 2 = true := by decide
    have p4 : addI ((0 : Nat) : Int) 1 = ((0 + 1 : Nat) : Int) := by decide
    obtain ⟨c1, c2, c3, c4, c5⟩ := cell_ok (zs := zs) (a := a) (by omega)
    unfold N209_0
    simp only [sat_ok', sat_br, sat_leaf, y209_0_l_5, y209_0_l_4, y209_0_l_3, y209_0_l_2, y209_0_l_1, y209_0_l_0, wk, p, p2, p3, p4, shr8, an8, Int.toNat_natCast, Nat.zero_add, Nat.add_zero, lenI_eq, ri_len, ri_set, List.length_set, eqN_self, e22, ef 2 1, show leI 0 8 = true from rfl, c1, c2, c3, c4, c5, qt, true_and, cond_true, cond_false, implies_true, q_1, false_implies, and_true]
   ·have p2 : wrapK .u64 (mulI 8 (subI (subI 2 1) ((1 : Nat) : Int))) = 0 := by decide
    have p3 : ltI ((1 : Nat) : Int) 2 = true := by decide
    have p4 : addI ((1 : Nat) : Int) 1 = ((1 + 1 : Nat) : Int) := by decide
    obtain ⟨c1, c2, c3, c4, c5⟩ := cell_ok (zs := zs.set a (v / 256)) (a := a + 1) (by rw [List.length_set]; omega)
    rw [List.length_set] at c2 c3
    unfold N209_0
    simp only [sat_ok', sat_br, sat_leaf, y209_0_l_5, y209_0_l_4, y209_0_l_3, y209_0_l_2, y209_0_l_1, y209_0_l_0, wk, p, p2, p3, p4, shr0, an, Int.toNat_natCast, Nat.zero_add, lenI_eq, ri_len, ri_set, List.length_set, eqN_self, e22, ef 2 1, show leI 0 0 = true from rfl, c1, c2, c3, c4, c5, qt, true_and, cond_true, cond_false, implies_true, q_1, false_implies, and_true]
 ·have p3 : ltI ((s.toNat : Nat) : Int) s = false := by rcases h.hs with rfl | rfl <;> decide
  unfold N209_0
  simp only [sat_ok', sat_br, sat_leaf, p3, q_2, false_implies, implies_true, true_and]
theorem rd_loop {k s v : Int} {a : Nat} {zs : List Int} {l : List GAccess} (h : TouchOk s v zs l) (hk : eqI k 2 = false) (hc : codeO k s a = 0) : i209_0 (V209_0.mk ⟨ri zs, l.map GAccess.row⟩ k s a v 0 0 0) = true ∧ w209_0 (V209_0.mk ⟨ri zs, l.map GAccess.row⟩ k s a v 0 0 0) = V209_0.mk ⟨ri zs, l.map GAccess.row⟩ k s a v 0 (rkq a zs s.toNat) s := by
 obtain ⟨-, q1, q2, q3⟩ := code_0 hc
 have hz := h.hz
 have hl := h.hl
 have := loop_st (N := N209_0) (fun i => V209_0.mk ⟨ri zs, l.map GAccess.row⟩ k s a v 0 (rkq a zs i) i) s.toNat (by rcases h.hs with rfl | rfl <;> decide) ?_ ?_
 ·rw [show ((s.toNat : Nat) : Int) = s from by rcases h.hs with rfl | rfl <;> rfl] at this
  exact this
 ·intro i hi
  have p : addI (a : Int) ((i : Nat) : Int) = ((a + i : Nat) : Int) := by
   have : s.toNat ≤ 2 := by rcases h.hs with rfl | rfl <;> decide
   rw [addI_eq (by omega)]; omega
  have p4 : addI ((i : Nat) : Int) 1 = ((i + 1 : Nat) : Int) := by
   have : s.toNat ≤ 2 := by rcases h.hs with rfl | rfl <;> decide
   rw [addI_eq (by omega)]; omega
  have ha : a + i < zs.length := by
   rcases h.hs with rfl | rfl
   ·have : Int.toNat 1 = 1 := rfl; omega
   ·have : Int.toNat 2 = 2 := rfl; omega
  obtain ⟨c1, c2, c3, c4, c5⟩ := cell_ok ha
  have p3 : ltI ((i : Nat) : Int) s = true := by rw [ltI_iff]; omega
  have p5 : orI (shlI (rkq a zs i) 8) zs[a + i] = rkq a zs (i + 1) := by
   have b1 := byte_at h.hb ha
   obtain rfl | rfl : i = 0 ∨ i = 1 := by
    have : s.toNat ≤ 2 := by rcases h.hs with rfl | rfl <;> decide
    omega
   ·simp only [rkq]
    rw [shl8 (by omega) (by omega), or_add (by omega) (by omega) b1.1 b1.2, getD_lt (by omega)]
    simp
   ·have b2 := byte_at h.hb (i := a) (by omega)
    simp only [rkq]
    rw [getD_lt (show a < zs.length by omega), getD_lt ha, shl8 b2.1 (by omega), or_add (by omega) (by omega) b1.1 b1.2]
  unfold N209_0
  simp only [sat_ok', sat_br, sat_leaf, y209_0_l_5, y209_0_l_4, y209_0_l_3, y209_0_l_2, y209_0_l_1, y209_0_l_0, p, p3, p4, p5, ri_int ha, Int.toNat_natCast, Nat.zero_add, lenI_eq, ri_len, eqN_self, hk, c1, c2, c3, c4, c5, qt, true_and, implies_true, q_1, q_2, false_implies, and_true]
 ·have p3 : ltI ((s.toNat : Nat) : Int) s = false := by rcases h.hs with rfl | rfl <;> decide
  unfold N209_0
  simp only [sat_ok', sat_br, sat_leaf, p3, q_2, false_implies, implies_true, true_and]
def tB (k s a v : Int) (zs : List Int) : List Int := bif eqI (codeO k s a) 0 && eqI k 2 then wk s v a.toNat zs s.toNat else zs
def tV (k s a v : Int) (zs : List Int) : Int := bif eqI k 2 then v else bif eqI (codeO k s a) 0 then rkq a.toNat zs s.toNat else 0
def tL (k s a v : Int) (zs : List Int) (l : List GAccess) : List GAccess := bif ltI (l.length : Int) 400 && !(eqI k 3 && eqI (codeO k s a) 0) then l ++ [⟨k, s, a, tV k s a v zs, codeO k s a⟩] else l
theorem row_app (l : List GAccess) (x : GAccess) : l.map GAccess.row ++ [GAccess.row x] = (l ++ [x]).map GAccess.row := by simp
theorem touch_s {k s a v : Int} {zs : List Int} {l : List GAccess} (h : TouchOk s v zs l) (ha : inB a 0 65535 = true) : k209 k s a v ⟨ri zs, l.map GAccess.row⟩ = true ∧ g209 k s a v ⟨ri zs, l.map GAccess.row⟩ = (⟨ri (tB k s a v zs), (tL k s a v zs l).map GAccess.row⟩, tV k s a v zs, codeO k s a) := by
 refine sat_hid (t := T209 k s a v ⟨ri zs, l.map GAccess.row⟩) (P := fun r => r = (⟨ri (tB k s a v zs), (tL k s a v zs l).map GAccess.row⟩, tV k s a v zs, codeO k s a)) ?_
 obtain ⟨c1, c2⟩ := code_s k s a ha (by rcases h.hs with rfl | rfl <;> decide)
 have hl := h.hl
 obtain ⟨r1, r2, r3, r4, r5, r6, r7, r8, r9⟩ := roomB (n := l.length) (by omega)
 obtain ⟨m, rfl⟩ : ∃ m : Nat, a = (m : Int) := ⟨a.toNat, by rw [inB_iff] at ha; omega⟩
 have z1 : eqN (0 + l.length) l.length = true := by simp
 have z2 : leN (0 + l.length) l.length = true := by simp
 have n0 : neI (codeO k s m) 0 = !eqI (codeO k s m) 0 := rfl
 have n2 : neI k 2 = !eqI k 2 := rfl
 have n3 : neI k 3 = !eqI k 3 := rfl
 cases hc : eqI (codeO k s m) 0
 ·unfold T209 tB tL tV
  simp only [sat_ok', sat_br, sat_leaf, y209_12, y209_11, y209_10, y209_9, y209_8, y209_7, y209_6, y209_5, y209_4, y209_3, y209_2, y209_1, y209_0, c1, c2, hc, n0, n2, n3, z1, z2, r8, r9, row_app, qt, true_and, lenI_eq, List.length_map, eqN_self, q_2, false_implies, Bool.and_false, Bool.false_and, Bool.not_false, cond_false, cond_true, forall_const]
  cases ltI (l.length : Int) 400 <;> cases eqI k 2 <;> cases eqI k 3 <;> simp
 ·have hc' := eqI_iff.1 hc
  cases hk : eqI k 2
  ·obtain ⟨d1, d2⟩ := rd_loop (a := m) h hk hc'
   unfold T209 tB tL tV
   simp only [sat_ok', sat_br, sat_leaf, y209_12, y209_11, y209_10, y209_9, y209_8, y209_7, y209_6, y209_5, y209_4, y209_3, y209_2, y209_1, y209_0, c1, c2, hc, hc', hk, d1, d2, n2, n3, show neI 0 0 = false from rfl, et 0 0, z1, z2, r8, r9, row_app, ri_len, qt, true_and, lenI_eq, List.length_map, eqN_self, Int.toNat_natCast, q_1, q_2, false_implies, Bool.and_false, Bool.not_false, Bool.not_true, cond_false, cond_true, forall_const, and_true]
   cases ltI (l.length : Int) 400 <;> cases eqI k 3 <;> simp
  ·obtain rfl := eqI_iff.1 hk
   obtain ⟨d1, d2⟩ := wr_loop (a := m) h hc'
   unfold T209 tB tL tV
   simp only [sat_ok', sat_br, sat_leaf, y209_12, y209_11, y209_10, y209_9, y209_8, y209_7, y209_6, y209_5, y209_4, y209_3, y209_2, y209_1, y209_0, c1, c2, hc, hc', hk, d1, d2, n2, n3, ef 2 3, show neI 0 0 = false from rfl, et 0 0, z1, z2, r8, r9, row_app, ri_len, qt, true_and, lenI_eq, List.length_map, eqN_self, Int.toNat_natCast, q_1, q_2, false_implies, Bool.and_false, Bool.false_and, Bool.not_false, Bool.not_true, cond_false, cond_true, forall_const, and_true]
   cases ltI (l.length : Int) 400 <;> simp
theorem put_i {s v : Int} {a : Nat} {zs : List Int} {l : List GAccess} (h : TouchOk s v zs l) (hc : codeO 2 s a = 0) : k205 s a v ⟨ri zs, l.map GAccess.row⟩ = true ∧ g205 s a v ⟨ri zs, l.map GAccess.row⟩ = ⟨ri (wk s v a zs s.toNat), l.map GAccess.row⟩ := by
 refine sat_hid (t := T205 s a v ⟨ri zs, l.map GAccess.row⟩) (P := fun r => r = ⟨ri (wk s v a zs s.toNat), l.map GAccess.row⟩) ?_
 obtain ⟨-, q1, q2, q3⟩ := code_0 hc
 obtain ⟨v0, v1, v2⟩ := val_rng h.hs h.hv
 have hz := h.hz
 have an : andI v 255 = v % 256 := and255 v0 (by omega)
 have p : addI (a : Int) 1 = ((a + 1 : Nat) : Int) := by rw [addI_eq (by omega)]; omega
 obtain ⟨c1, c2, c3, c4, c5⟩ := cell_ok (zs := zs) (a := a) (by omega)
 unfold T205
 rcases h.hs with rfl | rfl
 ·simp only [sat_ok', sat_br, sat_leaf, y205_7, y205_6, y205_5, y205_4, y205_3, y205_2, y205_1, y205_0, ef 1 2, an, p, c1, c2, c3, c4, c5, lenI_eq, ri_len, ri_set, List.length_set, List.length_map, eqN_self, Int.toNat_natCast, Nat.zero_add, qt, true_and, q_2, false_implies, forall_const]
  rfl
 ·obtain ⟨d1, d2, d3, d4, d5⟩ := cell_ok (zs := zs.set a (v / 256)) (a := a + 1) (by rw [List.length_set]; omega)
  rw [List.length_set] at d2 d3
  simp only [sat_ok', sat_br, sat_leaf, y205_7, y205_6, y205_5, y205_4, y205_3, y205_2, y205_1, y205_0, et 2 2, an, p, shr8, c1, c2, c3, c4, c5, d1, d2, d3, d4, d5, lenI_eq, ri_len, ri_set, List.length_set, List.length_map, eqN_self, Int.toNat_natCast, Nat.zero_add, qt, true_and, q_1, false_implies, forall_const, and_true]
  rfl
theorem at_i {k s v : Int} {a : Nat} {zs : List Int} {l : List GAccess} (h : TouchOk s v zs l) (hc : codeO k s a = 0) : k177 s a ⟨ri zs, l.map GAccess.row⟩ = true ∧ g177 s a ⟨ri zs, l.map GAccess.row⟩ = rkq a zs s.toNat := by
 refine sat_hid (t := T177 s a ⟨ri zs, l.map GAccess.row⟩) (P := fun r => r = rkq a zs s.toNat) ?_
 obtain ⟨-, q1, q2, q3⟩ := code_0 hc
 have hz := h.hz
 have p : addI (a : Int) 1 = ((a + 1 : Nat) : Int) := by rw [addI_eq (by omega)]; omega
 have ha : a < zs.length := by omega
 obtain ⟨c1, c2, c3, c4, c5⟩ := cell_ok ha
 unfold T177
 rcases h.hs with rfl | rfl
 ·simp only [sat_ok', sat_br, sat_leaf, y177_1, y177_0, et 1 1, p, c1, c2, c3, c4, c5, ri_int ha, eqN_self, lenI_eq, ri_len, Int.toNat_natCast, Nat.zero_add, qt, true_and, q_1, false_implies, forall_const, and_true]
  exact (getD_lt ha).symm
 ·have ha2 : a + 1 < zs.length := by omega
  obtain ⟨d1, d2, d3, d4, d5⟩ := cell_ok ha2
  have b1 := byte_at h.hb ha
  have b2 := byte_at h.hb ha2
  simp only [sat_ok', sat_br, sat_leaf, y177_1, y177_0, ef 2 1, p, c1, c2, c3, c4, c5, d1, d2, d3, d4, d5, ri_int ha, ri_int ha2, eqN_self, lenI_eq, ri_len, Int.toNat_natCast, Nat.zero_add, qt, true_and, q_2, false_implies, forall_const]
  rw [shl8 b1.1 (by omega), or_add b1.1 (by omega) b2.1 b2.2]
  simp only [show Int.toNat 2 = 2 from rfl, rkq]
  rw [getD_lt ha, getD_lt ha2]
theorem touch_i {k s a v : Int} {zs : List Int} {l : List GAccess} (h : TouchOk s v zs l) (ha : inB a 0 65535 = true) (hv : eqI k 2 = false → v = 0) : k153 k s a v ⟨ri zs, l.map GAccess.row⟩ = true ∧ g153 k s a v ⟨ri zs, l.map GAccess.row⟩ = (⟨ri (tB k s a v zs), (tL k s a v zs l).map GAccess.row⟩, (bif eqI k 2 then 0 else tV k s a v zs), codeO k s a) := by
 refine sat_hid (t := T153 k s a v ⟨ri zs, l.map GAccess.row⟩) (P := fun r => r = (⟨ri (tB k s a v zs), (tL k s a v zs l).map GAccess.row⟩, (bif eqI k 2 then 0 else tV k s a v zs), codeO k s a)) ?_
 obtain ⟨c1, c2⟩ := code_i k s a ha (by rcases h.hs with rfl | rfl <;> decide)
 have hl := h.hl
 obtain ⟨r1, r2, r3, r4, r5, r6, r7, r8, r9⟩ := roomB (n := l.length) (by omega)
 obtain ⟨m, rfl⟩ : ∃ m : Nat, a = (m : Int) := ⟨a.toNat, by rw [inB_iff] at ha; omega⟩
 have z1 : eqN (0 + l.length) l.length = true := by simp
 have z2 : leN (0 + l.length) l.length = true := by simp
 have n0 : neI (codeO k s m) 0 = !eqI (codeO k s m) 0 := rfl
 have n2 : neI k 2 = !eqI k 2 := rfl
 cases hc : eqI (codeO k s m) 0
 ·unfold T153 tB tL tV
  simp only [sat_ok', sat_br, sat_leaf, y153_17, y153_16, y153_15, y153_14, y153_13, y153_12, y153_11, y153_10, y153_9, y153_8, y153_7, y153_6, y153_5, y153_4, y153_3, y153_2, y153_1, y153_0, c1, c2, hc, n0, n2, z1, z2, r8, r9, row_app, qt, true_and, lenI_eq, List.length_map, eqN_self, q_1, q_2, false_implies, Bool.and_false, Bool.false_and, Bool.not_false, cond_false, cond_true, forall_const, and_true]
  cases ltI (l.length : Int) 400 <;> cases eqI k 2 <;> cases eqI k 3 <;> simp
 ·have hc' := eqI_iff.1 hc
  cases hk : eqI k 2
  ·obtain ⟨d1, d2⟩ := at_i (a := m) h hc'
   unfold T153 tB tL tV
   simp only [sat_ok', sat_br, sat_leaf, y153_17, y153_16, y153_15, y153_14, y153_13, y153_12, y153_11, y153_10, y153_9, y153_8, y153_7, y153_6, y153_5, y153_4, y153_3, y153_2, y153_1, y153_0, c1, c2, hc, hc', hk, d1, d2, n2, show neI 0 0 = false from rfl, et 0 0, z1, z2, r8, r9, row_app, ri_len, qt, true_and, lenI_eq, List.length_map, eqN_self, Int.toNat_natCast, q_1, q_2, false_implies, Bool.and_false, Bool.not_false, Bool.not_true, cond_false, cond_true, forall_const, and_true]
   cases ltI (l.length : Int) 400 <;> cases eqI k 3 <;> simp
  ·obtain rfl := eqI_iff.1 hk
   obtain ⟨d1, d2⟩ := put_i (a := m) h hc'
   unfold T153 tB tL tV
   simp only [sat_ok', sat_br, sat_leaf, y153_17, y153_16, y153_15, y153_14, y153_13, y153_12, y153_11, y153_10, y153_9, y153_8, y153_7, y153_6, y153_5, y153_4, y153_3, y153_2, y153_1, y153_0, c1, c2, hc, hc', hk, d1, d2, n2, ef 2 3, show neI 0 0 = false from rfl, et 0 0, z1, z2, r8, r9, row_app, ri_len, qt, true_and, lenI_eq, List.length_map, eqN_self, Int.toNat_natCast, q_1, q_2, false_implies, Bool.and_false, Bool.false_and, Bool.not_false, Bool.not_true, cond_false, cond_true, forall_const, and_true]
   cases ltI (l.length : Int) 400 <;> simp
end Go.Proofs.YtdipcnijfkdnfaaGreatStack

namespace Go.Proofs.YtdipcnijfkdnfaaGreatStack
open Go Go.Zq
set_option maxHeartbeats 4000000
set_option maxRecDepth 100000
def limO (s : Int) : Int := bif eqI s 1 then 256 else 65536
theorem lim_s {s : Int} (h : s = 1 ∨ s = 2) : k248 s = true ∧ g248 s = limO s := by
 rcases h with rfl | rfl
 ·exact lim_s1
 ·exact lim_s2
theorem val_of {s v : Int} (h : valB s v = true) : (s = 1 ∨ s = 2) ∧ 0 ≤ v ∧ v < limO s := by
 unfold valB at h
 cases e1 : eqI s 1
 ·cases e2 : eqI s 2
  ·rw [e1, e2] at h; simp at h
  ·rw [e1, e2, cond_true, cond_false, inB_iff] at h
   unfold limO
   rw [e1]
   rw [eqI_iff] at e2
   exact ⟨Or.inr e2, by omega, by rw [cond_false]; omega⟩
 ·rw [e1, cond_true, inB_iff] at h
  unfold limO
  rw [e1]
  rw [eqI_iff] at e1
  exact ⟨Or.inl e1, by omega, by rw [cond_true]; omega⟩
def sgn (s v : Int) : Int := bif geI v (limO s / 2) then v - limO s else v
theorem quo2 {s : Int} (h : s = 1 ∨ s = 2) : quoI (limO s) 2 = limO s / 2 := by
 rcases h with rfl | rfl <;> decide
theorem lim_rng {s : Int} (h : s = 1 ∨ s = 2) : limO s = 256 ∨ limO s = 65536 := by
 rcases h with rfl | rfl
 ·exact Or.inl rfl
 ·exact Or.inr rfl
theorem sgn_s {s v : Int} (h : s = 1 ∨ s = 2) (h0 : 0 ≤ v) (h1 : v < 1000000) : k277 s v = true ∧ g277 s v = sgn s v := by
 refine sat_hid (t := T277 s v) (P := fun r => r = sgn s v) ?_
 have l := lim_rng h
 have e : subI v (limO s) = v - limO s := subI_eq (by omega)
 unfold T277 sgn
 simp only [sat_ok', sat_br, sat_leaf, (lim_s h).1, (lim_s h).2, quo2 h, e, Bool.and_true, true_and]
 exact ⟨fun hh => by rw [hh]; rfl, fun hh => by rw [hh]; rfl⟩
theorem flag_s (b : Bool) (x : Int) : k179 b x = true ∧ g179 b x = bif b then x else 0 := by
 refine sat_hid (t := T179 b x) (P := fun r => r = bif b then x else 0) ?_
 unfold T179
 simp only [sat_ok', sat_br, sat_leaf, true_and]
 exact ⟨fun h => by rw [h]; rfl, fun h => by rw [h]; rfl⟩
theorem zn_s {s v : Int} (h : s = 1 ∨ s = 2) : k249 s v = true ∧ g249 s v = orI (bif eqI v 0 then 4 else 0) (bif geI v (limO s / 2) then 8 else 0) := by
 refine sat_hid (t := T249 s v) (P := fun r => r = orI (bif eqI v 0 then 4 else 0) (bif geI v (limO s / 2) then 8 else 0)) ?_
 unfold T249
 simp only [sat_ok', sat_leaf, (flag_s _ _).1, (flag_s _ _).2, (lim_s h).1, (lim_s h).2, quo2 h, Bool.and_true, true_and]
def fl (c o z n : Bool) : Int := orI (orI (bif c then 17 else 0) (bif o then 2 else 0)) (orI (bif z then 4 else 0) (bif n then 8 else 0))
theorem mask {s v : Int} (h : s = 1 ∨ s = 2) : andI v (subI (limO s) 1) = v % limO s := by
 rcases h with rfl | rfl
 ·exact andMask 8 _ (by omega) (by decide)
 ·exact andMask 16 _ (by omega) (by decide)
def addM (s c a b : Int) : Int × Int := ((a + b + c) % limO s, fl (neI (a + b + c) ((a + b + c) % limO s)) (neI (sgn s a + sgn s b + c) (sgn s ((a + b + c) % limO s))) (eqI ((a + b + c) % limO s) 0) (geI ((a + b + c) % limO s) (limO s / 2)))
def subM (s a b : Int) : Int := fl (neI (a - b) ((a - b) % limO s)) (neI (sgn s a - sgn s b) (sgn s ((a - b) % limO s))) (eqI ((a - b) % limO s) 0) (geI ((a - b) % limO s) (limO s / 2))
theorem sgn_rng {s v : Int} (h : s = 1 ∨ s = 2) (h0 : 0 ≤ v) (h1 : v < limO s) : -65536 ≤ sgn s v ∧ sgn s v < 65536 := by
 have l := lim_rng h
 unfold sgn
 cases geI v (limO s / 2)
 ·rw [cond_false]; omega
 ·rw [cond_true]; omega
theorem add_s {s c a b : Int} (hc : c = 0 ∨ c = 1) (ha : valB s a = true) (hb : valB s b = true) : k260 s c a b = true ∧ g260 s c a b = addM s c a b := by
 refine sat_hid (t := T260 s c a b) (P := fun r => r = addM s c a b) ?_
 obtain ⟨h, a0, a1⟩ := val_of ha
 obtain ⟨-, b0, b1⟩ := val_of hb
 have l := lim_rng h
 have sa := sgn_rng h a0 a1
 have sb := sgn_rng h b0 b1
 obtain ⟨p1, p2⟩ := sgn_s h a0 (by omega)
 obtain ⟨q1, q2⟩ := sgn_s h b0 (by omega)
 have e1 : addI (addI a b) c = a + b + c := by rw [addI_eq (x := a) (by omega), addI_eq (by omega)]
 have e2 : addI (addI (sgn s a) (sgn s b)) c = sgn s a + sgn s b + c := by rw [addI_eq (x := sgn s a) (by omega), addI_eq (by omega)]
 have r0 : 0 ≤ (a + b + c) % limO s := Int.emod_nonneg _ (by omega)
 have r1 : (a + b + c) % limO s < limO s := Int.emod_lt_of_pos _ (by omega)
 obtain ⟨t1, t2⟩ := sgn_s (v := (a + b + c) % limO s) h r0 (by omega)
 unfold T260 addM fl
 simp only [sat_ok', sat_leaf, y260_2, y260_1, y260_0, (lim_s h).1, (lim_s h).2, mask h, p1, p2, q1, q2, e1, e2, t1, t2, (flag_s _ _).1, (flag_s _ _).2, (zn_s h).1, (zn_s h).2, Bool.and_true, true_and]
theorem sub_s {s a b : Int} (ha : valB s a = true) (hb : valB s b = true) : k250 s 0 a b = true ∧ (g250 s 0 a b).2 = subM s a b := by
 refine sat_hid (t := T250 s 0 a b) (P := fun r => r.2 = subM s a b) ?_
 obtain ⟨h, a0, a1⟩ := val_of ha
 obtain ⟨-, b0, b1⟩ := val_of hb
 have l := lim_rng h
 have sa := sgn_rng h a0 a1
 have sb := sgn_rng h b0 b1
 obtain ⟨p1, p2⟩ := sgn_s h a0 (by omega)
 obtain ⟨q1, q2⟩ := sgn_s h b0 (by omega)
 have e1 : subI (subI a b) 0 = a - b := by rw [subI_eq (x := a) (by omega), subI_eq (by omega)]; omega
 have e2 : subI (subI (sgn s a) (sgn s b)) 0 = sgn s a - sgn s b := by rw [subI_eq (x := sgn s a) (by omega), subI_eq (by omega)]; omega
 have r0 : 0 ≤ (a - b) % limO s := Int.emod_nonneg _ (by omega)
 have r1 : (a - b) % limO s < limO s := Int.emod_lt_of_pos _ (by omega)
 obtain ⟨t1, t2⟩ := sgn_s (v := (a - b) % limO s) h r0 (by omega)
 have e3 : ltI (a - b) 0 = neI (a - b) ((a - b) % limO s) := by
  cases hh : ltI (a - b) 0
  ·rw [ltI_f] at hh
   symm; rw [neI_f, Int.emod_eq_of_lt hh (by omega)]
  ·rw [ltI_iff] at hh
   symm; rw [neI_iff]; omega
 unfold T250 subM fl
 simp only [sat_ok', sat_leaf, y250_1, y250_0, (lim_s h).1, (lim_s h).2, mask h, p1, p2, q1, q2, e1, e2, e3, t1, t2, (flag_s _ _).1, (flag_s _ _).2, (zn_s h).1, (zn_s h).2, Bool.and_true, true_and]
end Go.Proofs.YtdipcnijfkdnfaaGreatStack

namespace Go.Proofs.YtdipcnijfkdnfaaGreatStack
open Go Go.Zq
set_option maxHeartbeats 4000000
set_option maxRecDepth 100000
theorem wrd_s (a : Int) : k77 a = true ∧ g77 a = inB a 0 65535 := by
 constructor
 ·simp [k77, hid_eq, T77]
 ·simp [g77, hid_eq, T77]
def sizeB (s : Int) : Bool := bif eqI s 1 then true else eqI s 2
theorem siz_s (s : Int) : k190 s = true ∧ g190 s = sizeB s := by
 refine sat_hid (t := T190 s) (P := fun r => r = sizeB s) ?_
 unfold T190 sizeB
 simp only [sat_ok', sat_leaf, true_and]
theorem ext_s (m : Int) : k240 m = true ∧ g240 m = geI m 5 := by
 refine sat_hid (t := T240 m) (P := fun r => r = geI m 5) ?_
 unfold T240
 simp only [sat_ok', sat_leaf, true_and]
def opB (o : GOperand) : Bool := inB o.Mode 0 7 && (inB o.Reg 0 3 && ((eqI o.Reg 0 || ltI o.Mode 6) && (inB o.Ext 0 65535 && (geI o.Mode 5 || eqI o.Ext 0))))
theorem op_s (o : GOperand) : k191 o = true ∧ g191 o = opB o := by
 refine sat_hid (t := T191 o) (P := fun r => r = opB o) ?_
 have e1 : geI o.Mode 6 = !ltI o.Mode 6 := by
  cases h : ltI o.Mode 6
  ·rw [ltI_f] at h; exact geI_iff.2 h
  ·rw [ltI_iff] at h; exact geI_f.2 h
 have e2 : neI o.Reg 0 = !eqI o.Reg 0 := rfl
 unfold T191 opB
 simp only [sat_ok', sat_br, sat_leaf, l1In_g, l1In_k, (wrd_s _).1, (wrd_s _).2, (ext_s _).1, (ext_s _).2, e1, e2, Bool.and_true, Bool.true_or, true_and]
 cases inB o.Mode 0 7 <;> cases inB o.Reg 0 3 <;> cases eqI o.Reg 0 <;> cases ltI o.Mode 6 <;> cases inB o.Ext 0 65535 <;> cases geI o.Mode 5 <;> simp
def memB (m : Int) : Bool := inB m 2 6
def setB (m : Int) : Bool := bif eqI m 0 then true else memB m
def plainB (m : Int) : Bool := bif (bif eqI m 2 then true else eqI m 5) then true else eqI m 6
def nowB (o : GOperand) : Bool := bif eqI o.Mode 7 then leI o.Ext 1023 else false
def zeroB (o : GOperand) : Bool := eqI o.Mode 0 && (eqI o.Reg 0 && eqI o.Ext 0)
theorem mem_s (m : Int) : k192 m = true ∧ g192 m = memB m := by
 refine sat_hid (t := T192 m) (P := fun r => r = memB m) ?_
 unfold T192 memB
 simp only [sat_ok', sat_leaf, l1In_g, l1In_k, Bool.and_true, true_and]
theorem plain_s (m : Int) : k193 m = true ∧ g193 m = plainB m := by
 refine sat_hid (t := T193 m) (P := fun r => r = plainB m) ?_
 unfold T193 plainB
 simp only [sat_ok', sat_leaf, true_and]
theorem now_s (o : GOperand) : k194 o = true ∧ g194 o = nowB o := by
 refine sat_hid (t := T194 o) (P := fun r => r = nowB o) ?_
 unfold T194 nowB
 simp only [sat_ok', sat_leaf, true_and]
theorem zero_s (o : GOperand) : k195 o = true ∧ g195 o = zeroB o := by
 refine sat_hid (t := T195 o) (P := fun r => r = zeroB o) ?_
 unfold T195 zeroB
 simp only [sat_ok', sat_leaf, Bool.and_true, true_and]
def flowB (x : GIns) : Bool := bif (bif neI x.Size 2 then true else gtI x.Sub 6) then false else bif eqI x.Sub 3 then (bif eqI x.Reg 0 then nowB x.Ea else false) else bif (bif ltI x.Sub 3 then neI x.Reg 0 else false) then false else zeroB x.Ea
def kB (x : GIns) : Bool :=
 bif (bif (eqI x.Op 1) then (eqI x.Op 1) else (bif (eqI x.Op 3) then (eqI x.Op 3) else (bif (eqI x.Op 4) then (eqI x.Op 4) else (bif (eqI x.Op 5) then (eqI x.Op 5) else (bif (eqI x.Op 6) then (eqI x.Op 6) else (bif (eqI x.Op 7) then (eqI x.Op 7) else (eqI x.Op 8))))))) then (bif eqI x.Sub 0 then (bif neI x.Ea.Mode 1 then true else eqI x.Size 2) else false)
 else bif eqI x.Op 2 then (bif eqI x.Sub 0 then setB x.Ea.Mode else false)
 else bif eqI x.Op 9 then (bif eqI x.Size 2 then eqI x.Sub 0 else false)
 else bif eqI x.Op 10 then (bif (bif eqI x.Size 2 then eqI x.Sub 0 else false) then plainB x.Ea.Mode else false)
 else bif eqI x.Op 11 then (bif (bif eqI x.Reg 0 then leI x.Sub 3 else false) then setB x.Ea.Mode else false)
 else bif eqI x.Op 12 then eqI x.Ea.Mode 0
 else bif eqI x.Op 13 then (bif (bif eqI x.Size 2 then leI x.Reg 1 else false) then eqI x.Ea.Mode 7 else false)
 else bif eqI x.Op 14 then (bif (bif (bif eqI x.Size 2 then eqI x.Reg 0 else false) then leI x.Sub 1 else false) then plainB x.Ea.Mode else false)
 else bif eqI x.Op 15 then flowB x
 else bif (bif eqI x.Op 16 then eqI x.Op 16 else eqI x.Op 17) then (bif (bif eqI x.Size 2 then eqI x.Sub 0 else false) then neI x.Ea.Mode 1 else false)
 else bif eqI x.Op 18 then (bif (bif !(eqI x.Size 2) then leI x.Sub 1 else false) then eqI x.Ea.Mode 0 else false)
 else bif eqI x.Op 19 then (bif eqI x.Size 2 then (bif (bif (bif eqI x.Sub 0 then eqI x.Reg 0 else false) then nowB x.Ea else false) then true else (bif eqI x.Sub 1 then zeroB x.Ea else false)) else false)
 else false
end Go.Proofs.YtdipcnijfkdnfaaGreatStack

namespace Go.Proofs.YtdipcnijfkdnfaaGreatStack
open Go Go.Zq
set_option maxHeartbeats 4000000
set_option maxRecDepth 100000
def byteB (x : GIns) : Bool := bif (bif eqI x.Ea.Mode 7 then eqI x.Size 1 else false) then gtI x.Ea.Ext 255 else false
def goodI (x : GIns) : Bool := sizeB x.Size && (inB x.Reg 0 3 && (opB x.Ea && (inB x.Sub 0 7 && (!byteB x && kB x))))
theorem kB_15 (x : GIns) (h : x.Op = 15) : kB x = flowB x := by
 unfold kB
 rw [h]
 rfl
theorem gins_s (x : GIns) : k126 x = true ∧ g126 x = goodI x := by
 refine sat_hid (t := T126 x) (P := fun r => r = goodI x) ?_
 unfold T126
 simp only [sat_ok', sat_br, sat_leaf, y126_10, y126_9, y126_8, y126_7, y126_6, y126_5, y126_4, y126_3, y126_2, y126_1, y126_0, l1In_g, l1In_k, (siz_s _).1, (siz_s _).2, (op_s _).1, (op_s _).2, (mem_s _).1, (mem_s _).2, (plain_s _).1, (plain_s _).2, (now_s _).1, (now_s _).2, (zero_s _).1, (zero_s _).2, Bool.true_or, Bool.and_true, true_and]
 have e : goodI x = bif (bif (bif (bif (bif !sizeB x.Size then true else !inB x.Reg 0 3) then true else !opB x.Ea) then true else !inB x.Sub 0 7) then true else byteB x) then false else kB x := by
  unfold goodI
  cases sizeB x.Size <;> cases inB x.Reg 0 3 <;> cases opB x.Ea <;> cases inB x.Sub 0 7 <;> cases byteB x <;> rfl
 rw [e]
 refine ⟨fun h => ?_, fun h => ?_⟩
 ·have h' : (bif (bif (bif (bif (bif !sizeB x.Size then true else !inB x.Reg 0 3) then true else !opB x.Ea) then true else !inB x.Sub 0 7) then true else byteB x) then false else kB x) = false := by
   have : (bif (bif (bif (bif !sizeB x.Size then true else !inB x.Reg 0 3) then true else !opB x.Ea) then true else !inB x.Sub 0 7) then true else byteB x) = true := h
   rw [this]; rfl
  exact h'.symm
 ·have h' : (bif (bif (bif (bif (bif !sizeB x.Size then true else !inB x.Reg 0 3) then true else !opB x.Ea) then true else !inB x.Sub 0 7) then true else byteB x) then false else kB x) = kB x := by
   have : (bif (bif (bif (bif !sizeB x.Size then true else !inB x.Reg 0 3) then true else !opB x.Ea) then true else !inB x.Sub 0 7) then true else byteB x) = false := h
   rw [this]; rfl
  rw [h']
  by_cases h15 : x.Op = 15
  ·rw [kB_15 x h15]
   unfold flowB
   rw [h15]
   simp only [ef 15 1, ef 15 2, ef 15 3, ef 15 4, ef 15 5, ef 15 6, ef 15 7, ef 15 8, ef 15 9, ef 15 10, ef 15 11, ef 15 12, ef 15 13, ef 15 14, et 15 15, ef 15 16, ef 15 17, ef 15 18, ef 15 19, cond_false, Bool.false_eq_true, Bool.true_eq_false, false_implies, forall_const, true_and, and_true]
   have e6 : gtI x.Sub 6 = !leI x.Sub 6 := by
    cases hh : leI x.Sub 6
    ·rw [leI_f] at hh; exact gtI_iff.2 hh
    ·rw [leI_iff] at hh; exact gtI_f.2 hh
   have e2 : neI x.Size 2 = !eqI x.Size 2 := rfl
   have e0 : neI x.Reg 0 = !eqI x.Reg 0 := rfl
   refine ⟨fun h3 => ?_, fun h3 => ?_⟩
   ·have l6 : leI x.Sub 6 = true := by rw [eqI_iff] at h3; rw [leI_iff]; omega
    rw [h3, e6, l6, e2]
    cases eqI x.Size 2 <;> cases eqI x.Reg 0 <;> rfl
   ·rw [h3, e6, e2, e0]
    have e3 : gtI x.Sub 3 = !ltI x.Sub 3 := by
     rw [eqI_f] at h3
     cases hh : ltI x.Sub 3
     ·rw [ltI_f] at hh; exact gtI_iff.2 (by omega)
     ·rw [ltI_iff] at hh; exact gtI_f.2 (by omega)
    rw [e3]
    cases eqI x.Size 2 <;> cases leI x.Sub 6 <;> cases eqI x.Reg 0 <;> cases ltI x.Sub 3 <;> cases zeroB x.Ea <;> rfl
  ·have n15 : eqI x.Op 15 = false := by rw [eqI_f]; exact h15
   have cm : (bif neI x.Ea.Mode 1 then true else eqI x.Size 2) = bif eqI x.Size 2 then true else neI x.Ea.Mode 1 := by
    cases neI x.Ea.Mode 1 <;> cases eqI x.Size 2 <;> rfl
   unfold kB
   rw [n15, cm]
   refine ⟨fun h => by rw [h]; rfl, fun h1 => ?_⟩
   rw [h1]
   refine ⟨fun h => by rw [h]; rfl, fun h1 => ?_⟩
   rw [h1]
   refine ⟨fun h => by rw [h]; rfl, fun h1 => ?_⟩
   rw [h1]
   refine ⟨fun h => by rw [h]; rfl, fun h1 => ?_⟩
   rw [h1]
   refine ⟨fun h => by rw [h]; rfl, fun h1 => ?_⟩
   rw [h1]
   refine ⟨fun h => by rw [h]; rfl, fun h1 => ?_⟩
   rw [h1]
   refine ⟨fun h => by rw [h]; rfl, fun h1 => ?_⟩
   rw [h1]
   refine ⟨fun h => by rw [h]; rfl, fun h1 => ?_⟩
   rw [h1]
   refine ⟨fun h => by rw [h]; rfl, fun h1 => ?_⟩
   rw [h1]
   refine ⟨fun h => by rw [h]; rfl, fun h1 => ?_⟩
   rw [h1]
   refine ⟨fun h => by rw [h]; rfl, fun h1 => ?_⟩
   rw [h1]
   simp only [Bool.false_eq_true, false_implies, forall_const, true_and]
   rfl
structure Rng (x : GIns) : Prop where
 o : 1 ≤ x.Op ∧ x.Op ≤ 19
 s : 1 ≤ x.Size ∧ x.Size ≤ 2
 r : 0 ≤ x.Reg ∧ x.Reg ≤ 3
 m : 0 ≤ x.Ea.Mode ∧ x.Ea.Mode ≤ 7
 e : 0 ≤ x.Ea.Reg ∧ x.Ea.Reg ≤ 3
 b : 0 ≤ x.Sub ∧ x.Sub ≤ 7
 xt : 0 ≤ x.Ea.Ext ∧ x.Ea.Ext ≤ 65535
 z : geI x.Ea.Mode 5 = false → x.Ea.Ext = 0
theorem rng {x : GIns} (h : goodI x = true) : Rng x := by
 unfold goodI opB sizeB at h
 simp only [Bool.and_eq_true, inB_iff] at h
 obtain ⟨h1, h2, ⟨h3, h4, -, h5, h6⟩, h7, -, h8⟩ := h
 refine ⟨?_, ?_, h2, h3, h4, h7, h5, fun hm => ?_⟩
 ·refine Classical.byContradiction fun hn => ?_
  have z : ∀ i : Int, 1 ≤ i → i ≤ 19 → eqI x.Op i = false := fun i h1 h2 => by rw [eqI_f]; intro e; exact hn (by omega)
  unfold kB at h8
  simp only [z 1 (by decide) (by decide), z 2 (by decide) (by decide), z 3 (by decide) (by decide), z 4 (by decide) (by decide), z 5 (by decide) (by decide), z 6 (by decide) (by decide), z 7 (by decide) (by decide), z 8 (by decide) (by decide), z 9 (by decide) (by decide), z 10 (by decide) (by decide), z 11 (by decide) (by decide), z 12 (by decide) (by decide), z 13 (by decide) (by decide), z 14 (by decide) (by decide), z 15 (by decide) (by decide), z 16 (by decide) (by decide), z 17 (by decide) (by decide), z 18 (by decide) (by decide), z 19 (by decide) (by decide), cond_false, Bool.false_eq_true] at h8
 ·cases e : eqI x.Size 1
  ·rw [e, cond_false, eqI_iff] at h1; omega
  ·rw [eqI_iff] at e; omega
 ·rw [hm] at h6
  simpa using h6
def W (x : GIns) : Int := x.Op * 2048 + (x.Size - 1) * 1024 + x.Reg * 256 + x.Ea.Mode * 32 + x.Ea.Reg * 8 + x.Sub
def longB (w : Int) : Bool := geI (w / 32 % 8) 5
def longI (w : Int) : Int := bif longB w then 2 else 1
def decI (w e : Int) : GIns := ⟨w / 2048, w / 1024 % 2 + 1, w / 256 % 4, ⟨w / 32 % 8, w / 8 % 4, bif longB w then e else 0⟩, w % 8⟩
theorem flds (w : Int) : shrI w 11 = w / 2048 ∧ addI (andI (shrI w 10) 1) 1 = w / 1024 % 2 + 1 ∧ andI (shrI w 8) 3 = w / 256 % 4 ∧ andI (shrI w 5) 7 = w / 32 % 8 ∧ andI (shrI w 3) 3 = w / 8 % 4 ∧ andI w 7 = w % 8 := by
 refine ⟨shr_div (n := 11) 11 rfl (by omega), ?_, ?_, ?_, ?_, ?_⟩
 ·rw [shr_div (n := 10) 10 rfl (by omega), andMask 1 1 (by omega) rfl, addI_eq (by omega)]; rfl
 ·rw [shr_div (n := 8) 8 rfl (by omega), andMask 2 3 (by omega) rfl]; rfl
 ·rw [shr_div (n := 5) 5 rfl (by omega), andMask 3 7 (by omega) rfl]; rfl
 ·rw [shr_div (n := 3) 3 rfl (by omega), andMask 2 3 (by omega) rfl]; rfl
 ·rw [andMask 3 7 (by omega) rfl]; rfl
theorem long_s (w : Int) : k210 w = true ∧ g210 w = longI w := by
 refine sat_hid (t := T210 w) (P := fun r => r = longI w) ?_
 unfold T210 longI longB
 simp only [sat_ok', sat_br, sat_leaf, (flds w).2.2.2.1, (ext_s _).1, (ext_s _).2, Bool.and_true, true_and]
 exact ⟨fun h => by rw [h]; rfl, fun h => by rw [h]; rfl⟩
theorem long2 {w : Int} : eqI (longI w) 2 = longB w := by
 unfold longI
 cases longB w <;> rfl
theorem dec_sM (w e : Int) : k211 w e = true ∧ g211 w e = decI w e := by
 refine sat_hid (t := T211 w e) (P := fun r => r = decI w e) ?_
 obtain ⟨f1, f2, f3, f4, f5, f6⟩ := flds w
 unfold T211 decI
 simp only [sat_ok', sat_br, sat_leaf, (long_s _).1, (long_s _).2, long2, f1, f2, f3, f4, f5, f6, Bool.and_true, true_and]
 exact ⟨fun h => by rw [h]; rfl, fun h => by rw [h]; rfl⟩
end Go.Proofs.YtdipcnijfkdnfaaGreatStack

namespace Go.Proofs.YtdipcnijfkdnfaaGreatStack
open Go Go.Zq
set_option maxHeartbeats 4000000
set_option maxRecDepth 100000
structure RM where
 mk ::
 (d a : List Int)
 (oth pc fl mask : Int)
 (sup tr : Bool)
def RM.g (r : RM) : GRegs := ⟨ri r.d, ri r.a, r.oth, r.pc, r.fl, r.mask, r.sup, r.tr⟩
def words (t : Int) (l : List Int) : Bool := l.all fun z => inB z 0 t
structure RM.Ok (t : Int) (r : RM) : Prop where
 t0 : 65535 ≤ t
 t1 : t ≤ 65536
 d4 : r.d.length = 4
 a4 : r.a.length = 4
 dw : words t r.d = true
 aw : words 65535 r.a = true
 ow : inB r.oth 0 65535 = true
 pw : inB r.pc 0 65535 = true
 fw : inB r.fl 0 31 = true
 mw : inB r.mask 0 (t - 65528) = true
def dat (l : List Int) (i : Int) : Int := l.getD i.toNat 0
theorem dat_at {l : List Int} {i : Int} (hl : l.length = 4) (hi : inB i 0 3 = true) : inRow [.int .i64] (ri l) i = true ∧ intAt (ri l) i.toNat 0 = dat l i ∧ i.toNat < l.length := by
 rw [inB_iff] at hi
 obtain ⟨n, rfl⟩ := Int.eq_ofNat_of_zero_le hi.1
 have hn : n < l.length := by omega
 rw [Int.toNat_natCast]
 refine ⟨ri_inr hn, ?_, hn⟩
 rw [ri_int hn, dat, Int.toNat_natCast, getD_lt hn]
theorem dat_in {t : Int} {l : List Int} {i : Int} (h : words t l = true) (hl : l.length = 4) (hi : inB i 0 3 = true) : 0 ≤ dat l i ∧ dat l i ≤ t := by
 obtain ⟨-, -, hn⟩ := dat_at hl hi
 have := List.all_eq_true.1 h _ (List.getElem_mem hn)
 rw [inB_iff] at this
 rw [dat, getD_lt hn]
 exact this
theorem words_set {t : Int} {l : List Int} {i : Nat} {v : Int} (h : words t l = true) (h0 : 0 ≤ v) (h1 : v ≤ t) : words t (l.set i v) = true := by
 unfold words
 rw [List.all_eq_true] at *
 intro z hz
 rcases List.mem_or_eq_of_mem_set hz with hz | rfl
 ·exact List.all_eq_true.1 h z hz
 ·exact inB_iff.2 ⟨h0, h1⟩
theorem set_at {l : List Int} {i : Int} {v : Int} (hl : l.length = 4) (hi : inB i 0 3 = true) : blt (0 + i.toNat) l.length = true ∧ beqN (rlen (ri l) (0 + i.toNat)) 1 = true ∧ leI 0 i = true ∧ ltI i (l.length : Int) = true ∧ hasRow [.int .i64] (ri l) (0 + i.toNat) 0 = true := by
 obtain ⟨-, -, hn⟩ := dat_at hl hi
 rw [inB_iff] at hi
 rw [Nat.zero_add]
 refine ⟨by simpa using hn, by rw [ri_rlen hn]; rfl, by simp; omega, by simp; omega, num_has ⟨l, rfl⟩ (by rw [ri_len]; exact hn)⟩
structure MM where
 mk ::
 (r : RM)
 (zs : List Int)
 (l : List GAccess)
 (stop : Bool)
 (f : GFault)
def bus (zs : List Int) (l : List GAccess) : GBus := ⟨ri zs, l.map GAccess.row⟩
def MM.g (m : MM) : Gl10M := ⟨m.r.g, bus m.zs m.l, m.stop, m.f⟩
structure BusOk (zs : List Int) (l : List GAccess) : Prop where
 hz : zs.length = 512
 hb : bytesB zs = true
 hl : l.length ≤ 400
 ha : l.all accB = true
structure MM.Ok (t : Int) (m : MM) : Prop where
 r : m.r.Ok t
 b : BusOk m.zs m.l
def fine (m : MM) : Bool := eqI m.f.Vector 0
def accM (m : MM) (k s a v : Int) : MM × Int := ({ m with zs := tB k s a v m.zs, l := tL k s a v m.zs m.l, f := bif neI (codeO k s a) 0 && eqI m.f.Vector 0 then { m.f with Vector := bif eqI (codeO k s a) 2 then 3 else 2, Addr := a, Write := eqI k 2 } else m.f }, tV k s a v m.zs)
def pushM (m : MM) (v : Int) : MM :=
 bif fine (accM m 2 2 ((dat m.r.a 3 - 2) % 65536) v).1 then { (accM m 2 2 ((dat m.r.a 3 - 2) % 65536) v).1 with r := { m.r with a := m.r.a.set 3 ((dat m.r.a 3 - 2) % 65536) } } else (accM m 2 2 ((dat m.r.a 3 - 2) % 65536) v).1
def popM (m : MM) : MM × Int :=
 (bif fine (accM m 1 2 (dat m.r.a 3) 0).1 then { (accM m 1 2 (dat m.r.a 3) 0).1 with r := { m.r with a := m.r.a.set 3 ((dat m.r.a 3 + 2) % 65536) } } else (accM m 1 2 (dat m.r.a 3) 0).1, (accM m 1 2 (dat m.r.a 3) 0).2)
def byM (s k : Int) : Int := bif eqI s 1 && neI k 3 then 1 else 2
def placeM (r : RM) (s : Int) (o : GOperand) : RM × Int :=
 bif eqI o.Mode 3 then ({ r with a := r.a.set o.Reg.toNat ((dat r.a o.Reg + byM s o.Reg) % 65536) }, dat r.a o.Reg)
 else bif eqI o.Mode 4 then ({ r with a := r.a.set o.Reg.toNat ((dat r.a o.Reg - byM s o.Reg) % 65536) }, (dat r.a o.Reg - byM s o.Reg) % 65536)
 else bif eqI o.Mode 5 then (r, (dat r.a o.Reg + o.Ext) % 65536)
 else bif eqI o.Mode 6 then (r, o.Ext) else (r, dat r.a o.Reg)
def putM (r : RM) (s k v : Int) : RM := { r with d := r.d.set k.toNat (bif eqI s 1 then dat r.d k % 65536 / 256 * 256 + v else v) }
def statusM (r : RM) : Int := r.fl + 32 * r.mask + (bif r.sup then 256 else 0) + (bif r.tr then 512 else 0)
def withM (r : RM) (v : Int) : RM :=
 bif eqB (eqI (v / 256 % 2) 1) r.sup then ⟨r.d, r.a, r.oth, r.pc, v % 32, v / 32 % 8, r.sup, eqI (v / 512 % 2) 1⟩
 else ⟨r.d, r.a.set 3 r.oth, dat r.a 3, r.pc, v % 32, v / 32 % 8, !r.sup, eqI (v / 512 % 2) 1⟩
def readM (m : MM) (s : Int) (o : GOperand) : MM × Int × Int :=
 bif eqI o.Mode 0 then (m, dat m.r.d o.Reg % limO s, 0)
 else bif eqI o.Mode 1 then (m, dat m.r.a o.Reg, 0)
 else bif eqI o.Mode 7 then (m, o.Ext, 0)
 else ((accM { m with r := (placeM m.r s o).1 } 1 s (placeM m.r s o).2 0).1, (accM { m with r := (placeM m.r s o).1 } 1 s (placeM m.r s o).2 0).2, (placeM m.r s o).2)
end Go.Proofs.YtdipcnijfkdnfaaGreatStack

namespace Go.Proofs.YtdipcnijfkdnfaaGreatStack
open Go Go.Zq
set_option maxHeartbeats 4000000
set_option maxRecDepth 100000
@[simp] theorem g_fr (m : MM) : m.g.fr = m.r.g := rfl
@[simp] theorem g_fbus (m : MM) : m.g.fbus = bus m.zs m.l := rfl
@[simp] theorem g_fstop (m : MM) : m.g.fstop = m.stop := rfl
@[simp] theorem g_ffault (m : MM) : m.g.ffault = m.f := rfl
@[simp] theorem r_D (r : RM) : r.g.D = ri r.d := rfl
@[simp] theorem r_A (r : RM) : r.g.A = ri r.a := rfl
@[simp] theorem r_Other (r : RM) : r.g.Other = r.oth := rfl
@[simp] theorem r_PC (r : RM) : r.g.PC = r.pc := rfl
@[simp] theorem r_Flags (r : RM) : r.g.Flags = r.fl := rfl
@[simp] theorem r_Mask (r : RM) : r.g.Mask = r.mask := rfl
@[simp] theorem r_Super (r : RM) : r.g.Super = r.sup := rfl
@[simp] theorem r_Trace (r : RM) : r.g.Trace = r.tr := rfl
@[simp] theorem bus_B (zs : List Int) (l : List GAccess) : (bus zs l).Bytes = ri zs := rfl
@[simp] theorem bus_L (zs : List Int) (l : List GAccess) : (bus zs l).Log = l.map GAccess.row := rfl
def LenC (c : GCpu) : Prop := c.R.D.length ≤ 2000 ∧ c.R.A.length ≤ 2000 ∧ c.Bus.Bytes.length ≤ 2000 ∧ c.Bus.Log.length ≤ 2000
theorem ownR_s {r : GRegs} (h1 : r.D.length ≤ 2000) (h2 : r.A.length ≤ 2000) : k161 r = true ∧ g161 r = r := by
 refine sat_hid (t := T161 r) (P := fun q => q = r) ?_
 obtain ⟨a1, a2, a3, a4, a5, a6, a7, a8, a9⟩ := roomB h1
 obtain ⟨b1, b2, b3, b4, b5, b6, b7, b8, b9⟩ := roomB h2
 unfold T161
 simp only [sat_ok', sat_leaf, y161_0, eqN_self, same_s, sameR_s, Bool.and_true, true_and, (z_len).1, (z_len).2, a1, a3, a4, a6, b1, b3, b4, b6]
theorem ownB_s {b : GBus} (h1 : b.Bytes.length ≤ 2000) (h2 : b.Log.length ≤ 2000) : k184 b = true ∧ g184 b = b := by
 refine sat_hid (t := T184 b) (P := fun r => r = b) ?_
 obtain ⟨a1, a2, a3, a4, a5, a6, a7, a8, a9⟩ := roomB h1
 obtain ⟨b1, b2, b3, b4, b5, b6, b7, b8, b9⟩ := roomB h2
 unfold T184
 simp only [sat_ok', sat_leaf, y184_5, y184_4, y184_3, y184_2, y184_1, y184_0, eqN_self, same_s, sameR_s, Bool.and_true, true_and, (z_len).1, (z_len).2, a1, a4, a6, b2, b5, b6]
theorem ownC_s {c : GCpu} (h : LenC c) : k122 c = true ∧ g122 c = c := by
 refine sat_hid (t := T122 c) (P := fun r => r = c) ?_
 obtain ⟨h1, h2, h3, h4⟩ := h
 unfold T122
 simp only [sat_ok', sat_leaf, y122_0, ownR_s h1 h2, ownB_s h3 h4, eqN_self, Bool.and_true, true_and]
theorem start_s {c : GCpu} (h : LenC c) : k78 c = true ∧ g78 c = ⟨c.R, c.Bus, c.Stop, ⟨0, 0, 0, 0, false⟩⟩ := by
 refine sat_hid (t := T78 c) (P := fun r => r = ⟨c.R, c.Bus, c.Stop, ⟨0, 0, 0, 0, false⟩⟩) ?_
 unfold T78
 simp only [sat_ok', sat_leaf, y78_0, ownC_s h, eqN_self, Bool.and_true, true_and]
theorem cpu_s {m : Gl10M} (h : LenC ⟨m.fr, m.fbus, m.fstop, false⟩) : k80 m = true ∧ g80 m = ⟨m.fr, m.fbus, m.fstop, false⟩ := by
 refine sat_hid (t := T80 m) (P := fun r => r = ⟨m.fr, m.fbus, m.fstop, false⟩) ?_
 unfold T80
 simp only [sat_ok', sat_leaf, y80_6, y80_5, y80_4, y80_3, y80_2, y80_1, y80_0, ownC_s h, eqN_self, Bool.and_true, true_and]
@[simp] theorem fine_s (m : Gl10M) : k81 m = true ∧ g81 m = eqI m.ffault.Vector 0 := by
  refine sat_hid (t := T81 m) (P := fun r => r = eqI m.ffault.Vector 0) ?_
  unfold T81
  simp only [sat_ok', sat_leaf, y81_0, eqN_self, Bool.and_true, true_and]
theorem and16 (v : Int) : andI v 65535 = v % 65536 := andMask 16 _ (by omega) (by decide)
theorem mod16 (v : Int) : 0 ≤ v % 65536 ∧ v % 65536 ≤ 65535 := by omega
structure AccOk (s v a : Int) (m : MM) : Prop where
 hs : s = 1 ∨ s = 2
 hv : valB s v = true
 ha : inB a 0 65535 = true
theorem AccOk.t {s v a t : Int} {m : MM} (h : AccOk s v a m) (hm : m.Ok t) : TouchOk s v m.zs m.l := ⟨h.hs, h.hv, hm.b.hz, hm.b.hb, hm.b.hl⟩
theorem val0 {s : Int} (h : s = 1 ∨ s = 2) : valB s 0 = true := by rcases h with rfl | rfl <;> decide
theorem acc_m {k s a v t : Int} {m : MM} (hm : m.Ok t) (h : AccOk s v a m) : k156 k s a v m.g = true ∧ g156 k s a v m.g = ((accM m k s a v).1.g, (accM m k s a v).2) := by
 refine sat_hid (t := T156 k s a v m.g) (P := fun r => r = ((accM m k s a v).1.g, (accM m k s a v).2)) ?_
 obtain ⟨a1, a2⟩ := touch_s (k := k) (h.t hm) h.ha
 have a1' : k209 k s a v (bus m.zs m.l) = true := a1
 have a2' : g209 k s a v (bus m.zs m.l) = (bus (tB k s a v m.zs) (tL k s a v m.zs m.l), tV k s a v m.zs, codeO k s a) := a2
 unfold T156
 simp only [sat_ok', sat_br, sat_leaf, y156_6, y156_5, y156_4, y156_3, y156_2, y156_1, y156_0, g_fr, g_fbus, g_fstop, g_ffault, a1', a2', eqN_self, Bool.and_true, true_and]
 unfold accM
 have e : ∀ a b : Bool, (bif a then b else false) = (a && b) := fun a b => by cases a <;> rfl
 rw [e]
 cases neI (codeO k s a) 0 && eqI m.f.Vector 0
 ·refine ⟨fun q => absurd q (by decide), fun _ => ?_⟩
  rfl
 ·refine ⟨fun _ => ?_, fun q => absurd q (by decide)⟩
  cases eqI (codeO k s a) 2
  ·exact ⟨fun q => absurd q (by decide), fun _ => rfl⟩
  ·exact ⟨fun _ => rfl, fun q => absurd q (by decide)⟩
theorem bytes_set {zs : List Int} {i : Nat} {x : Int} (h : bytesB zs = true) (hx : inB x 0 255 = true) : bytesB (zs.set i x) = true := by
 unfold bytesB
 rw [List.all_eq_true] at *
 intro z hz
 rcases List.mem_or_eq_of_mem_set hz with hz | rfl
 ·exact List.all_eq_true.1 h z hz
 ·exact hx
theorem tB_bytes {k s a v : Int} {zs : List Int} {l : List GAccess} (h : TouchOk s v zs l) : bytesB (tB k s a v zs) = true := by
 obtain ⟨v0, v1, v2⟩ := val_rng h.hs h.hv
 unfold tB
 cases eqI (codeO k s a) 0 && eqI k 2
 ·exact h.hb
 ·rw [cond_true]
  rcases h.hs with rfl | rfl
  ·exact bytes_set h.hb (by rw [et 1 1, cond_true, inB_iff]; omega)
  ·exact bytes_set (bytes_set h.hb (by rw [inB_iff]; omega)) (by rw [inB_iff]; omega)
theorem rk_val {s v : Int} {a : Nat} {zs : List Int} {l : List GAccess} (h : TouchOk s v zs l) : valB s (rkq a zs s.toNat) = true := by
 have get : ∀ i, 0 ≤ zs.getD i 0 ∧ zs.getD i 0 < 256 := fun i => by
  by_cases hi : i < zs.length
  ·rw [getD_lt hi]; exact byte_at h.hb hi
  ·simp [List.getD_eq_getElem?_getD, List.getElem?_eq_none (by omega : zs.length ≤ i)]
 have g1 := get a
 have g2 := get (a + 1)
 rcases h.hs with rfl | rfl
 ·show valB 1 (zs.getD a 0) = true
  unfold valB
  rw [et 1 1, cond_true, inB_iff]; omega
 ·show valB 2 (zs.getD a 0 * 256 + zs.getD (a + 1) 0) = true
  unfold valB
  rw [ef 2 1, et 2 2, cond_false, cond_true, inB_iff]; omega
end Go.Proofs.YtdipcnijfkdnfaaGreatStack

namespace Go.Proofs.YtdipcnijfkdnfaaGreatStack
open Go Go.Zq
set_option maxHeartbeats 4000000
set_option maxRecDepth 100000
theorem tV_val {k s a v : Int} {zs : List Int} {l : List GAccess} (h : TouchOk s v zs l) : valB s (tV k s a v zs) = true := by
 unfold tV
 cases eqI k 2
 ·cases eqI (codeO k s a) 0
  ·exact val0 h.hs
  ·exact rk_val h
 ·exact h.hv
theorem tL_ok {k s a v : Int} {zs : List Int} {l : List GAccess} (h : TouchOk s v zs l) (ha : inB a 0 65535 = true) (hk : inB k 1 3 = true) (hl : l.all accB = true) : (tL k s a v zs l).length ≤ 400 ∧ (tL k s a v zs l).all accB = true := by
 have h1 := h.hl
 unfold tL
 cases hc : ltI (l.length : Int) 400 && !(eqI k 3 && eqI (codeO k s a) 0)
 ·exact ⟨h1, hl⟩
 ·rw [Bool.and_eq_true, ltI_iff] at hc
  rw [cond_true, List.length_append, List.all_append, hl]
  refine ⟨by simp; omega, ?_⟩
  simp only [List.all_cons, List.all_nil, Bool.and_true, Bool.true_and, accB, hk, ha, tV_val h, code_rng, hc.2]
theorem tB_len (k s a v : Int) (zs : List Int) : (tB k s a v zs).length = zs.length := by
 unfold tB
 cases eqI (codeO k s a) 0 && eqI k 2
 ·rfl
 ·rw [cond_true]
  match s.toNat with
  | 0 => rfl
  | 1 => simp [wk]
  | n + 2 => simp [wk]
theorem acc_ok {k s a v t : Int} {m : MM} (hm : m.Ok t) (h : AccOk s v a m) (hk : inB k 1 3 = true) : (accM m k s a v).1.Ok t ∧ valB s (accM m k s a v).2 = true := by
 have hT := h.t hm
 obtain ⟨l1, l2⟩ := tL_ok (k := k) hT h.ha hk hm.b.ha
 exact ⟨⟨hm.r, ⟨by show (tB k s a v m.zs).length = 512; rw [tB_len]; exact hm.b.hz, tB_bytes hT, l1, l2⟩⟩, tV_val hT⟩
theorem cpair {α : Type} {b : Bool} {x y : α} {P : α → Prop} (h1 : b = true → P x) (h2 : b = false → P y) : P (bif b then x else y) := by
 cases b
 ·exact h2 rfl
 ·exact h1 rfl
theorem RM.Ok.setA {t v : Int} {r : RM} {i : Nat} (h : r.Ok t) (h0 : 0 ≤ v) (h1 : v ≤ 65535) : RM.Ok t { r with a := r.a.set i v } := ⟨h.t0, h.t1, h.d4, by simpa using h.a4, h.dw, words_set h.aw h0 h1, h.ow, h.pw, h.fw, h.mw⟩
theorem RM.Ok.setD {t v : Int} {r : RM} {i : Nat} (h : r.Ok t) (h0 : 0 ≤ v) (h1 : v ≤ t) : RM.Ok t { r with d := r.d.set i v } := ⟨h.t0, h.t1, by simpa using h.d4, h.a4, words_set h.dw h0 h1, h.aw, h.ow, h.pw, h.fw, h.mw⟩
theorem RM.Ok.setP {t v : Int} {r : RM} (h : r.Ok t) (h1 : inB v 0 65535 = true) : RM.Ok t { r with pc := v } := ⟨h.t0, h.t1, h.d4, h.a4, h.dw, h.aw, h.ow, h1, h.fw, h.mw⟩
theorem RM.Ok.setF {t v : Int} {r : RM} (h : r.Ok t) (h1 : inB v 0 31 = true) : RM.Ok t { r with fl := v } := ⟨h.t0, h.t1, h.d4, h.a4, h.dw, h.aw, h.ow, h.pw, h1, h.mw⟩
theorem in3 : inB 3 0 3 = true := by decide
theorem toN3 : Int.toNat 3 = 3 := rfl
theorem a3_rng {t : Int} {r : RM} (h : r.Ok t) : 0 ≤ dat r.a 3 ∧ dat r.a 3 ≤ 65535 := dat_in h.aw h.a4 in3
theorem val2 {v : Int} (h0 : 0 ≤ v) (h1 : v ≤ 65535) : valB 2 v = true := by
 unfold valB
 rw [ef 2 1, et 2 2, cond_false, cond_true, inB_iff]; omega
theorem val2_iff {v : Int} (h : valB 2 v = true) : 0 ≤ v ∧ v ≤ 65535 := by
 unfold valB at h
 rw [ef 2 1, et 2 2, cond_false, cond_true, inB_iff] at h; omega
theorem fit_word {t v : Int} {m : MM} (hm : m.Ok t) (h0 : 0 ≤ v) (h1 : v ≤ 65535) : AccOk 2 v ((dat m.r.a 3 - 2) % 65536) m := ⟨Or.inr rfl, val2 h0 h1, inB_iff.2 (by omega)⟩
theorem a3_facts {t : Int} {r : RM} (h : r.Ok t) : ltI 3 (r.a.length : Int) = true ∧ hasRow [.int .i64] (ri r.a) 3 0 = true ∧ intAt (ri r.a) 3 0 = dat r.a 3 ∧ blt 3 r.a.length = true ∧ beqN (rlen (ri r.a) 3) 1 = true ∧ andI (subI (dat r.a 3) 2) 65535 = (dat r.a 3 - 2) % 65536 ∧ andI (addI (dat r.a 3) 2) 65535 = (dat r.a 3 + 2) % 65536 := by
 have h4 := h.a4
 have hr := a3_rng h
 obtain ⟨-, d2, d3⟩ := dat_at h.a4 in3
 obtain ⟨s1, s2, s3, s4, s5⟩ := set_at (v := 0) h.a4 in3
 rw [Nat.zero_add, toN3] at s1 s2 s5
 refine ⟨s4, s5, d2, s1, s2, ?_, ?_⟩
 ·rw [subI_eq (by omega), and16]
 ·rw [addI_eq (by omega), and16]
@[simp] theorem acc_r (m : MM) (k s a v : Int) : (accM m k s a v).1.r = m.r := rfl
@[simp] theorem acc_stop (m : MM) (k s a v : Int) : (accM m k s a v).1.stop = m.stop := rfl
theorem push_m {v t : Int} {m : MM} (hm : m.Ok t) (h0 : 0 ≤ v) (h1 : v ≤ 65535) : k79 v m.g = true ∧ g79 v m.g = (pushM m v).g := by
 refine sat_hid (t := T79 v m.g) (P := fun r => r = (pushM m v).g) ?_
 obtain ⟨b1, b2, b3, b4, b5, b6, b7⟩ := a3_facts hm.r
 obtain ⟨a1, a2⟩ := acc_m (k := 2) hm (fit_word hm h0 h1)
 unfold T79 pushM fine
 simp only [sat_ok', sat_br, sat_leaf, y79_14, y79_13, y79_12, y79_11, y79_10, y79_9, y79_8, y79_7, y79_6, y79_5, y79_4, y79_3, y79_2, y79_1, y79_0, g_fr, g_fbus, g_ffault, r_D, r_A, bus_B, bus_L, lenI_eq, ri_len, b1, b2, b3, b4, b5, b6, a1, a2, fine_s, acc_r, eqN_self, ri_set, List.length_set, List.length_map, Bool.and_true, true_and]
 refine ⟨fun q => ?_, fun q => ?_⟩
 ·rw [q]; rfl
 ·rw [q]; rfl
theorem push_ok {v t : Int} {m : MM} (hm : m.Ok t) (h0 : 0 ≤ v) (h1 : v ≤ 65535) : (pushM m v).Ok t := by
 obtain ⟨a1, -⟩ := acc_ok (k := 2) hm (fit_word hm h0 h1) (by decide)
 unfold pushM
 refine cpair (P := fun q => MM.Ok t q) (fun _ => ⟨hm.r.setA (by omega) (by omega), a1.b⟩) (fun _ => a1)
theorem fit_pop {t : Int} {m : MM} (hm : m.Ok t) : AccOk 2 0 (dat m.r.a 3) m := ⟨Or.inr rfl, by decide, by have := a3_rng hm.r; rw [inB_iff]; exact this⟩
theorem pop_m {t : Int} {m : MM} (hm : m.Ok t) : k85 m.g = true ∧ g85 m.g = ((popM m).1.g, (popM m).2) := by
 refine sat_hid (t := T85 m.g) (P := fun r => r = ((popM m).1.g, (popM m).2)) ?_
 obtain ⟨b1, b2, b3, b4, b5, b6, b7⟩ := a3_facts hm.r
 obtain ⟨a1, a2⟩ := acc_m (k := 1) hm (fit_pop hm)
 unfold T85 popM fine
 simp only [sat_ok', sat_br, sat_leaf, y85_12, y85_11, y85_10, y85_9, y85_8, y85_7, y85_6, y85_5, y85_4, y85_3, y85_2, y85_1, y85_0, g_fr, g_fbus, g_ffault, r_D, r_A, bus_B, bus_L, lenI_eq, ri_len, b1, b2, b3, b4, b5, b7, a1, a2, fine_s, acc_r, eqN_self, ri_set, List.length_set, List.length_map, Bool.and_true, true_and]
 refine ⟨fun q => ?_, fun q => ?_⟩
 ·rw [q]; rfl
 ·rw [q]; rfl
theorem pop_ok {t : Int} {m : MM} (hm : m.Ok t) : (popM m).1.Ok t ∧ 0 ≤ (popM m).2 ∧ (popM m).2 ≤ 65535 := by
 obtain ⟨a1, a2⟩ := acc_ok (k := 1) hm (fit_pop hm) (by decide)
 refine ⟨?_, val2_iff a2⟩
 unfold popM
 refine cpair (P := fun q => MM.Ok t q) (fun _ => ⟨hm.r.setA (by omega) (by omega), a1.b⟩) (fun _ => a1)
end Go.Proofs.YtdipcnijfkdnfaaGreatStack

namespace Go.Proofs.YtdipcnijfkdnfaaGreatStack
open Go Go.Zq
set_option maxHeartbeats 4000000
set_option maxRecDepth 100000
theorem by_s (s k : Int) : k276 s k = true ∧ g276 s k = byM s k := by
 refine sat_hid (t := T276 s k) (P := fun r => r = byM s k) ?_
 have e : (bif eqI s 1 then neI k 3 else false) = (eqI s 1 && neI k 3) := by cases eqI s 1 <;> rfl
 unfold T276 byM
 simp only [sat_ok', sat_br, sat_leaf, e, true_and]
 exact ⟨fun h => by rw [h]; rfl, fun h => by rw [h]; rfl⟩
theorem by_rng (s k : Int) : byM s k = 1 ∨ byM s k = 2 := by
 unfold byM
 cases eqI s 1 && neI k 3
 ·exact Or.inr rfl
 ·exact Or.inl rfl
structure OpOk (o : GOperand) : Prop where
 hm : inB o.Mode 0 7 = true
 hr : inB o.Reg 0 3 = true
 he : inB o.Ext 0 65535 = true
theorem OpOk.of {o : GOperand} (h : opB o = true) : OpOk o := by
 unfold opB at h
 simp only [Bool.and_eq_true] at h
 exact ⟨h.1, h.2.1, h.2.2.2.1⟩
theorem place_m {t s : Int} {r : RM} {o : GOperand} (h : r.Ok t) (ho : OpOk o) : k247 r.g s o = true ∧ g247 r.g s o = ((placeM r s o).1.g, (placeM r s o).2) := by
 refine sat_hid (t := T247 r.g s o) (P := fun q => q = ((placeM r s o).1.g, (placeM r s o).2)) ?_
 obtain ⟨d1, d2, d3⟩ := dat_at h.a4 ho.hr
 obtain ⟨s1, s2, s3, s4, s5⟩ := set_at (v := 0) h.a4 ho.hr
 rw [Nat.zero_add] at s1 s2 s5
 obtain ⟨q1, q2⟩ := dat_in h.aw h.a4 ho.hr
 have hb := by_rng s o.Reg
 have he := inB_iff.1 ho.he
 have e1 : andI (addI (dat r.a o.Reg) (byM s o.Reg)) 65535 = (dat r.a o.Reg + byM s o.Reg) % 65536 := by rw [addI_eq (by omega), and16]
 have e2 : andI (subI (dat r.a o.Reg) (byM s o.Reg)) 65535 = (dat r.a o.Reg - byM s o.Reg) % 65536 := by rw [subI_eq (by omega), and16]
 have e3 : andI (addI (dat r.a o.Reg) o.Ext) 65535 = (dat r.a o.Reg + o.Ext) % 65536 := by rw [addI_eq (by omega), and16]
 unfold T247 placeM
 simp only [sat_ok', sat_br, sat_leaf, y247_8, y247_7, y247_6, y247_5, y247_4, y247_3, y247_2, y247_1, y247_0, r_D, r_A, lenI_eq, ri_len, Nat.zero_add, (by_s _ _).1, (by_s _ _).2, d2, s1, s2, s3, s4, s5, e1, e2, e3, ri_set, List.length_set, eqN_self, Bool.and_true, true_and]
 refine ⟨fun q => by rw [q]; rfl, fun q => ?_⟩
 rw [q]
 refine ⟨fun q => by rw [q]; rfl, fun q => ?_⟩
 rw [q]
 cases eqI o.Mode 5
 ·cases eqI o.Mode 6 <;> rfl
 ·rfl
theorem place_ok {t s : Int} {r : RM} {o : GOperand} (h : r.Ok t) (ho : OpOk o) : (placeM r s o).1.Ok t ∧ inB (placeM r s o).2 0 65535 = true := by
 have q := dat_in h.aw h.a4 ho.hr
 unfold placeM
 refine cpair (P := fun z : RM × Int => z.1.Ok t ∧ inB z.2 0 65535 = true) (fun _ => ⟨h.setA (by omega) (by omega), inB_iff.2 q⟩) fun _ => ?_
 refine cpair (P := fun z : RM × Int => z.1.Ok t ∧ inB z.2 0 65535 = true) (fun _ => ⟨h.setA (by omega) (by omega), inB_iff.2 (by dsimp only; omega)⟩) fun _ => ?_
 refine cpair (P := fun z : RM × Int => z.1.Ok t ∧ inB z.2 0 65535 = true) (fun _ => ⟨h, inB_iff.2 (by dsimp only; omega)⟩) fun _ => ?_
 exact cpair (P := fun z : RM × Int => z.1.Ok t ∧ inB z.2 0 65535 = true) (fun _ => ⟨h, ho.he⟩) fun _ => ⟨h, inB_iff.2 q⟩
theorem low_m {t s k : Int} {r : RM} (h : r.Ok t) (hs : s = 1 ∨ s = 2) (hk : inB k 0 3 = true) : k214 r.g s k = true ∧ g214 r.g s k = dat r.d k % limO s := by
 refine sat_hid (t := T214 r.g s k) (P := fun q => q = dat r.d k % limO s) ?_
 obtain ⟨d1, d2, d3⟩ := dat_at h.d4 hk
 unfold T214
 simp only [sat_ok', sat_leaf, r_D, d1, d2, (lim_s hs).1, (lim_s hs).2, mask hs, Bool.and_true, true_and]
theorem low_val {s v : Int} (hs : s = 1 ∨ s = 2) : valB s (v % limO s) = true := by
 rcases hs with rfl | rfl
 ·show (bif eqI 1 1 then inB (v % 256) 0 255 else _) = true
  rw [et 1 1, cond_true, inB_iff]; omega
 ·exact val2 (v := v % 65536) (by omega) (by omega)
theorem put_m {t s k v : Int} {r : RM} (h : r.Ok t) (hs : s = 1 ∨ s = 2) (hk : inB k 0 3 = true) (hv : s = 1 → 0 ≤ v ∧ v < 256) : k219 r.g s k v = true ∧ g219 r.g s k v = (putM r s k v).g := by
 refine sat_hid (t := T219 r.g s k v) (P := fun q => q = (putM r s k v).g) ?_
 obtain ⟨d1, d2, d3⟩ := dat_at h.d4 hk
 obtain ⟨s1, s2, s3, s4, s5⟩ := set_at (v := 0) h.d4 hk
 rw [Nat.zero_add] at s1 s2 s5
 have q := dat_in h.dw h.d4 hk
 have t1 := h.t1
 unfold T219 putM
 rcases hs with rfl | rfl
 ·have hv := hv rfl
  have e : orI (andI (dat r.d k) 65280) v = dat r.d k % 65536 / 256 * 256 + v := by
   have : andI (dat r.d k) 65280 = dat r.d k % 65536 / 256 * 256 := by
    have key : ∀ n : Nat, n ≤ 65536 → andI (n : Int) 65280 = ((n % 65536 / 256 * 256 : Nat) : Int) := fun n hn => by
     unfold andI
     have e1 : (BitVec.ofInt 64 (n : Int)) &&& (BitVec.ofInt 64 65280) = BitVec.ofNat 64 (n &&& 65280) := by
      apply BitVec.eq_of_toNat_eq
      simp [BitVec.toNat_and, Nat.and_mod_two_pow]
     rw [e1]
     have e2 : n &&& 65280 = n % 65536 / 256 * 256 := by
      have : n &&& 65280 = (n / 256 &&& 255) * 256 := by
       apply Nat.eq_of_testBit_eq
       intro i
       rw [show (n / 256 &&& 255) * 256 = (n / 2 ^ 8 &&& 255) <<< 8 from by rw [Nat.shiftLeft_eq]]
       rw [Nat.testBit_shiftLeft, Nat.testBit_and, Nat.testBit_and, Nat.testBit_div_two_pow]
       by_cases hi : 8 ≤ i
       ·have : (65280 : Nat) = 255 <<< 8 := by decide
        rw [this, Nat.testBit_shiftLeft]
        simp [hi]
       ·have : (65280 : Nat) = 255 <<< 8 := by decide
        rw [this, Nat.testBit_shiftLeft]
        simp [hi]
      rw [this]
      have : n / 256 &&& 255 = n / 256 % 256 := Nat.and_two_pow_sub_one_eq_mod (n := 8) (n / 256)
      rw [this]
      omega
     rw [e2, BitVec.toNat_ofNat, IntKind.wrap_i64]
     omega
    have := key (dat r.d k).toNat (by omega)
    rw [Int.toNat_of_nonneg q.1] at this
    rw [this]
    omega
   rw [this, or_add (by omega) (by omega) hv.1 hv.2]
  simp only [sat_ok', sat_br, sat_leaf, y219_6, y219_5, y219_4, y219_3, y219_2, y219_1, y219_0, r_D, r_A, lenI_eq, ri_len, Nat.zero_add, d2, e, s1, s2, s3, s4, s5, ri_set, List.length_set, eqN_self, et 1 1, Bool.and_true, true_and, forall_const, cond_true, Bool.true_eq_false, false_implies, and_true]
  rfl
 ·simp only [sat_ok', sat_br, sat_leaf, y219_6, y219_5, y219_4, y219_3, y219_2, y219_1, y219_0, r_D, r_A, lenI_eq, ri_len, Nat.zero_add, d2, s1, s2, s3, s4, s5, ri_set, List.length_set, eqN_self, ef 2 1, Bool.and_true, true_and, forall_const, cond_false, Bool.false_eq_true, false_implies]
  rfl
theorem put_ok {t s k v : Int} {r : RM} (h : r.Ok t) (hk : inB k 0 3 = true) (h0 : 0 ≤ v) (h1 : s = 1 → v < 256) (h2 : v ≤ t) : (putM r s k v).Ok t := by
 have q := dat_in h.dw h.d4 hk
 have t0 := h.t0
 unfold putM
 cases e : eqI s 1
 ·exact h.setD h0 h2
 ·rw [eqI_iff] at e
  have := h1 e
  exact h.setD (by rw [cond_true]; omega) (by rw [cond_true]; omega)
end Go.Proofs.YtdipcnijfkdnfaaGreatStack

namespace Go.Proofs.YtdipcnijfkdnfaaGreatStack
open Go Go.Zq
set_option maxHeartbeats 4000000
set_option maxRecDepth 100000
theorem flag_all {p : Int → Prop} {f : Int} (h : inB f 0 31 = true) (k : ∀ n : Fin 32, p (n.val : Int)) : p f := by
 rw [inB_iff] at h
 obtain ⟨n, rfl⟩ := Int.eq_ofNat_of_zero_le h.1
 exact k ⟨n, by omega⟩
theorem fl16 {f : Int} (h : inB f 0 31 = true) : andI f 16 = 0 ∨ andI f 16 = 16 := flag_all (p := fun f => andI f 16 = 0 ∨ andI f 16 = 16) h (by decide +kernel)
theorem fl4 {f : Int} (h : inB f 0 31 = true) : andI f 4 = 0 ∨ andI f 4 = 4 := flag_all (p := fun f => andI f 4 = 0 ∨ andI f 4 = 4) h (by decide +kernel)
theorem or_rng {a b : Int} (ha : inB a 0 31 = true) (hb : inB b 0 31 = true) : inB (orI a b) 0 31 = true := by
 have key : ∀ n m : Fin 32, inB (orI (n.val : Int) (m.val : Int)) 0 31 = true := by decide +kernel
 exact flag_all (p := fun a => inB (orI a b) 0 31 = true) ha fun n => flag_all (p := fun b => inB (orI (n.val : Int) b) 0 31 = true) hb fun m => key n m
theorem bif_rng {b : Bool} {x : Int} (hx : inB x 0 31 = true) : inB (bif b then x else 0) 0 31 = true := by
 cases b
 ·show inB 0 0 31 = true; decide
 ·exact hx
theorem fl_rng (c o z n : Bool) : inB (fl c o z n) 0 31 = true := by
 cases c <;> cases o <;> cases z <;> cases n <;> decide
theorem logic_s {s f v : Int} (hs : s = 1 ∨ s = 2) (hf : inB f 0 31 = true) : k216 s f v = true ∧ inB (g216 s f v) 0 31 = true := by
 refine sat_hid (t := T216 s f v) (P := fun r => inB r 0 31 = true) ?_
 unfold T216
 simp only [sat_ok', sat_leaf, (zn_s hs).1, (zn_s hs).2, Bool.and_true, true_and]
 refine or_rng ?_ (or_rng (bif_rng (by decide)) (bif_rng (by decide)))
 rcases fl16 hf with h | h <;> rw [h] <;> decide
theorem subP_s {s a b : Int} (ha : valB s a = true) (hb : valB s b = true) : k250 s 0 a b = true ∧ g250 s 0 a b = ((a - b) % limO s, subM s a b) := by
 obtain ⟨h1, h2⟩ := sub_s ha hb
 refine ⟨h1, ?_⟩
 have h3 : k250 s 0 a b = true ∧ (g250 s 0 a b).1 = (a - b) % limO s := by
  refine sat_hid (t := T250 s 0 a b) (P := fun r => r.1 = (a - b) % limO s) ?_
  obtain ⟨h, a0, a1⟩ := val_of ha
  obtain ⟨-, b0, b1⟩ := val_of hb
  have l := lim_rng h
  obtain ⟨p1, p2⟩ := sgn_s h a0 (by omega)
  obtain ⟨q1, q2⟩ := sgn_s h b0 (by omega)
  have e1 : subI (subI a b) 0 = a - b := by rw [subI_eq (x := a) (by omega), subI_eq (by omega)]; omega
  have r0 : 0 ≤ (a - b) % limO s := Int.emod_nonneg _ (by omega)
  have r1 : (a - b) % limO s < limO s := Int.emod_lt_of_pos _ (by omega)
  obtain ⟨t1, t2⟩ := sgn_s (v := (a - b) % limO s) h r0 (by omega)
  unfold T250
  simp only [sat_ok', sat_leaf, y250_1, y250_0, (lim_s h).1, (lim_s h).2, mask h, p1, q1, e1, t1, (flag_s _ _).1, (zn_s h).1, Bool.and_true, true_and]
 exact Prod.ext h3.2 h2
theorem cmp_s {s f a b : Int} (ha : valB s a = true) (hb : valB s b = true) (hf : inB f 0 31 = true) : k261 s f a b = true ∧ inB (g261 s f a b) 0 31 = true := by
 refine sat_hid (t := T261 s f a b) (P := fun r => inB r 0 31 = true) ?_
 obtain ⟨h1, h2⟩ := sub_s ha hb
 unfold T261
 simp only [sat_ok', sat_leaf, h1, h2, Bool.and_true, true_and]
 refine or_rng ?_ ?_
 ·unfold subM
  exact flag_all (p := fun z => inB (andI z 15) 0 31 = true) (fl_rng _ _ _ _) (by decide +kernel)
 ·rcases fl16 hf with h | h <;> rw [h] <;> decide
theorem mod_val {s v : Int} (hs : s = 1 ∨ s = 2) : valB s (v % limO s) = true := low_val hs
theorem bits_and {a b : Int} (ha : 0 ≤ a ∧ a ≤ 65535) (hb : 0 ≤ b ∧ b ≤ 65535) : (0 ≤ andI a b ∧ andI a b ≤ b) ∧ (0 ≤ orI a b ∧ orI a b ≤ 65535) ∧ (0 ≤ xorI a b ∧ xorI a b ≤ 65535) ∧ (a ≤ 255 → b ≤ 255 → orI a b ≤ 255 ∧ xorI a b ≤ 255) := by
 obtain ⟨n, rfl⟩ := Int.eq_ofNat_of_zero_le ha.1
 obtain ⟨m, rfl⟩ := Int.eq_ofNat_of_zero_le hb.1
 have hn : n < 2 ^ 16 := by omega
 have hm : m < 2 ^ 16 := by omega
 have e1 : ((n : Int) % ((2 ^ 64 : Nat) : Int)).toNat = n := by omega
 have e2 : ((m : Int) % ((2 ^ 64 : Nat) : Int)).toNat = m := by omega
 have a1 : n &&& m ≤ m := Nat.and_le_right
 have o1 : n ||| m < 2 ^ 16 := Nat.or_lt_two_pow hn hm
 have x1 : n ^^^ m < 2 ^ 16 := Nat.xor_lt_two_pow hn hm
 have k1 : andI (n : Int) (m : Int) = ((n &&& m : Nat) : Int) := by
  unfold andI; rw [BitVec.toNat_and, BitVec.toNat_ofInt, BitVec.toNat_ofInt, e1, e2, IntKind.wrap_i64]; omega
 have k2 : orI (n : Int) (m : Int) = ((n ||| m : Nat) : Int) := by
  unfold orI; rw [BitVec.toNat_or, BitVec.toNat_ofInt, BitVec.toNat_ofInt, e1, e2, IntKind.wrap_i64]; omega
 have k3 : xorI (n : Int) (m : Int) = ((n ^^^ m : Nat) : Int) := by
  unfold xorI; rw [BitVec.toNat_xor, BitVec.toNat_ofInt, BitVec.toNat_ofInt, e1, e2, IntKind.wrap_i64]; omega
 rw [k1, k2, k3]
 refine ⟨by omega, by omega, by omega, fun h1 h2 => ?_⟩
 have o2 : n ||| m < 2 ^ 8 := Nat.or_lt_two_pow (by omega) (by omega)
 have x2 : n ^^^ m < 2 ^ 8 := Nat.xor_lt_two_pow (by omega) (by omega)
 omega
theorem lim_le {s v : Int} (hs : s = 1 ∨ s = 2) (h : valB s v = true) : 0 ≤ v ∧ v ≤ 65535 ∧ (s = 1 → v ≤ 255) := by
 have := val_rng hs h
 omega
theorem val_mk {s v : Int} (hs : s = 1 ∨ s = 2) (h0 : 0 ≤ v) (h1 : v ≤ 65535) (h2 : s = 1 → v ≤ 255) : valB s v = true := by
 rcases hs with rfl | rfl
 ·show (bif eqI 1 1 then inB v 0 255 else _) = true
  rw [et 1 1, cond_true, inB_iff]; exact ⟨h0, h2 rfl⟩
 ·exact val2 h0 h1
theorem and_val {s a b : Int} (hs : s = 1 ∨ s = 2) (ha : valB s a = true) (hb : valB s b = true) : valB s (andI a b) = true := by
 have a1 := lim_le hs ha
 have b1 := lim_le hs hb
 have q := bits_and ⟨a1.1, a1.2.1⟩ ⟨b1.1, b1.2.1⟩
 exact val_mk hs q.1.1 (by omega) (fun h => by have := b1.2.2 h; omega)
theorem or_val {s a b : Int} (hs : s = 1 ∨ s = 2) (ha : valB s a = true) (hb : valB s b = true) : valB s (orI a b) = true := by
 have a1 := lim_le hs ha
 have b1 := lim_le hs hb
 have q := bits_and ⟨a1.1, a1.2.1⟩ ⟨b1.1, b1.2.1⟩
 exact val_mk hs q.2.1.1 q.2.1.2 (fun h => (q.2.2.2 (a1.2.2 h) (b1.2.2 h)).1)
theorem xor_val {s a b : Int} (hs : s = 1 ∨ s = 2) (ha : valB s a = true) (hb : valB s b = true) : valB s (xorI a b) = true := by
 have a1 := lim_le hs ha
 have b1 := lim_le hs hb
 have q := bits_and ⟨a1.1, a1.2.1⟩ ⟨b1.1, b1.2.1⟩
 exact val_mk hs q.2.2.1.1 q.2.2.1.2 (fun h => (q.2.2.2 (a1.2.2 h) (b1.2.2 h)).2)
end Go.Proofs.YtdipcnijfkdnfaaGreatStack

namespace Go.Proofs.YtdipcnijfkdnfaaGreatStack
open Go Go.Zq
set_option maxHeartbeats 4000000
set_option maxRecDepth 100000
theorem shl1 {v : Int} (h : 0 ≤ v) (h1 : v < 65536) : shlI v 1 = v * 2 := by
 unfold shlI
 rw [show ((2 : Int) ^ min (Int.toNat 1) 64) = 2 from by decide, IntKind.wrap_i64]
 omega
theorem shr1 {v : Int} : shrI v 1 = v / 2 := shr_div 1 rfl (by omega)
theorem left_k (k : Int) : k278 k = true := by
 refine (sat_hid (t := T278 k) (P := fun _ => True) ?_).1
 unfold T278
 simp only [sat_ok', sat_leaf, true_and]
def Bit (x : Int) : Prop := x = 0 ∨ x = 1
theorem bit_bif (b : Bool) : Bit (bif b then 1 else 0) := by
 cases b
 ·exact Or.inl rfl
 ·exact Or.inr rfl
theorem bit_if {b : Bool} {x y : Int} (hx : Bit x) (hy : Bit y) : Bit (bif b then x else y) := by
 cases b
 ·exact hy
 ·exact hx
theorem bit_and {v : Int} : Bit (andI v 1) := by
 rw [and1]
 unfold Bit
 omega
def Sh (s : Int) (r : Int × Int) : Prop := valB s r.1 = true ∧ inB r.2 0 31 = true
theorem once_s {k s f v : Int} (hs : s = 1 ∨ s = 2) (hv : valB s v = true) (hf : inB f 0 31 = true) : k251 k s f v = true ∧ Sh s (g251 k s f v) := by
 refine sat_hid (t := T251 k s f v) (P := fun r => Sh s r) ?_
 have lv := lim_le hs hv
 have b2 : Bit (y251_2 s v) := by
  unfold y251_2
  rw [(flag_s _ _).2]; exact bit_bif _
 have b3 : Bit (y251_3 k s v) := by
  unfold y251_3; exact bit_if b2 bit_and
 have b4 : Bit (y251_4 k s f v) := by
  unfold y251_4
  refine bit_if b2 (bit_if b3 (bit_if ?_ (Or.inl rfl)))
  rw [(flag_s _ _).2]; exact bit_bif _
 have vb : ∀ x, Bit x → valB s x = true := fun x hx => by
  rcases hx with rfl | rfl
  ·exact val0 hs
  ·rcases hs with rfl | rfl <;> decide
 have w5 : valB s (y251_5 k s f v) = true := by
  unfold y251_5
  rw [(lim_s hs).2]
  have m1 : subI (mulI 2 (quoI (limO s) 2)) 1 = subI (limO s) 1 := by rcases hs with rfl | rfl <;> decide
  rw [m1, shl1 lv.1 (by omega), mask hs, shr1]
  cases g278 k
  ·refine or_val hs (val_mk hs (by omega) (by omega) (fun h => by have := lv.2.2 h; omega)) ?_
   rcases b4 with h | h <;> rw [h]
   ·rcases hs with rfl | rfl <;> decide
   ·rcases hs with rfl | rfl <;> decide
  ·exact or_val hs (mod_val hs) (vb _ b4)
 have f8 : inB (y251_8 k s f v) 0 31 = true := by
  unfold y251_8
  rw [(zn_s hs).2, (flag_s _ _).2]
  refine or_rng (or_rng ?_ (or_rng (bif_rng (by decide)) (bif_rng (by decide)))) (bif_rng (by decide))
  rcases b3 with h | h <;> rw [h] <;> decide
 unfold T251
 simp only [sat_ok', sat_br, sat_leaf, (lim_s hs).1, (flag_s _ _).1, left_k, (zn_s hs).1, Bool.and_true, Bool.true_or, Bool.or_true, true_and]
 refine ⟨fun _ => ⟨w5, or_rng f8 ?_⟩, fun _ => ⟨w5, or_rng f8 ?_⟩⟩
 ·rcases fl16 hf with h | h <;> rw [h] <;> decide
 ·rcases b3 with h | h <;> rw [h] <;> decide
theorem by3_s {k s f v c : Int} (hs : s = 1 ∨ s = 2) (hv : valB s v = true) (hf : inB f 0 31 = true) (h0 : 0 ≤ c) (h1 : c ≤ 100) : k218 k s f v c = true ∧ Sh s (g218 k s f v c) := by
 refine sat_hid (t := T218 k s f v c) (P := fun r => Sh s r) ?_
 obtain ⟨n, rfl⟩ := Int.eq_ofNat_of_zero_le h0
 have L : i218_0 (V218_0.mk k s f v (n : Int) 0) = true ∧ (valB s (w218_0 (V218_0.mk k s f v (n : Int) 0)).s3 = true ∧ inB (w218_0 (V218_0.mk k s f v (n : Int) 0)).s2 0 31 = true ∧ inB (w218_0 (V218_0.mk k s f v (n : Int) 0)).s13 0 31 = true) := by
  unfold i218_0 w218_0
  refine loop_w (Post := fun w : V218_0 => valB s w.s3 = true ∧ inB w.s2 0 31 = true ∧ inB w.s13 0 31 = true) (loop_sat (fun (m : Nat) (w : V218_0) => w.s1 = s ∧ w.s4 = (m : Int) ∧ m ≤ 100 ∧ valB s w.s3 = true ∧ inB w.s2 0 31 = true ∧ inB w.s13 0 31 = true) _ ?_ 2097152 n _ ⟨rfl, rfl, by omega, hv, hf, (by decide : inB 0 0 31 = true)⟩ (by omega))
  rintro m w ⟨e1, e2, e3, e4, e5, e6⟩
  obtain ⟨o1, o2, o3⟩ := once_s (k := w.s0) hs e4 e5
  have o3' : inB (andI (g251 w.s0 s w.s2 w.s3).2 2) 0 31 = true := flag_all (p := fun z => inB (andI z 2) 0 31 = true) o3 (by decide +kernel)
  unfold N218_0
  simp only [sat_ok', sat_br, sat_leaf, y218_0_l_0, e1, e2, o1, gtI_iff, gtI_f, Bool.and_true, true_and]
  refine ⟨fun q => ⟨m - 1, by omega, ?_, by omega, o2, o3, or_rng e6 o3'⟩, fun _ => ⟨e4, e5, e6⟩⟩
  rw [subI_eq (by omega)]; omega
 obtain ⟨l1, l2, l3, l4⟩ := L
 unfold T218
 simp only [sat_ok', sat_br, sat_leaf, y218_1, y218_0, (zn_s hs).1, (zn_s hs).2, (flag_s _ _).1, (flag_s _ _).2, l1, Bool.and_true, true_and]
 refine ⟨fun _ => ⟨hv, or_rng (or_rng ?_ (or_rng (bif_rng (by decide)) (bif_rng (by decide)))) (bif_rng (by decide))⟩, fun _ => ⟨l2, or_rng l3 l4⟩⟩
 rcases fl16 hf with h | h <;> rw [h] <;> decide
theorem even_k (c f : Int) : k279 c f = true := by
 refine (sat_hid (t := T279 c f) (P := fun _ => True) ?_).1
 unfold T279
 simp only [sat_ok', sat_br, sat_leaf, true_and, implies_true, and_self]
theorem test_k (c f : Int) : k252 c f = true := by
 refine (sat_hid (t := T252 c f) (P := fun _ => True) ?_).1
 unfold T252
 simp only [sat_ok', sat_leaf, even_k, Bool.and_true, true_and]
end Go.Proofs.YtdipcnijfkdnfaaGreatStack

namespace Go.Proofs.YtdipcnijfkdnfaaGreatStack
open Go Go.Zq
set_option maxHeartbeats 4000000
set_option maxRecDepth 100000
theorem set_r (m : MM) (r : RM) : (Gl10M.mk r.g (bus m.zs m.l) m.stop m.f) = MM.g { m with r := r } := rfl
theorem read_m {t s : Int} {m : MM} {o : GOperand} (hm : m.Ok t) (hs : s = 1 ∨ s = 2) (ho : OpOk o) : k212 s o m.g = true ∧ g212 s o m.g = ((readM m s o).1.g, (readM m s o).2.1, (readM m s o).2.2) := by
 refine sat_hid (t := T212 s o m.g) (P := fun q => q = ((readM m s o).1.g, (readM m s o).2.1, (readM m s o).2.2)) ?_
 obtain ⟨d1, d2, d3⟩ := dat_at hm.r.a4 ho.hr
 obtain ⟨s1, s2, s3, s4, s5⟩ := set_at (v := 0) hm.r.a4 ho.hr
 rw [Nat.zero_add] at s5
 obtain ⟨l1, l2⟩ := low_m hm.r hs ho.hr
 obtain ⟨p1, p2⟩ := place_m (s := s) hm.r ho
 obtain ⟨p3, p4⟩ := place_ok (s := s) hm.r ho
 have hm' : MM.Ok t { m with r := (placeM m.r s o).1 } := ⟨p3, hm.b⟩
 obtain ⟨a1, a2⟩ := acc_m (k := 1) (v := 0) (a := (placeM m.r s o).2) hm' ⟨hs, val0 hs, p4⟩
 unfold T212 readM
 simp only [sat_ok', sat_br, sat_leaf, y212_18, y212_17, y212_16, y212_15, y212_14, y212_13, y212_12, y212_11, y212_10, y212_9, y212_8, y212_7, y212_6, y212_5, y212_4, y212_3, y212_2, y212_1, y212_0, g_fr, g_fbus, g_fstop, g_ffault, r_D, r_A, lenI_eq, ri_len, Nat.zero_add, l1, l2, d2, s3, s4, s5, p1, p2, set_r, a1, a2, eqN_self, same_s, sameR_s, Bool.and_true, true_and]
 refine ⟨fun q => by rw [q]; rfl, fun q => ?_⟩
 rw [q]
 refine ⟨fun q => by rw [q]; rfl, fun q => ?_⟩
 rw [q]
 exact ⟨fun q => by rw [q]; rfl, fun q => by rw [q]; rfl⟩
theorem read_ok {t s : Int} {m : MM} {o : GOperand} (hm : m.Ok t) (hs : s = 1 ∨ s = 2) (ho : OpOk o) (hmode : s = 1 → o.Mode = 1 → False) (he : s = 1 → o.Mode = 7 → o.Ext ≤ 255) : (readM m s o).1.Ok t ∧ valB s (readM m s o).2.1 = true ∧ inB (readM m s o).2.2 0 65535 = true := by
 obtain ⟨p3, p4⟩ := place_ok (s := s) hm.r ho
 have hm' : MM.Ok t { m with r := (placeM m.r s o).1 } := ⟨p3, hm.b⟩
 obtain ⟨a1, a2⟩ := acc_ok (k := 1) (v := 0) (a := (placeM m.r s o).2) hm' ⟨hs, val0 hs, p4⟩ (by decide)
 have q := dat_in hm.r.aw hm.r.a4 ho.hr
 have e := inB_iff.1 ho.he
 have z0 : inB 0 0 65535 = true := by decide
 unfold readM
 refine cpair (P := fun z : MM × Int × Int => z.1.Ok t ∧ valB s z.2.1 = true ∧ inB z.2.2 0 65535 = true) (fun _ => ⟨hm, low_val hs, z0⟩) fun _ => ?_
 refine cpair (P := fun z : MM × Int × Int => z.1.Ok t ∧ valB s z.2.1 = true ∧ inB z.2.2 0 65535 = true) (fun h => ⟨hm, val_mk hs q.1 q.2 (fun h1 => (hmode h1 (eqI_iff.1 h)).elim), z0⟩) fun _ => ?_
 refine cpair (P := fun z : MM × Int × Int => z.1.Ok t ∧ valB s z.2.1 = true ∧ inB z.2.2 0 65535 = true) (fun h => ⟨hm, val_mk hs e.1 e.2 (fun h1 => he h1 (eqI_iff.1 h)), z0⟩) fun _ => ?_
 exact ⟨a1, a2, p4⟩
def splM (m : MM) (s : Int) (o : GOperand) : MM × Int := bif eqI o.Mode 0 then (m, 0) else ({ m with r := (placeM m.r s o).1 }, (placeM m.r s o).2)
theorem spl_m {t s : Int} {m : MM} {o : GOperand} (hm : m.Ok t) (ho : OpOk o) : k213 s o m.g = true ∧ g213 s o m.g = ((splM m s o).1.g, (splM m s o).2) := by
 refine sat_hid (t := T213 s o m.g) (P := fun q => q = ((splM m s o).1.g, (splM m s o).2)) ?_
 obtain ⟨p1, p2⟩ := place_m (s := s) hm.r ho
 unfold T213 splM
 simp only [sat_ok', sat_br, sat_leaf, y213_10, y213_9, y213_8, y213_7, y213_6, y213_5, y213_4, y213_3, y213_2, y213_1, y213_0, g_fr, g_fbus, g_fstop, g_ffault, p1, p2, eqN_self, same_s, sameR_s, Bool.and_true, true_and]
 exact ⟨fun q => by rw [q]; rfl, fun q => by rw [q]; rfl⟩
theorem spl_ok {t s : Int} {m : MM} {o : GOperand} (hm : m.Ok t) (ho : OpOk o) : (splM m s o).1.Ok t ∧ inB (splM m s o).2 0 65535 = true := by
 obtain ⟨p3, p4⟩ := place_ok (s := s) hm.r ho
 unfold splM
 exact cpair (P := fun z : MM × Int => z.1.Ok t ∧ inB z.2 0 65535 = true) (fun _ => ⟨hm, (by decide : inB 0 0 65535 = true)⟩) fun _ => ⟨⟨p3, hm.b⟩, p4⟩
def writeM (m : MM) (s : Int) (o : GOperand) (a v : Int) : MM := bif eqI o.Mode 0 then { m with r := putM m.r s o.Reg v } else (accM m 2 s a v).1
theorem write_m {t s a v : Int} {m : MM} {o : GOperand} (hm : m.Ok t) (hs : s = 1 ∨ s = 2) (ho : OpOk o) (ha : inB a 0 65535 = true) (hv : valB s v = true) : k215 s o a v m.g = true ∧ g215 s o a v m.g = (writeM m s o a v).g := by
 refine sat_hid (t := T215 s o a v m.g) (P := fun q => q = (writeM m s o a v).g) ?_
 have lv := lim_le hs hv
 obtain ⟨p1, p2⟩ := put_m (v := v) hm.r hs ho.hr (fun h => by have := lv.2.2 h; omega)
 obtain ⟨a1, a2⟩ := acc_m (k := 2) hm (⟨hs, hv, ha⟩ : AccOk s v a m)
 unfold T215 writeM
 simp only [sat_ok', sat_br, sat_leaf, y215_11, y215_10, y215_9, y215_8, y215_7, y215_6, y215_5, y215_4, y215_3, y215_2, y215_1, y215_0, g_fr, g_fbus, g_fstop, g_ffault, p1, p2, a1, a2, eqN_self, Bool.and_true, true_and]
 exact ⟨fun q => by rw [q]; rfl, fun q => by rw [q]; rfl⟩
theorem write_ok {t s a v : Int} {m : MM} {o : GOperand} (hm : m.Ok t) (hs : s = 1 ∨ s = 2) (ho : OpOk o) (ha : inB a 0 65535 = true) (hv : valB s v = true) : (writeM m s o a v).Ok t := by
 have lv := lim_le hs hv
 have t0 := hm.r.t0
 obtain ⟨a1, -⟩ := acc_ok (k := 2) hm (⟨hs, hv, ha⟩ : AccOk s v a m) (by decide)
 unfold writeM
 exact cpair (P := fun z => MM.Ok t z) (fun _ => ⟨put_ok hm.r ho.hr lv.1 (fun h => by have := lv.2.2 h; omega) (by omega), hm.b⟩) (fun _ => a1)
def fet3 (q : MM × Int) (p : MM × Int) : MM × GIns × Int :=
 bif !fine p.1 then (p.1, ⟨0, 0, 0, ⟨0, 0, 0⟩, 0⟩, 0) else
 bif !goodI (decI q.2 p.2) then ({ p.1 with f := { p.1.f with Vector := 4 } }, ⟨0, 0, 0, ⟨0, 0, 0⟩, 0⟩, 0) else (p.1, decI q.2 p.2, 2)
def fet2 (q : MM × Int) (pc : Int) : MM × GIns × Int :=
 bif !fine q.1 then (q.1, ⟨0, 0, 0, ⟨0, 0, 0⟩, 0⟩, 0) else
 bif longB q.2 then fet3 q (accM { q.1 with f := { q.1.f with Word := q.2 } } 3 2 ((pc + 2) % 65536) 0)
 else bif !goodI (decI q.2 0) then ({ q.1 with f := { q.1.f with Word := q.2, Vector := 4 } }, ⟨0, 0, 0, ⟨0, 0, 0⟩, 0⟩, 0) else ({ q.1 with f := { q.1.f with Word := q.2 } }, decI q.2 0, 1)
def fetM (m : MM) : MM × GIns × Int := fet2 (accM { m with f := { m.f with PC := m.r.pc } } 3 2 m.r.pc 0) m.r.pc
theorem fit_f {t a : Int} {m : MM} (hm : m.Ok t) (ha : inB a 0 65535 = true) : AccOk 2 0 a m := ⟨Or.inr rfl, by decide, ha⟩
theorem set_f (m : MM) (f : GFault) : (Gl10M.mk m.r.g (bus m.zs m.l) m.stop f) = MM.g { m with f := f } := rfl
theorem fet_m {t : Int} {m : MM} (hm : m.Ok t) : k158 m.g = true ∧ g158 m.g = ((fetM m).1.g, (fetM m).2.1, (fetM m).2.2) := by
 refine sat_hid (t := T158 m.g) (P := fun q => q = ((fetM m).1.g, (fetM m).2.1, (fetM m).2.2)) ?_
 have hp := inB_iff.1 hm.r.pw
 have hm0 : MM.Ok t { m with f := { m.f with PC := m.r.pc } } := ⟨hm.r, hm.b⟩
 obtain ⟨a1, a2⟩ := acc_m (k := 3) hm0 (fit_f hm0 hm.r.pw)
 obtain ⟨a3, a4⟩ := acc_ok (k := 3) hm0 (fit_f hm0 hm.r.pw) (by decide)
 have ha : inB ((m.r.pc + 2) % 65536) 0 65535 = true := by rw [inB_iff]; omega
 have e2 : andI (addI m.r.pc 2) 65535 = (m.r.pc + 2) % 65536 := by rw [addI_eq (by omega), and16]
 unfold T158 fetM
 generalize hq : accM { m with f := { m.f with PC := m.r.pc } } 3 2 m.r.pc 0 = q at a1 a2 a3 a4
 obtain ⟨q1, q2⟩ := q
 have hm1 : MM.Ok t { q1 with f := { q1.f with Word := q2 } } := ⟨a3.r, a3.b⟩
 obtain ⟨b1, b2⟩ := acc_m (k := 3) hm1 (fit_f hm1 ha)
 unfold fet2
 generalize accM { q1 with f := { q1.f with Word := q2 } } 3 2 ((m.r.pc + 2) % 65536) 0 = p at b1 b2
 obtain ⟨p1, p2⟩ := p
 unfold fet3 fine
 simp only [sat_ok', sat_br, sat_leaf, y158_18, y158_17, y158_16, y158_15, y158_14, y158_13, y158_12, y158_11, y158_10, y158_9, y158_8, y158_7, y158_6, y158_5, y158_4, y158_3, y158_2, y158_1, y158_0, g_fr, g_fbus, g_fstop, g_ffault, r_PC, set_f, e2, a1, a2, b1, b2, fine_s, (long_s _).1, (long_s _).2, long2, (dec_sM _ _).1, (dec_sM _ _).2, (gins_s _).1, (gins_s _).2, eqN_self, Bool.and_true, true_and]
 refine ⟨fun h => by rw [h]; rfl, fun h => ?_⟩
 rw [h]
 refine ⟨fun h2 => ?_, fun h2 => ?_⟩
 ·rw [h2]
  have l2 : longI q2 = 2 := by unfold longI; rw [h2]; rfl
  refine ⟨fun h => by rw [h]; rfl, fun h => ?_⟩
  rw [h]
  exact ⟨fun h => by rw [h]; rfl, fun h => by rw [h, l2]; rfl⟩
 ·rw [h2]
  have l2 : longI q2 = 1 := by unfold longI; rw [h2]; rfl
  exact ⟨fun h => by rw [h]; rfl, fun h => by rw [h, l2]; rfl⟩
end Go.Proofs.YtdipcnijfkdnfaaGreatStack

namespace Go.Proofs.YtdipcnijfkdnfaaGreatStack
open Bool renaming true_eq_false → q_1
open Go Go.Zq
set_option maxHeartbeats 4000000
set_option maxRecDepth 100000
structure InsOk (x : GIns) : Prop where
 hs : x.Size = 1 ∨ x.Size = 2
 hr : inB x.Reg 0 3 = true
 hb : inB x.Sub 0 7 = true
 ho : OpOk x.Ea
 he : x.Size = 1 → x.Ea.Mode = 7 → x.Ea.Ext ≤ 255
 kb : kB x = true
 op : 1 ≤ x.Op ∧ x.Op ≤ 19
theorem InsOk.of {x : GIns} (h : goodI x = true) : InsOk x := by
 have R := rng h
 unfold goodI at h
 simp only [Bool.and_eq_true] at h
 obtain ⟨h1, h2, h3, h4, h5, h6⟩ := h
 refine ⟨by have := R.s; omega, h2, h4, OpOk.of h3, fun e1 e2 => ?_, h6, R.o⟩
 unfold byteB at h5
 rw [e1, e2] at h5
 simpa using h5
theorem set_flg (r : RM) (f : Int) : (GRegs.mk (ri r.d) (ri r.a) r.oth r.pc f r.mask r.sup r.tr) = RM.g { r with fl := f } := rfl
theorem set_pc (r : RM) (p : Int) : (GRegs.mk (ri r.d) (ri r.a) r.oth p r.fl r.mask r.sup r.tr) = RM.g { r with pc := p } := rfl
noncomputable def dataM (m : MM) (s k v : Int) : MM := { m with r := putM { m.r with fl := g216 s m.r.fl v } s k v }
theorem data_m {t s k v : Int} {m : MM} (hm : m.Ok t) (hs : s = 1 ∨ s = 2) (hk : inB k 0 3 = true) (hv : s = 1 → 0 ≤ v ∧ v < 256) : k255 s k v m.g = true ∧ g255 s k v m.g = (dataM m s k v).g := by
 refine sat_hid (t := T255 s k v m.g) (P := fun q => q = (dataM m s k v).g) ?_
 obtain ⟨l1, l2⟩ := logic_s (v := v) hs hm.r.fw
 obtain ⟨p1, p2⟩ := put_m (v := v) (hm.r.setF l2) hs hk hv
 unfold T255
 simp only [sat_ok', sat_leaf, y255_3, y255_2, y255_1, y255_0, g_fr, g_fbus, g_fstop, g_ffault, r_D, r_A, r_Other, r_PC, r_Flags, r_Mask, r_Super, r_Trace, set_flg, l1, p1, p2, eqN_self, same_s, sameR_s, Bool.and_true, Bool.true_or, Bool.or_true, true_and]
 rfl
theorem data_ok {t s k v : Int} {m : MM} (hm : m.Ok t) (hs : s = 1 ∨ s = 2) (hk : inB k 0 3 = true) (h0 : 0 ≤ v) (h1 : s = 1 → v < 256) (h2 : v ≤ t) : (dataM m s k v).Ok t := ⟨put_ok (hm.r.setF (logic_s (v := v) hs hm.r.fw).2) hk h0 h1 h2, hm.b⟩
def raiseM (m : MM) (v : Int) : MM := { m with f := { m.f with Vector := v, PC := m.r.pc } }
theorem raise_m (m : MM) (v : Int) : k253 v m.g = true ∧ g253 v m.g = (raiseM m v).g := by
 refine sat_hid (t := T253 v m.g) (P := fun q => q = (raiseM m v).g) ?_
 unfold T253
 simp only [sat_ok', sat_leaf, y253_0, g_fr, g_fbus, g_fstop, g_ffault, r_D, r_A, r_Other, r_PC, r_Flags, r_Mask, r_Super, r_Trace, eqN_self, same_s, sameR_s, Bool.and_true, Bool.true_or, Bool.or_true, true_and]
 rfl
noncomputable def twoV (x : GIns) (f d v : Int) : Int × Int :=
 bif eqI x.Op 3 then addM x.Size 0 d v else bif eqI x.Op 4 then ((d - v) % limO x.Size, subM x.Size d v)
 else bif eqI x.Op 1 then (v, g216 x.Size f v) else bif eqI x.Op 5 then (andI d v, g216 x.Size f (andI d v))
 else bif eqI x.Op 6 then (orI d v, g216 x.Size f (orI d v)) else (xorI d v, g216 x.Size f (xorI d v))
noncomputable def twoM (m : MM) (x : GIns) : MM :=
 let q := readM m x.Size x.Ea
 bif !fine q.1 then q.1 else
 bif eqI x.Op 8 then { q.1 with r := { q.1.r with fl := g261 x.Size q.1.r.fl (dat q.1.r.d x.Reg % limO x.Size) q.2.1 } }
 else { q.1 with r := putM { q.1.r with fl := (twoV x q.1.r.fl (dat q.1.r.d x.Reg % limO x.Size) q.2.1).2 } x.Size x.Reg (twoV x q.1.r.fl (dat q.1.r.d x.Reg % limO x.Size) q.2.1).1 }
theorem twoV_ok {x : GIns} {f d v : Int} (hs : x.Size = 1 ∨ x.Size = 2) (hf : inB f 0 31 = true) (hd : valB x.Size d = true) (hv : valB x.Size v = true) : valB x.Size (twoV x f d v).1 = true ∧ inB (twoV x f d v).2 0 31 = true := by
 unfold twoV
 refine cpair (P := fun z : Int × Int => valB x.Size z.1 = true ∧ inB z.2 0 31 = true) (fun _ => ⟨low_val hs, fl_rng _ _ _ _⟩) fun _ => ?_
 refine cpair (P := fun z : Int × Int => valB x.Size z.1 = true ∧ inB z.2 0 31 = true) (fun _ => ⟨low_val hs, fl_rng _ _ _ _⟩) fun _ => ?_
 refine cpair (P := fun z : Int × Int => valB x.Size z.1 = true ∧ inB z.2 0 31 = true) (fun _ => ⟨hv, (logic_s hs hf).2⟩) fun _ => ?_
 refine cpair (P := fun z : Int × Int => valB x.Size z.1 = true ∧ inB z.2 0 31 = true) (fun _ => ⟨and_val hs hd hv, (logic_s hs hf).2⟩) fun _ => ?_
 refine cpair (P := fun z : Int × Int => valB x.Size z.1 = true ∧ inB z.2 0 31 = true) (fun _ => ⟨or_val hs hd hv, (logic_s hs hf).2⟩) fun _ => ?_
 exact ⟨xor_val hs hd hv, (logic_s hs hf).2⟩
def IsTwo (x : GIns) : Prop := x.Op = 1 ∨ x.Op = 3 ∨ x.Op = 4 ∨ x.Op = 5 ∨ x.Op = 6 ∨ x.Op = 7 ∨ x.Op = 8
theorem kB_two {x : GIns} (h : IsTwo x) : kB x = bif eqI x.Sub 0 then (bif neI x.Ea.Mode 1 then true else eqI x.Size 2) else false := by
 unfold kB
 rcases h with e | e | e | e | e | e | e <;> rw [e] <;> rfl
theorem two_mode {x : GIns} (h : InsOk x) (h2 : IsTwo x) : x.Size = 1 → x.Ea.Mode = 1 → False := by
 intro e1 e2
 have hk := h.kb
 rw [kB_two h2, e1, e2] at hk
 cases hb : eqI x.Sub 0
 ·rw [hb] at hk; exact absurd hk (by decide)
 ·rw [hb] at hk; exact absurd hk (by decide)
theorem two_m {t : Int} {m : MM} {x : GIns} (hm : m.Ok t) (h : InsOk x) (h2 : IsTwo x) : k224 x m.g = true ∧ g224 x m.g = (twoM m x).g := by
 refine sat_hid (t := T224 x m.g) (P := fun q => q = (twoM m x).g) ?_
 obtain ⟨r1, r2⟩ := read_m hm h.hs h.ho
 obtain ⟨r3, r4, r5⟩ := read_ok hm h.hs h.ho (two_mode h h2) h.he
 unfold T224 twoM
 generalize readM m x.Size x.Ea = q at r1 r2 r3 r4 r5
 obtain ⟨q1, v, a⟩ := q
 have hd := low_val (s := x.Size) (v := dat q1.r.d x.Reg) h.hs
 obtain ⟨l1, l2⟩ := low_m r3.r h.hs h.hr
 obtain ⟨a1, a2⟩ := add_s (c := 0) (Or.inl rfl) hd r4
 obtain ⟨b1, b2⟩ := subP_s hd r4
 obtain ⟨c1, c2⟩ := cmp_s (f := q1.r.fl) hd r4 r3.r.fw
 have lg : ∀ v, k216 x.Size q1.r.fl v = true := fun v => (logic_s h.hs r3.r.fw).1
 have pt : ∀ v f, valB x.Size v = true → inB f 0 31 = true → k219 (RM.g { q1.r with fl := f }) x.Size x.Reg v = true ∧ g219 (RM.g { q1.r with fl := f }) x.Size x.Reg v = (putM { q1.r with fl := f } x.Size x.Reg v).g := fun v f hv hf => put_m (r3.r.setF hf) h.hs h.hr (fun e => by have := lim_le h.hs hv; have := this.2.2 e; omega)
 dsimp only
 cases hfi : eqI q1.f.Vector 0
 ·simp only [sat_ok', sat_br, sat_leaf, y224_34, y224_33, y224_32, y224_31, y224_30, y224_29, y224_28, y224_27, y224_26, y224_25, y224_24, y224_23, y224_22, y224_21, y224_20, y224_19, y224_18, y224_17, y224_16, y224_15, y224_14, y224_13, y224_12, y224_11, y224_10, y224_9, y224_8, y224_7, y224_6, y224_5, y224_4, y224_3, y224_2, y224_1, y224_0, g_fr, g_fbus, g_fstop, g_ffault, r_D, r_A, r_Other, r_PC, r_Flags, r_Mask, r_Super, r_Trace, r1, r2, fine_s, fine, hfi, Bool.not_false, cond_true, eqN_self, same_s, sameR_s, Bool.and_true, Bool.true_or, Bool.or_true, true_and, forall_const, q_1, false_implies, and_true]
 ·obtain ⟨w1, w2⟩ := twoV_ok (x := x) (f := q1.r.fl) h.hs r3.r.fw hd r4
  obtain ⟨p1, p2⟩ := pt _ _ w1 w2
  rcases h2 with e | e | e | e | e | e | e
  ·have tw : twoV x q1.r.fl (dat q1.r.d x.Reg % limO x.Size) v = (v, g216 x.Size q1.r.fl v) := by unfold twoV; rw [e]; rfl
   rw [tw] at p1 p2 ⊢
   simp only [sat_ok', sat_br, sat_leaf, y224_34, y224_33, y224_32, y224_31, y224_30, y224_29, y224_28, y224_27, y224_26, y224_25, y224_24, y224_23, y224_22, y224_21, y224_20, y224_19, y224_18, y224_17, y224_16, y224_15, y224_14, y224_13, y224_12, y224_11, y224_10, y224_9, y224_8, y224_7, y224_6, y224_5, y224_4, y224_3, y224_2, y224_1, y224_0, g_fr, g_fbus, g_fstop, g_ffault, r_D, r_A, r_Other, r_PC, r_Flags, r_Mask, r_Super, r_Trace, set_flg, set_r, r1, r2, fine_s, fine, hfi, e, ef 1 0, et 1 1, ef 1 2, ef 1 3, ef 1 4, ef 1 5, ef 1 6, ef 1 7, ef 1 8, ef 1 9, ef 1 10, ef 1 11, ef 1 12, ef 1 13, ef 1 14, ef 1 15, ef 1 16, ef 1 17, ef 1 18, ef 1 19, show neI 1 3 = true from rfl, show neI 1 4 = true from rfl, l1, l2, a1, a2, b1, b2, lg, p1, p2, Bool.not_true, Bool.not_false, cond_true, cond_false, eqN_self, same_s, sameR_s, Bool.and_true, Bool.true_or, Bool.or_true, true_and, forall_const, q_1, Bool.false_eq_true, false_implies, and_true]
  ·have tw : twoV x q1.r.fl (dat q1.r.d x.Reg % limO x.Size) v = addM x.Size 0 (dat q1.r.d x.Reg % limO x.Size) v := by unfold twoV; rw [e]; rfl
   rw [tw] at p1 p2 ⊢
   simp only [sat_ok', sat_br, sat_leaf, y224_34, y224_33, y224_32, y224_31, y224_30, y224_29, y224_28, y224_27, y224_26, y224_25, y224_24, y224_23, y224_22, y224_21, y224_20, y224_19, y224_18, y224_17, y224_16, y224_15, y224_14, y224_13, y224_12, y224_11, y224_10, y224_9, y224_8, y224_7, y224_6, y224_5, y224_4, y224_3, y224_2, y224_1, y224_0, g_fr, g_fbus, g_fstop, g_ffault, r_D, r_A, r_Other, r_PC, r_Flags, r_Mask, r_Super, r_Trace, set_flg, set_r, r1, r2, fine_s, fine, hfi, e, ef 3 0, ef 3 1, ef 3 2, et 3 3, ef 3 4, ef 3 5, ef 3 6, ef 3 7, ef 3 8, ef 3 9, ef 3 10, ef 3 11, ef 3 12, ef 3 13, ef 3 14, ef 3 15, ef 3 16, ef 3 17, ef 3 18, ef 3 19, show neI 3 3 = false from rfl, show neI 3 4 = true from rfl, l1, l2, a1, a2, b1, b2, lg, p1, p2, Bool.not_true, Bool.not_false, cond_true, cond_false, eqN_self, same_s, sameR_s, Bool.and_true, Bool.true_or, Bool.or_true, true_and, forall_const, q_1, Bool.false_eq_true, false_implies, and_true]
  ·have tw : twoV x q1.r.fl (dat q1.r.d x.Reg % limO x.Size) v = ((dat q1.r.d x.Reg % limO x.Size - v) % limO x.Size, subM x.Size (dat q1.r.d x.Reg % limO x.Size) v) := by unfold twoV; rw [e]; rfl
   rw [tw] at p1 p2 ⊢
   simp only [sat_ok', sat_br, sat_leaf, y224_34, y224_33, y224_32, y224_31, y224_30, y224_29, y224_28, y224_27, y224_26, y224_25, y224_24, y224_23, y224_22, y224_21, y224_20, y224_19, y224_18, y224_17, y224_16, y224_15, y224_14, y224_13, y224_12, y224_11, y224_10, y224_9, y224_8, y224_7, y224_6, y224_5, y224_4, y224_3, y224_2, y224_1, y224_0, g_fr, g_fbus, g_fstop, g_ffault, r_D, r_A, r_Other, r_PC, r_Flags, r_Mask, r_Super, r_Trace, set_flg, set_r, r1, r2, fine_s, fine, hfi, e, ef 4 0, ef 4 1, ef 4 2, ef 4 3, et 4 4, ef 4 5, ef 4 6, ef 4 7, ef 4 8, ef 4 9, ef 4 10, ef 4 11, ef 4 12, ef 4 13, ef 4 14, ef 4 15, ef 4 16, ef 4 17, ef 4 18, ef 4 19, show neI 4 3 = true from rfl, show neI 4 4 = false from rfl, l1, l2, a1, a2, b1, b2, lg, p1, p2, Bool.not_true, Bool.not_false, cond_true, cond_false, eqN_self, same_s, sameR_s, Bool.and_true, Bool.true_or, Bool.or_true, true_and, forall_const, q_1, Bool.false_eq_true, false_implies, and_true]
  ·have tw : twoV x q1.r.fl (dat q1.r.d x.Reg % limO x.Size) v = (andI (dat q1.r.d x.Reg % limO x.Size) v, g216 x.Size q1.r.fl (andI (dat q1.r.d x.Reg % limO x.Size) v)) := by unfold twoV; rw [e]; rfl
   rw [tw] at p1 p2 ⊢
   simp only [sat_ok', sat_br, sat_leaf, y224_34, y224_33, y224_32, y224_31, y224_30, y224_29, y224_28, y224_27, y224_26, y224_25, y224_24, y224_23, y224_22, y224_21, y224_20, y224_19, y224_18, y224_17, y224_16, y224_15, y224_14, y224_13, y224_12, y224_11, y224_10, y224_9, y224_8, y224_7, y224_6, y224_5, y224_4, y224_3, y224_2, y224_1, y224_0, g_fr, g_fbus, g_fstop, g_ffault, r_D, r_A, r_Other, r_PC, r_Flags, r_Mask, r_Super, r_Trace, set_flg, set_r, r1, r2, fine_s, fine, hfi, e, ef 5 0, ef 5 1, ef 5 2, ef 5 3, ef 5 4, et 5 5, ef 5 6, ef 5 7, ef 5 8, ef 5 9, ef 5 10, ef 5 11, ef 5 12, ef 5 13, ef 5 14, ef 5 15, ef 5 16, ef 5 17, ef 5 18, ef 5 19, show neI 5 3 = true from rfl, show neI 5 4 = true from rfl, l1, l2, a1, a2, b1, b2, lg, p1, p2, Bool.not_true, Bool.not_false, cond_true, cond_false, eqN_self, same_s, sameR_s, Bool.and_true, Bool.true_or, Bool.or_true, true_and, forall_const, q_1, Bool.false_eq_true, false_implies, and_true]
  ·have tw : twoV x q1.r.fl (dat q1.r.d x.Reg % limO x.Size) v = (orI (dat q1.r.d x.Reg % limO x.Size) v, g216 x.Size q1.r.fl (orI (dat q1.r.d x.Reg % limO x.Size) v)) := by unfold twoV; rw [e]; rfl
   rw [tw] at p1 p2 ⊢
   simp only [sat_ok', sat_br, sat_leaf, y224_34, y224_33, y224_32, y224_31, y224_30, y224_29, y224_28, y224_27, y224_26, y224_25, y224_24, y224_23, y224_22, y224_21, y224_20, y224_19, y224_18, y224_17, y224_16, y224_15, y224_14, y224_13, y224_12, y224_11, y224_10, y224_9, y224_8, y224_7, y224_6, y224_5, y224_4, y224_3, y224_2, y224_1, y224_0, g_fr, g_fbus, g_fstop, g_ffault, r_D, r_A, r_Other, r_PC, r_Flags, r_Mask, r_Super, r_Trace, set_flg, set_r, r1, r2, fine_s, fine, hfi, e, ef 6 0, ef 6 1, ef 6 2, ef 6 3, ef 6 4, ef 6 5, et 6 6, ef 6 7, ef 6 8, ef 6 9, ef 6 10, ef 6 11, ef 6 12, ef 6 13, ef 6 14, ef 6 15, ef 6 16, ef 6 17, ef 6 18, ef 6 19, show neI 6 3 = true from rfl, show neI 6 4 = true from rfl, l1, l2, a1, a2, b1, b2, lg, p1, p2, Bool.not_true, Bool.not_false, cond_true, cond_false, eqN_self, same_s, sameR_s, Bool.and_true, Bool.true_or, Bool.or_true, true_and, forall_const, q_1, Bool.false_eq_true, false_implies, and_true]
  ·have tw : twoV x q1.r.fl (dat q1.r.d x.Reg % limO x.Size) v = (xorI (dat q1.r.d x.Reg % limO x.Size) v, g216 x.Size q1.r.fl (xorI (dat q1.r.d x.Reg % limO x.Size) v)) := by unfold twoV; rw [e]; rfl
   rw [tw] at p1 p2 ⊢
   simp only [sat_ok', sat_br, sat_leaf, y224_34, y224_33, y224_32, y224_31, y224_30, y224_29, y224_28, y224_27, y224_26, y224_25, y224_24, y224_23, y224_22, y224_21, y224_20, y224_19, y224_18, y224_17, y224_16, y224_15, y224_14, y224_13, y224_12, y224_11, y224_10, y224_9, y224_8, y224_7, y224_6, y224_5, y224_4, y224_3, y224_2, y224_1, y224_0, g_fr, g_fbus, g_fstop, g_ffault, r_D, r_A, r_Other, r_PC, r_Flags, r_Mask, r_Super, r_Trace, set_flg, set_r, r1, r2, fine_s, fine, hfi, e, ef 7 0, ef 7 1, ef 7 2, ef 7 3, ef 7 4, ef 7 5, ef 7 6, et 7 7, ef 7 8, ef 7 9, ef 7 10, ef 7 11, ef 7 12, ef 7 13, ef 7 14, ef 7 15, ef 7 16, ef 7 17, ef 7 18, ef 7 19, show neI 7 3 = true from rfl, show neI 7 4 = true from rfl, l1, l2, a1, a2, b1, b2, lg, p1, p2, Bool.not_true, Bool.not_false, cond_true, cond_false, eqN_self, same_s, sameR_s, Bool.and_true, Bool.true_or, Bool.or_true, true_and, forall_const, q_1, Bool.false_eq_true, false_implies, and_true]
  ·simp only [sat_ok', sat_br, sat_leaf, y224_34, y224_33, y224_32, y224_31, y224_30, y224_29, y224_28, y224_27, y224_26, y224_25, y224_24, y224_23, y224_22, y224_21, y224_20, y224_19, y224_18, y224_17, y224_16, y224_15, y224_14, y224_13, y224_12, y224_11, y224_10, y224_9, y224_8, y224_7, y224_6, y224_5, y224_4, y224_3, y224_2, y224_1, y224_0, g_fr, g_fbus, g_fstop, g_ffault, r_D, r_A, r_Other, r_PC, r_Flags, r_Mask, r_Super, r_Trace, r1, r2, fine_s, fine, hfi, e, ef 8 0, ef 8 1, ef 8 2, ef 8 3, ef 8 4, ef 8 5, ef 8 6, ef 8 7, et 8 8, ef 8 9, ef 8 10, ef 8 11, ef 8 12, ef 8 13, ef 8 14, ef 8 15, ef 8 16, ef 8 17, ef 8 18, ef 8 19, l1, l2, c1, Bool.not_true, Bool.not_false, cond_true, cond_false, eqN_self, same_s, sameR_s, Bool.and_true, Bool.true_or, Bool.or_true, true_and, forall_const, q_1, Bool.false_eq_true, false_implies, and_true]
   rfl
theorem two_ok {t : Int} {m : MM} {x : GIns} (hm : m.Ok t) (h : InsOk x) (h2 : IsTwo x) : (twoM m x).Ok t := by
 obtain ⟨r3, r4, r5⟩ := read_ok hm h.hs h.ho (two_mode h h2) h.he
 have t0 := hm.r.t0
 unfold twoM
 generalize readM m x.Size x.Ea = q at r3 r4 r5
 obtain ⟨q1, v, a⟩ := q
 have hd := low_val (s := x.Size) (v := dat q1.r.d x.Reg) h.hs
 obtain ⟨w1, w2⟩ := twoV_ok (x := x) (f := q1.r.fl) h.hs r3.r.fw hd r4
 dsimp only at r4 w1 w2 hd r3 ⊢
 have lv := lim_le h.hs w1
 refine cpair (P := fun z => MM.Ok t z) (fun _ => r3) fun _ => cpair (P := fun z => MM.Ok t z) (fun _ => ⟨r3.r.setF (cmp_s hd r4 r3.r.fw).2, r3.b⟩) fun _ => ?_
 exact ⟨put_ok (r3.r.setF w2) h.hr lv.1 (fun e => by have := lv.2.2 e; omega) (by omega), r3.b⟩
end Go.Proofs.YtdipcnijfkdnfaaGreatStack

namespace Go.Proofs.YtdipcnijfkdnfaaGreatStack
open Bool renaming true_eq_false → q_1
open Bool renaming false_eq_true → q_2
open Go Go.Zq
set_option maxHeartbeats 4000000
set_option maxRecDepth 100000
theorem st_bits {v : Int} (h : inB v 0 1023 = true) : neI (andI v 256) 0 = eqI (v / 256 % 2) 1 ∧ neI (andI v 512) 0 = eqI (v / 512 % 2) 1 := by
 rw [inB_iff] at h
 obtain ⟨n, rfl⟩ := Int.eq_ofNat_of_zero_le h.1
 have key : ∀ n : Fin 1024, neI (andI (n.val : Int) 256) 0 = eqI ((n.val : Int) / 256 % 2) 1 ∧ neI (andI (n.val : Int) 512) 0 = eqI ((n.val : Int) / 512 % 2) 1 := by decide +kernel
 exact key ⟨n, by omega⟩
theorem with_m {t v : Int} {r : RM} (h : r.Ok t) (hv : inB v 0 1023 = true) : k167 r.g v = true ∧ g167 r.g v = (withM r v).g := by
 refine sat_hid (t := T167 r.g v) (P := fun q => q = (withM r v).g) ?_
 obtain ⟨b1, b2, b3, b4, b5, -, -⟩ := a3_facts h
 obtain ⟨c1, c2⟩ := st_bits hv
 have hv' := inB_iff.1 hv
 have e1 : andI v 31 = v % 32 := andMask 5 _ (by omega) (by decide)
 have e2 : andI (shrI v 5) 7 = v / 32 % 8 := by rw [shr_div (n := 5) 5 rfl (by omega)]; exact andMask 3 _ (by omega) (by decide)
 unfold T167 withM
 simp only [sat_ok', sat_br, sat_leaf, y167_2, y167_1, y167_0, g_fr, g_fbus, g_fstop, g_ffault, r_D, r_A, r_Other, r_PC, r_Flags, r_Mask, r_Super, r_Trace, lenI_eq, ri_len, b1, b2, b3, b4, b5, c1, c2, e1, e2, ri_set, List.length_set, eqN_self, same_s, sameR_s, Bool.and_true, Bool.true_or, Bool.or_true, true_and]
 cases hs : eqI (v / 256 % 2) 1 <;> cases hp : r.sup <;> simp [eqB] <;> rfl
theorem with_ok {t v : Int} {r : RM} (h : r.Ok t) : (withM r v).Ok t := by
 have q := a3_rng h
 have t0 := h.t0
 have f : inB (v % 32) 0 31 = true := inB_iff.2 (by omega)
 have k : inB (v / 32 % 8) 0 (t - 65528) = true := inB_iff.2 (by omega)
 have o := inB_iff.1 h.ow
 unfold withM
 exact cpair (P := fun z => RM.Ok t z) (fun _ => ⟨h.t0, h.t1, h.d4, h.a4, h.dw, h.aw, h.ow, h.pw, f, k⟩) (fun _ => ⟨h.t0, h.t1, h.d4, by simpa using h.a4, h.dw, words_set h.aw o.1 o.2, inB_iff.2 q, h.pw, f, k⟩)
theorem status_m {t : Int} {r : RM} (h : r.Ok t) : k168 r.g = true ∧ g168 r.g = statusM r := by
 refine sat_hid (t := T168 r.g) (P := fun q => q = statusM r) ?_
 have f := inB_iff.1 h.fw
 have k := inB_iff.1 h.mw
 have t1 := h.t1
 have e1 : mulI 32 r.mask = 32 * r.mask := mulI_eq (by omega)
 have b1 : ∀ (b : Bool) (n : Int), (bif b then n else 0) = 0 ∨ (bif b then n else 0) = n := fun b n => by cases b <;> simp
 have c1 := b1 r.sup 256
 have c2 := b1 r.tr 512
 unfold T168 statusM
 simp only [sat_ok', sat_leaf, g_fr, g_fbus, g_fstop, g_ffault, r_D, r_A, r_Other, r_PC, r_Flags, r_Mask, r_Super, r_Trace, (flag_s _ _).1, (flag_s _ _).2, e1, eqN_self, same_s, sameR_s, Bool.and_true, Bool.true_or, Bool.or_true, true_and]
 rw [addI_eq (x := r.fl) (by omega), addI_eq (x := r.fl + 32 * r.mask) (by omega), addI_eq (by omega)]
theorem status_rng {t : Int} {r : RM} (h : r.Ok t) : 0 ≤ statusM r ∧ statusM r ≤ 65535 := by
 have f := inB_iff.1 h.fw
 have k := inB_iff.1 h.mw
 have t1 := h.t1
 have b1 : ∀ (b : Bool) (n : Int), (bif b then n else 0) = 0 ∨ (bif b then n else 0) = n := fun b n => by cases b <;> simp
 have c1 := b1 r.sup 256
 have c2 := b1 r.tr 512
 unfold statusM
 omega
noncomputable def oneV (x : GIns) (f v : Int) : Int × Int :=
 bif eqI x.Sub 1 then ((0 - v) % limO x.Size, subM x.Size 0 v) else bif eqI x.Sub 2 then (limO x.Size - 1 - v, g216 x.Size f (limO x.Size - 1 - v)) else (v, g216 x.Size f v)
def oneQ (m : MM) (x : GIns) : MM × Int × Int := bif eqI x.Sub 0 then ((splM m x.Size x.Ea).1, 0, (splM m x.Size x.Ea).2) else readM m x.Size x.Ea
noncomputable def one2 (x : GIns) (q : MM) (a : Int) (w : Int × Int) : MM :=
 bif !fine q then q else
 bif ltI x.Sub 3 then { writeM q x.Size x.Ea a w.1 with r := { (writeM q x.Size x.Ea a w.1).r with fl := w.2 } } else { q with r := { q.r with fl := w.2 } }
noncomputable def oneM (m : MM) (x : GIns) : MM := one2 x (oneQ m x).1 (oneQ m x).2.2 (oneV x (oneQ m x).1.r.fl (oneQ m x).2.1)
theorem kB_11 {x : GIns} (h : x.Op = 11) : kB x = bif (bif eqI x.Reg 0 then leI x.Sub 3 else false) then setB x.Ea.Mode else false := by
 unfold kB; rw [h]; rfl
theorem set_mode {m : Int} (h : setB m = true) : m = 0 ∨ (2 ≤ m ∧ m ≤ 6) := by
 unfold setB memB at h
 cases e : eqI m 0
 ·rw [e, cond_false, inB_iff] at h; exact Or.inr h
 ·exact Or.inl (eqI_iff.1 e)
theorem one_kind {x : GIns} (h : InsOk x) (h2 : x.Op = 11) : x.Sub ≤ 3 ∧ (x.Ea.Mode = 0 ∨ (2 ≤ x.Ea.Mode ∧ x.Ea.Mode ≤ 6)) := by
 have hk := h.kb
 rw [kB_11 h2] at hk
 cases e1 : eqI x.Reg 0
 ·rw [e1] at hk; simp at hk
 ·cases e2 : leI x.Sub 3
  ·rw [e1, e2] at hk; simp at hk
  ·rw [e1, e2] at hk
   exact ⟨leI_iff.1 e2, set_mode hk⟩
theorem oneQ_ok {t : Int} {m : MM} {x : GIns} (hm : m.Ok t) (h : InsOk x) (h2 : x.Op = 11) : (oneQ m x).1.Ok t ∧ valB x.Size (oneQ m x).2.1 = true ∧ inB (oneQ m x).2.2 0 65535 = true := by
 obtain ⟨k1, k2⟩ := one_kind h h2
 obtain ⟨p1, p2⟩ := spl_ok (s := x.Size) hm h.ho
 unfold oneQ
 exact cpair (P := fun z : MM × Int × Int => z.1.Ok t ∧ valB x.Size z.2.1 = true ∧ inB z.2.2 0 65535 = true) (fun _ => ⟨p1, val0 h.hs, p2⟩) (fun _ => read_ok hm h.hs h.ho (fun _ e => by omega) (fun _ e => by omega))
theorem oneV_ok {x : GIns} {f v : Int} (hs : x.Size = 1 ∨ x.Size = 2) (hf : inB f 0 31 = true) (hv : valB x.Size v = true) : valB x.Size (oneV x f v).1 = true ∧ inB (oneV x f v).2 0 31 = true := by
 unfold oneV
 refine cpair (P := fun z : Int × Int => valB x.Size z.1 = true ∧ inB z.2 0 31 = true) (fun _ => ⟨low_val hs, fl_rng _ _ _ _⟩) fun _ => ?_
 refine cpair (P := fun z : Int × Int => valB x.Size z.1 = true ∧ inB z.2 0 31 = true) (fun _ => ⟨?_, (logic_s hs hf).2⟩) fun _ => ⟨hv, (logic_s hs hf).2⟩
 have := lim_le hs hv
 rcases hs with e | e
 ·rw [e] at this hv ⊢
  have := this.2.2 rfl
  refine val_mk (Or.inl rfl) ?_ ?_ (fun _ => ?_) <;> (show _ ≤ _; simp only [limO, et 1 1, cond_true]; omega)
 ·rw [e]
  refine val_mk (Or.inr rfl) ?_ ?_ (fun h => absurd h (by decide)) <;> (show _ ≤ _; simp only [limO, ef 2 1, cond_false]; omega)
theorem one_ok {t : Int} {m : MM} {x : GIns} (hm : m.Ok t) (h : InsOk x) (h2 : x.Op = 11) : (oneM m x).Ok t := by
 obtain ⟨q1, q2, q3⟩ := oneQ_ok hm h h2
 obtain ⟨v1, v2⟩ := oneV_ok (f := (oneQ m x).1.r.fl) h.hs q1.r.fw q2
 have w := write_ok q1 h.hs h.ho q3 v1
 unfold oneM one2
 refine cpair (P := fun z => MM.Ok t z) (fun _ => q1) fun _ => cpair (P := fun z => MM.Ok t z) (fun _ => ⟨w.r.setF v2, w.b⟩) (fun _ => ⟨q1.r.setF v2, q1.b⟩)
theorem one_m {t : Int} {m : MM} {x : GIns} (hm : m.Ok t) (h : InsOk x) (h2 : x.Op = 11) : k217 x m.g = true ∧ g217 x m.g = (oneM m x).g := by
 refine sat_hid (t := T217 x m.g) (P := fun q => q = (oneM m x).g) ?_
 obtain ⟨k1, k2⟩ := one_kind h h2
 have hb := inB_iff.1 h.hb
 obtain ⟨q1, q2, q3⟩ := oneQ_ok hm h h2
 obtain ⟨v1, v2⟩ := oneV_ok (f := (oneQ m x).1.r.fl) h.hs q1.r.fw q2
 obtain ⟨w1, w2⟩ := write_m q1 h.hs h.ho q3 v1
 have lg : ∀ v, k216 x.Size (oneQ m x).1.r.fl v = true := fun v => (logic_s h.hs q1.r.fw).1
 obtain ⟨b1, b2⟩ := subP_s (s := x.Size) (a := 0) (val0 h.hs) q2
 have lv := lim_le h.hs q2
 have lr := lim_rng h.hs
 have e3 : subI (limO x.Size) 1 = limO x.Size - 1 := subI_eq (by omega)
 have e4 : subI (limO x.Size - 1) (oneQ m x).2.1 = limO x.Size - 1 - (oneQ m x).2.1 := subI_eq (by omega)
 obtain ⟨r1, r2⟩ := read_m hm h.hs h.ho
 obtain ⟨p1, p2⟩ := spl_m (s := x.Size) hm h.ho
 unfold T217 oneM
 have hsub : x.Sub = 0 ∨ x.Sub = 1 ∨ x.Sub = 2 ∨ x.Sub = 3 := by omega
 rcases hsub with e | e | e | e
 ·have hq : oneQ m x = ((splM m x.Size x.Ea).1, 0, (splM m x.Size x.Ea).2) := by unfold oneQ; rw [e]; rfl
  have hv : oneV x (oneQ m x).1.r.fl (oneQ m x).2.1 = ((oneQ m x).2.1, g216 x.Size (oneQ m x).1.r.fl (oneQ m x).2.1) := by unfold oneV; rw [e]; rfl
  have l3 : ltI x.Sub 3 = true := by rw [e]; rfl
  rw [hv] at v1 w1 w2 ⊢
  rw [hq] at b1 b2 e4 w1 w2 lg ⊢
  dsimp only at b1 b2 e4 w1 w2 lg ⊢
  unfold one2
  cases hfi : eqI ((splM m x.Size x.Ea).1).f.Vector 0
  ·simp only [sat_ok', sat_br, sat_leaf, y217_26, y217_25, y217_24, y217_23, y217_22, y217_21, y217_20, y217_19, y217_18, y217_17, y217_16, y217_15, y217_14, y217_13, y217_12, y217_11, y217_10, y217_9, y217_8, y217_7, y217_6, y217_5, y217_4, y217_3, y217_2, y217_1, y217_0, g_fr, g_fbus, g_fstop, g_ffault, r_D, r_A, r_Other, r_PC, r_Flags, r_Mask, r_Super, r_Trace, r1, r2, p1, p2, fine_s, fine, hfi, e, et 0 0, ef 0 1, ef 0 2, ef 0 3, Bool.not_false, cond_true, cond_false, eqN_self, same_s, sameR_s, Bool.and_true, Bool.true_or, Bool.or_true, true_and, forall_const, q_1, q_2, false_implies, and_true, implies_true]
  ·simp only [sat_ok', sat_br, sat_leaf, y217_26, y217_25, y217_24, y217_23, y217_22, y217_21, y217_20, y217_19, y217_18, y217_17, y217_16, y217_15, y217_14, y217_13, y217_12, y217_11, y217_10, y217_9, y217_8, y217_7, y217_6, y217_5, y217_4, y217_3, y217_2, y217_1, y217_0, g_fr, g_fbus, g_fstop, g_ffault, r_D, r_A, r_Other, r_PC, r_Flags, r_Mask, r_Super, r_Trace, set_flg, set_r, r1, r2, p1, p2, fine_s, fine, hfi, e, et 0 0, ef 0 1, ef 0 2, ef 0 3, (lim_s h.hs).1, (lim_s h.hs).2, b1, b2, lg, e3, e4, w1, w2, l3, show ltI 0 3 = true from rfl, Bool.not_true, Bool.not_false, cond_true, cond_false, eqN_self, same_s, sameR_s, Bool.and_true, Bool.true_or, Bool.or_true, true_and, forall_const, q_1, q_2, false_implies, and_true, implies_true]
 ·have hq : oneQ m x = readM m x.Size x.Ea := by unfold oneQ; rw [e]; rfl
  have hv : oneV x (oneQ m x).1.r.fl (oneQ m x).2.1 = ((0 - (oneQ m x).2.1) % limO x.Size, subM x.Size 0 (oneQ m x).2.1) := by unfold oneV; rw [e]; rfl
  have l3 : ltI x.Sub 3 = true := by rw [e]; rfl
  rw [hv] at v1 w1 w2 ⊢
  rw [hq] at b1 b2 e4 w1 w2 lg ⊢
  dsimp only at b1 b2 e4 w1 w2 lg ⊢
  unfold one2
  cases hfi : eqI ((readM m x.Size x.Ea).1).f.Vector 0
  ·simp only [sat_ok', sat_br, sat_leaf, y217_26, y217_25, y217_24, y217_23, y217_22, y217_21, y217_20, y217_19, y217_18, y217_17, y217_16, y217_15, y217_14, y217_13, y217_12, y217_11, y217_10, y217_9, y217_8, y217_7, y217_6, y217_5, y217_4, y217_3, y217_2, y217_1, y217_0, g_fr, g_fbus, g_fstop, g_ffault, r_D, r_A, r_Other, r_PC, r_Flags, r_Mask, r_Super, r_Trace, r1, r2, p1, p2, fine_s, fine, hfi, e, ef 1 0, et 1 1, ef 1 2, ef 1 3, Bool.not_false, cond_true, cond_false, eqN_self, same_s, sameR_s, Bool.and_true, Bool.true_or, Bool.or_true, true_and, forall_const, q_1, q_2, false_implies, and_true, implies_true]
  ·simp only [sat_ok', sat_br, sat_leaf, y217_26, y217_25, y217_24, y217_23, y217_22, y217_21, y217_20, y217_19, y217_18, y217_17, y217_16, y217_15, y217_14, y217_13, y217_12, y217_11, y217_10, y217_9, y217_8, y217_7, y217_6, y217_5, y217_4, y217_3, y217_2, y217_1, y217_0, g_fr, g_fbus, g_fstop, g_ffault, r_D, r_A, r_Other, r_PC, r_Flags, r_Mask, r_Super, r_Trace, set_flg, set_r, r1, r2, p1, p2, fine_s, fine, hfi, e, ef 1 0, et 1 1, ef 1 2, ef 1 3, (lim_s h.hs).1, (lim_s h.hs).2, b1, b2, lg, e3, e4, w1, w2, l3, show ltI 1 3 = true from rfl, Bool.not_true, Bool.not_false, cond_true, cond_false, eqN_self, same_s, sameR_s, Bool.and_true, Bool.true_or, Bool.or_true, true_and, forall_const, q_1, q_2, false_implies, and_true, implies_true]
 ·have hq : oneQ m x = readM m x.Size x.Ea := by unfold oneQ; rw [e]; rfl
  have hv : oneV x (oneQ m x).1.r.fl (oneQ m x).2.1 = (limO x.Size - 1 - (oneQ m x).2.1, g216 x.Size (oneQ m x).1.r.fl (limO x.Size - 1 - (oneQ m x).2.1)) := by unfold oneV; rw [e]; rfl
  have l3 : ltI x.Sub 3 = true := by rw [e]; rfl
  rw [hv] at v1 w1 w2 ⊢
  rw [hq] at b1 b2 e4 w1 w2 lg ⊢
  dsimp only at b1 b2 e4 w1 w2 lg ⊢
  unfold one2
  cases hfi : eqI ((readM m x.Size x.Ea).1).f.Vector 0
  ·simp only [sat_ok', sat_br, sat_leaf, y217_26, y217_25, y217_24, y217_23, y217_22, y217_21, y217_20, y217_19, y217_18, y217_17, y217_16, y217_15, y217_14, y217_13, y217_12, y217_11, y217_10, y217_9, y217_8, y217_7, y217_6, y217_5, y217_4, y217_3, y217_2, y217_1, y217_0, g_fr, g_fbus, g_fstop, g_ffault, r_D, r_A, r_Other, r_PC, r_Flags, r_Mask, r_Super, r_Trace, r1, r2, p1, p2, fine_s, fine, hfi, e, ef 2 0, ef 2 1, et 2 2, ef 2 3, Bool.not_false, cond_true, cond_false, eqN_self, same_s, sameR_s, Bool.and_true, Bool.true_or, Bool.or_true, true_and, forall_const, q_1, q_2, false_implies, and_true, implies_true]
  ·simp only [sat_ok', sat_br, sat_leaf, y217_26, y217_25, y217_24, y217_23, y217_22, y217_21, y217_20, y217_19, y217_18, y217_17, y217_16, y217_15, y217_14, y217_13, y217_12, y217_11, y217_10, y217_9, y217_8, y217_7, y217_6, y217_5, y217_4, y217_3, y217_2, y217_1, y217_0, g_fr, g_fbus, g_fstop, g_ffault, r_D, r_A, r_Other, r_PC, r_Flags, r_Mask, r_Super, r_Trace, set_flg, set_r, r1, r2, p1, p2, fine_s, fine, hfi, e, ef 2 0, ef 2 1, et 2 2, ef 2 3, (lim_s h.hs).1, (lim_s h.hs).2, b1, b2, lg, e3, e4, w1, w2, l3, show ltI 2 3 = true from rfl, Bool.not_true, Bool.not_false, cond_true, cond_false, eqN_self, same_s, sameR_s, Bool.and_true, Bool.true_or, Bool.or_true, true_and, forall_const, q_1, q_2, false_implies, and_true, implies_true]
 ·have hq : oneQ m x = readM m x.Size x.Ea := by unfold oneQ; rw [e]; rfl
  have hv : oneV x (oneQ m x).1.r.fl (oneQ m x).2.1 = ((oneQ m x).2.1, g216 x.Size (oneQ m x).1.r.fl (oneQ m x).2.1) := by unfold oneV; rw [e]; rfl
  have l3 : ltI x.Sub 3 = false := by rw [e]; rfl
  rw [hv] at v1 w1 w2 ⊢
  rw [hq] at b1 b2 e4 w1 w2 lg ⊢
  dsimp only at b1 b2 e4 w1 w2 lg ⊢
  unfold one2
  cases hfi : eqI ((readM m x.Size x.Ea).1).f.Vector 0
  ·simp only [sat_ok', sat_br, sat_leaf, y217_26, y217_25, y217_24, y217_23, y217_22, y217_21, y217_20, y217_19, y217_18, y217_17, y217_16, y217_15, y217_14, y217_13, y217_12, y217_11, y217_10, y217_9, y217_8, y217_7, y217_6, y217_5, y217_4, y217_3, y217_2, y217_1, y217_0, g_fr, g_fbus, g_fstop, g_ffault, r_D, r_A, r_Other, r_PC, r_Flags, r_Mask, r_Super, r_Trace, r1, r2, p1, p2, fine_s, fine, hfi, e, ef 3 0, ef 3 1, ef 3 2, et 3 3, Bool.not_false, cond_true, cond_false, eqN_self, same_s, sameR_s, Bool.and_true, Bool.true_or, Bool.or_true, true_and, forall_const, q_1, q_2, false_implies, and_true, implies_true]
  ·simp only [sat_ok', sat_br, sat_leaf, y217_26, y217_25, y217_24, y217_23, y217_22, y217_21, y217_20, y217_19, y217_18, y217_17, y217_16, y217_15, y217_14, y217_13, y217_12, y217_11, y217_10, y217_9, y217_8, y217_7, y217_6, y217_5, y217_4, y217_3, y217_2, y217_1, y217_0, g_fr, g_fbus, g_fstop, g_ffault, r_D, r_A, r_Other, r_PC, r_Flags, r_Mask, r_Super, r_Trace, set_flg, set_r, r1, r2, p1, p2, fine_s, fine, hfi, e, ef 3 0, ef 3 1, ef 3 2, et 3 3, (lim_s h.hs).1, (lim_s h.hs).2, b1, b2, lg, e3, e4, w1, w2, l3, show ltI 3 3 = false from rfl, Bool.not_true, Bool.not_false, cond_true, cond_false, eqN_self, same_s, sameR_s, Bool.and_true, Bool.true_or, Bool.or_true, true_and, forall_const, q_1, q_2, false_implies, and_true, implies_true]
end Go.Proofs.YtdipcnijfkdnfaaGreatStack

namespace Go.Proofs.YtdipcnijfkdnfaaGreatStack
open Go Go.Zq
set_option maxHeartbeats 4000000
set_option maxRecDepth 100000
theorem flags_i (f : Int) : k170 f = true ∧ g170 f = inB f 0 31 := by
 refine sat_hid (t := T170 f) (P := fun r => r = inB f 0 31) ?_
 unfold T170
 simp only [sat_ok', sat_leaf, within_g, within_k, Bool.and_true, true_and]
theorem flags_s (f : Int) : k207 f = true ∧ g207 f = inB f 0 31 := by
 refine sat_hid (t := T207 f) (P := fun r => r = inB f 0 31) ?_
 unfold T207
 simp only [sat_ok', sat_leaf, l1In_g, l1In_k, Bool.and_true, true_and]
theorem exw_s (a : Int) : k256 a = true ∧ g256 a = (bif valB 1 a then (andI (sgn 1 a) 65535, true) else (0, false)) := by
 refine sat_hid (t := T256 a) (P := fun r => r = (bif valB 1 a then (andI (sgn 1 a) 65535, true) else (0, false))) ?_
 unfold T256
 simp only [sat_ok', sat_br, sat_leaf, (val_s _ _).1, (val_s _ _).2, Bool.and_true, true_and]
 cases ha : valB 1 a
 ·simp
 ·obtain ⟨-, h0, h1⟩ := val_of ha
  obtain ⟨p1, p2⟩ := sgn_s (s := 1) (v := a) (Or.inl rfl) h0 (by unfold limO at h1; rw [et 1 1, cond_true] at h1; omega)
  rw [p1, p2]; simp
def swapR (a : Int) : Int × Bool := bif inB a 0 65535 then (orI (shrI a 8) (shlI (andI a 255) 8), true) else (0, false)
theorem swap_s (a : Int) : k254 a = true ∧ g254 a = swapR a := by
 refine sat_hid (t := T254 a) (P := fun r => r = swapR a) ?_
 unfold T254 swapR
 have e : valB 2 a = inB a 0 65535 := rfl
 simp only [sat_ok', sat_br, sat_leaf, (val_s _ _).1, (val_s _ _).2, e, Bool.and_true, true_and]
 cases inB a 0 65535 <;> simp
end Go.Proofs.YtdipcnijfkdnfaaGreatStack

namespace Go.Proofs.YtdipcnijfkdnfaaGreatStack
open Bool renaming and_true → qt
open Bool renaming true_eq_false → q_1
open Bool renaming false_eq_true → q_2
open Bool renaming true_or → q_3
open Bool renaming not_false → q_4
open Bool renaming not_true → q_5
open Bool renaming or_true → q_6
open Go Go.Zq
set_option maxHeartbeats 4000000
set_option maxRecDepth 100000
def swapV (v : Int) : Int := (swapR v).1
theorem swap_rng {v : Int} : 0 ≤ swapV v ∧ swapV v ≤ 65535 := by
 unfold swapV swapR
 cases h : inB v 0 65535
 ·exact ⟨Int.le_refl 0, (by decide : (0 : Int) ≤ 65535)⟩
 ·rw [inB_iff] at h
  rw [cond_true]
  have e1 : shrI v 8 = v / 256 := shr8
  have e2 : shlI (andI v 255) 8 = v % 256 * 256 := by rw [and255 h.1 (by omega), shl8 (by omega) (by omega)]
  show 0 ≤ orI (shrI v 8) (shlI (andI v 255) 8) ∧ orI (shrI v 8) (shlI (andI v 255) 8) ≤ 65535
  rw [e1, e2]
  exact (bits_and ⟨by omega, by omega⟩ ⟨by omega, by omega⟩).2.1
def extV (v : Int) : Int := andI (sgn 1 (v % 256)) 65535
theorem ext_rng {v : Int} : 0 ≤ extV v ∧ extV v ≤ 65535 := by
 unfold extV
 rw [and16]
 exact mod16 _
noncomputable def flowM (m : MM) (x : GIns) : MM :=
 bif eqI x.Sub 0 then { (popM m).1 with r := { (popM m).1.r with pc := (popM m).2 } }
 else bif eqI x.Sub 1 then
  (bif !fine (popM m).1 then (popM m).1 else
   bif fine (popM (popM m).1).1 then { (popM (popM m).1).1 with r := withM { (popM (popM m).1).1.r with pc := (popM (popM m).1).2 } ((popM m).2 % 1024) } else (popM (popM m).1).1)
 else bif eqI x.Sub 3 then { m with r := withM m.r x.Ea.Ext, stop := true }
 else bif eqI x.Sub 4 then raiseM m (18 + x.Reg)
 else bif eqI x.Sub 5 then dataM m 2 x.Reg (swapV (dat m.r.d x.Reg))
 else bif eqI x.Sub 6 then dataM m 2 x.Reg (extV (dat m.r.d x.Reg)) else m
theorem kB_15b {x : GIns} (h : x.Op = 15) : kB x = flowB x := kB_15 x h
theorem flow_kind {x : GIns} (h : InsOk x) (h2 : x.Op = 15) : x.Sub = 3 → x.Ea.Ext ≤ 1023 := by
 intro e
 have hk := h.kb
 rw [kB_15b h2] at hk
 unfold flowB at hk
 rw [e] at hk
 simp only [show gtI 3 6 = false from rfl, et 3 3, cond_true] at hk
 cases e1 : neI x.Size 2
 ·rw [e1] at hk
  simp only [cond_false] at hk
  cases e2 : eqI x.Reg 0
  ·rw [e2] at hk; simp at hk
  ·rw [e2, cond_true] at hk
   unfold nowB at hk
   cases e3 : eqI x.Ea.Mode 7
   ·rw [e3] at hk; simp at hk
   ·rw [e3, cond_true, leI_iff] at hk; exact hk
 ·rw [e1] at hk; simp at hk
theorem h22 : (2 : Int) = 1 ∨ (2 : Int) = 2 := Or.inr rfl
theorem not21 {P : Prop} : (2 : Int) = 1 → P := fun h => absurd h (by decide)
theorem flow_ok {t : Int} {m : MM} {x : GIns} (hm : m.Ok t) (h : InsOk x) : (flowM m x).Ok t := by
 obtain ⟨p1, p2, p3⟩ := pop_ok hm
 obtain ⟨q1, q2, q3⟩ := pop_ok p1
 have t0 := hm.r.t0
 have s := swap_rng (v := dat m.r.d x.Reg)
 have e := ext_rng (v := dat m.r.d x.Reg)
 unfold flowM
 refine cpair (P := fun z => MM.Ok t z) (fun _ => ⟨p1.r.setP (inB_iff.2 ⟨p2, p3⟩), p1.b⟩) fun _ => ?_
 refine cpair (P := fun z => MM.Ok t z) (fun _ => cpair (P := fun z => MM.Ok t z) (fun _ => p1) fun _ => cpair (P := fun z => MM.Ok t z) (fun _ => ⟨with_ok (q1.r.setP (inB_iff.2 ⟨q2, q3⟩)), q1.b⟩) fun _ => q1) fun _ => ?_
 refine cpair (P := fun z => MM.Ok t z) (fun _ => ⟨with_ok hm.r, hm.b⟩) fun _ => ?_
 refine cpair (P := fun z => MM.Ok t z) (fun _ => ⟨hm.r, hm.b⟩) fun _ => ?_
 refine cpair (P := fun z => MM.Ok t z) (fun _ => data_ok hm h22 h.hr s.1 not21 (by omega)) fun _ => ?_
 exact cpair (P := fun z => MM.Ok t z) (fun _ => data_ok hm h22 h.hr e.1 not21 (by omega)) fun _ => hm
theorem flow_m {t : Int} {m : MM} {x : GIns} (hm : m.Ok t) (h : InsOk x) (h2 : x.Op = 15) : k221 x m.g = true ∧ g221 x m.g = (flowM m x).g := by
 refine sat_hid (t := T221 x m.g) (P := fun q => q = (flowM m x).g) ?_
 obtain ⟨p1, p2, p3⟩ := pop_ok hm
 obtain ⟨q1, q2, q3⟩ := pop_ok p1
 obtain ⟨a1, a2⟩ := pop_m hm
 obtain ⟨b1, b2⟩ := pop_m p1
 have hr := inB_iff.1 h.hr
 have c1 : andI (popM m).2 1023 = (popM m).2 % 1024 := andMask 10 _ (by omega) (by decide)
 have c0 : inB ((popM m).2 % 1024) 0 1023 = true := inB_iff.2 (by omega)
 obtain ⟨d1, d2⟩ := with_m (v := (popM m).2 % 1024) (q1.r.setP (inB_iff.2 ⟨q2, q3⟩)) c0
 have e1 : addI 18 x.Reg = 18 + x.Reg := addI_eq (by omega)
 obtain ⟨f1, f2⟩ := raise_m m (18 + x.Reg)
 obtain ⟨i1, i2, i3⟩ := dat_at hm.r.d4 h.hr
 obtain ⟨s1, s2, s3, s4, s5⟩ := set_at (v := 0) hm.r.d4 h.hr
 rw [Nat.zero_add] at s5
 obtain ⟨j1, j2⟩ := swap_s (dat m.r.d x.Reg)
 have sr := swap_rng (v := dat m.r.d x.Reg)
 obtain ⟨l1, l2⟩ := data_m (v := swapV (dat m.r.d x.Reg)) hm h22 h.hr not21
 obtain ⟨u1, u2⟩ := data_m (v := extV (dat m.r.d x.Reg)) hm h22 h.hr not21
 have dr := dat_in hm.r.dw hm.r.d4 h.hr
 have t1 := hm.r.t1
 have m8 : andI (dat m.r.d x.Reg) 255 = dat m.r.d x.Reg % 256 := and255 dr.1 (by omega)
 have v1 : valB 1 (dat m.r.d x.Reg % 256) = true := low_val (s := 1) (Or.inl rfl)
 obtain ⟨w1, w2⟩ := exw_s (dat m.r.d x.Reg % 256)
 rw [v1, cond_true] at w2
 unfold T221 flowM
 unfold swapV at l1 l2
 unfold extV at u1 u2
 have hsub : x.Sub = 0 ∨ x.Sub = 1 ∨ x.Sub = 2 ∨ x.Sub = 3 ∨ x.Sub = 4 ∨ x.Sub = 5 ∨ x.Sub = 6 ∨ x.Sub = 7 := by have := inB_iff.1 h.hb; omega
 rcases hsub with e | e | e | e | e | e | e | e
 ·simp only [sat_ok', sat_br, sat_leaf, y221_28, y221_27, y221_26, y221_25, y221_24, y221_23, y221_22, y221_21, y221_20, y221_19, y221_18, y221_17, y221_16, y221_15, y221_14, y221_13, y221_12, y221_11, y221_10, y221_9, y221_8, y221_7, y221_6, y221_5, y221_4, y221_3, y221_2, y221_1, y221_0, g_fr, g_fbus, g_fstop, g_ffault, r_D, r_A, r_Other, r_PC, r_Flags, r_Mask, r_Super, r_Trace, Nat.zero_add, lenI_eq, ri_len, set_pc, set_flg, set_r, fine_s, e, et 0 0, ef 0 1, ef 0 2, ef 0 3, ef 0 4, ef 0 5, ef 0 6, ef 0 7, q_5, q_4, cond_true, cond_false, eqN_self, same_s, sameR_s, qt, q_3, q_6, true_and, forall_const, q_1, q_2, false_implies, and_true, implies_true, a1, a2]
 ·cases hf : eqI (popM m).1.f.Vector 0
  ·simp only [sat_ok', sat_br, sat_leaf, y221_28, y221_27, y221_26, y221_25, y221_24, y221_23, y221_22, y221_21, y221_20, y221_19, y221_18, y221_17, y221_16, y221_15, y221_14, y221_13, y221_12, y221_11, y221_10, y221_9, y221_8, y221_7, y221_6, y221_5, y221_4, y221_3, y221_2, y221_1, y221_0, g_fr, g_fbus, g_fstop, g_ffault, r_D, r_A, r_Other, r_PC, r_Flags, r_Mask, r_Super, r_Trace, Nat.zero_add, lenI_eq, ri_len, set_pc, set_flg, set_r, fine_s, e, ef 1 0, et 1 1, ef 1 2, ef 1 3, ef 1 4, ef 1 5, ef 1 6, ef 1 7, q_5, q_4, cond_true, cond_false, eqN_self, same_s, sameR_s, qt, q_3, q_6, true_and, forall_const, q_1, q_2, false_implies, and_true, implies_true, a1, a2, fine, hf]
  ·simp only [sat_ok', sat_br, sat_leaf, y221_28, y221_27, y221_26, y221_25, y221_24, y221_23, y221_22, y221_21, y221_20, y221_19, y221_18, y221_17, y221_16, y221_15, y221_14, y221_13, y221_12, y221_11, y221_10, y221_9, y221_8, y221_7, y221_6, y221_5, y221_4, y221_3, y221_2, y221_1, y221_0, g_fr, g_fbus, g_fstop, g_ffault, r_D, r_A, r_Other, r_PC, r_Flags, r_Mask, r_Super, r_Trace, Nat.zero_add, lenI_eq, ri_len, set_pc, set_flg, set_r, fine_s, e, ef 1 0, et 1 1, ef 1 2, ef 1 3, ef 1 4, ef 1 5, ef 1 6, ef 1 7, q_5, q_4, cond_true, cond_false, eqN_self, same_s, sameR_s, qt, q_3, q_6, true_and, forall_const, q_1, q_2, false_implies, and_true, implies_true, a1, a2, b1, b2, c1, d1, d2, fine, hf]
   refine ⟨fun q => ?_, fun q => ?_⟩
   ·rw [q]; rfl
   ·rw [q]; rfl
 ·simp only [sat_ok', sat_br, sat_leaf, y221_28, y221_27, y221_26, y221_25, y221_24, y221_23, y221_22, y221_21, y221_20, y221_19, y221_18, y221_17, y221_16, y221_15, y221_14, y221_13, y221_12, y221_11, y221_10, y221_9, y221_8, y221_7, y221_6, y221_5, y221_4, y221_3, y221_2, y221_1, y221_0, g_fr, g_fbus, g_fstop, g_ffault, r_D, r_A, r_Other, r_PC, r_Flags, r_Mask, r_Super, r_Trace, Nat.zero_add, lenI_eq, ri_len, set_pc, set_flg, set_r, fine_s, e, ef 2 0, ef 2 1, et 2 2, ef 2 3, ef 2 4, ef 2 5, ef 2 6, ef 2 7, q_5, q_4, cond_true, cond_false, eqN_self, same_s, sameR_s, qt, q_3, q_6, true_and, forall_const, q_1, q_2, false_implies, and_true, implies_true]
 ·obtain ⟨z1, z2⟩ := with_m (v := x.Ea.Ext) hm.r (inB_iff.2 ⟨(inB_iff.1 h.ho.he).1, flow_kind h h2 e⟩)
  simp only [sat_ok', sat_br, sat_leaf, y221_28, y221_27, y221_26, y221_25, y221_24, y221_23, y221_22, y221_21, y221_20, y221_19, y221_18, y221_17, y221_16, y221_15, y221_14, y221_13, y221_12, y221_11, y221_10, y221_9, y221_8, y221_7, y221_6, y221_5, y221_4, y221_3, y221_2, y221_1, y221_0, g_fr, g_fbus, g_fstop, g_ffault, r_D, r_A, r_Other, r_PC, r_Flags, r_Mask, r_Super, r_Trace, Nat.zero_add, lenI_eq, ri_len, set_pc, set_flg, set_r, fine_s, e, ef 3 0, ef 3 1, ef 3 2, et 3 3, ef 3 4, ef 3 5, ef 3 6, ef 3 7, q_5, q_4, cond_true, cond_false, eqN_self, same_s, sameR_s, qt, q_3, q_6, true_and, forall_const, q_1, q_2, false_implies, and_true, implies_true, z1, z2]
  rfl
 ·simp only [sat_ok', sat_br, sat_leaf, y221_28, y221_27, y221_26, y221_25, y221_24, y221_23, y221_22, y221_21, y221_20, y221_19, y221_18, y221_17, y221_16, y221_15, y221_14, y221_13, y221_12, y221_11, y221_10, y221_9, y221_8, y221_7, y221_6, y221_5, y221_4, y221_3, y221_2, y221_1, y221_0, g_fr, g_fbus, g_fstop, g_ffault, r_D, r_A, r_Other, r_PC, r_Flags, r_Mask, r_Super, r_Trace, Nat.zero_add, lenI_eq, ri_len, set_pc, set_flg, set_r, fine_s, e, ef 4 0, ef 4 1, ef 4 2, ef 4 3, et 4 4, ef 4 5, ef 4 6, ef 4 7, q_5, q_4, cond_true, cond_false, eqN_self, same_s, sameR_s, qt, q_3, q_6, true_and, forall_const, q_1, q_2, false_implies, and_true, implies_true, e1, f1, f2]
 ·simp only [sat_ok', sat_br, sat_leaf, y221_28, y221_27, y221_26, y221_25, y221_24, y221_23, y221_22, y221_21, y221_20, y221_19, y221_18, y221_17, y221_16, y221_15, y221_14, y221_13, y221_12, y221_11, y221_10, y221_9, y221_8, y221_7, y221_6, y221_5, y221_4, y221_3, y221_2, y221_1, y221_0, g_fr, g_fbus, g_fstop, g_ffault, r_D, r_A, r_Other, r_PC, r_Flags, r_Mask, r_Super, r_Trace, Nat.zero_add, lenI_eq, ri_len, set_pc, set_flg, set_r, fine_s, e, ef 5 0, ef 5 1, ef 5 2, ef 5 3, ef 5 4, et 5 5, ef 5 6, ef 5 7, q_5, q_4, cond_true, cond_false, eqN_self, same_s, sameR_s, qt, q_3, q_6, true_and, forall_const, q_1, q_2, false_implies, and_true, implies_true, i2, s3, s4, s5, j1, j2, l1, l2, swapV]
 ·simp only [sat_ok', sat_br, sat_leaf, y221_28, y221_27, y221_26, y221_25, y221_24, y221_23, y221_22, y221_21, y221_20, y221_19, y221_18, y221_17, y221_16, y221_15, y221_14, y221_13, y221_12, y221_11, y221_10, y221_9, y221_8, y221_7, y221_6, y221_5, y221_4, y221_3, y221_2, y221_1, y221_0, g_fr, g_fbus, g_fstop, g_ffault, r_D, r_A, r_Other, r_PC, r_Flags, r_Mask, r_Super, r_Trace, Nat.zero_add, lenI_eq, ri_len, set_pc, set_flg, set_r, fine_s, e, ef 6 0, ef 6 1, ef 6 2, ef 6 3, ef 6 4, ef 6 5, et 6 6, ef 6 7, q_5, q_4, cond_true, cond_false, eqN_self, same_s, sameR_s, qt, q_3, q_6, true_and, forall_const, q_1, q_2, false_implies, and_true, implies_true, i2, s3, s4, s5, m8, w1, w2, u1, u2, extV]
 ·simp only [sat_ok', sat_br, sat_leaf, y221_28, y221_27, y221_26, y221_25, y221_24, y221_23, y221_22, y221_21, y221_20, y221_19, y221_18, y221_17, y221_16, y221_15, y221_14, y221_13, y221_12, y221_11, y221_10, y221_9, y221_8, y221_7, y221_6, y221_5, y221_4, y221_3, y221_2, y221_1, y221_0, g_fr, g_fbus, g_fstop, g_ffault, r_D, r_A, r_Other, r_PC, r_Flags, r_Mask, r_Super, r_Trace, Nat.zero_add, lenI_eq, ri_len, set_pc, set_flg, set_r, fine_s, e, ef 7 0, ef 7 1, ef 7 2, ef 7 3, ef 7 4, ef 7 5, ef 7 6, et 7 7, q_5, q_4, cond_true, cond_false, eqN_self, same_s, sameR_s, qt, q_3, q_6, true_and, forall_const, q_1, q_2, false_implies, and_true, implies_true]
noncomputable def prodM (m : MM) (x : GIns) (v : Int) : MM :=
 bif eqI x.Op 16 then { dataM m 2 x.Reg (dat m.r.d x.Reg * v % 65536) with r := { (dataM m 2 x.Reg (dat m.r.d x.Reg * v % 65536)).r with fl := orI (dataM m 2 x.Reg (dat m.r.d x.Reg * v % 65536)).r.fl (bif gtI (dat m.r.d x.Reg * v) 65535 then 2 else 0) } }
 else bif eqI v 0 then raiseM m 5 else dataM m 2 x.Reg (dat m.r.d x.Reg / v)
noncomputable def productM (m : MM) (x : GIns) : MM := bif !fine (readM m 2 x.Ea).1 then (readM m 2 x.Ea).1 else prodM (readM m 2 x.Ea).1 x (readM m 2 x.Ea).2.1
theorem div_rng {d v : Int} (h0 : 0 ≤ d) (h1 : 0 < v) (h2 : d ≤ 65536) : quoI d v = d / v ∧ 0 ≤ d / v ∧ d / v ≤ d := by
 have e := Int.tdiv_eq_ediv_of_nonneg (b := v) h0
 have p : 0 ≤ d / v := Int.ediv_nonneg h0 (by omega)
 have q : d / v ≤ d := Int.ediv_le_self _ h0
 refine ⟨?_, p, q⟩
 unfold quoI
 rw [e, IntKind.wrap_i64]
 omega
theorem mul_rng {d v : Int} (h0 : 0 ≤ d) (h1 : d ≤ 65536) (h2 : 0 ≤ v) (h3 : v ≤ 65535) : mulI d v = d * v ∧ 0 ≤ d * v := by
 have a := Int.mul_nonneg h0 h2
 have b : d * v ≤ 65536 * 65535 := Int.mul_le_mul h1 h3 h2 (by decide)
 exact ⟨mulI_eq (by omega), a⟩
theorem data_fl {t s k v : Int} {m : MM} (hm : m.Ok t) (hs : s = 1 ∨ s = 2) : inB (dataM m s k v).r.fl 0 31 = true := (logic_s (v := v) hs hm.r.fw).2
theorem product_ok {t : Int} {m : MM} {x : GIns} (hm : m.Ok t) (h : InsOk x) : (productM m x).Ok t := by
 obtain ⟨r1, r2, r3⟩ := read_ok hm h22 h.ho not21 not21
 have rv := val2_iff r2
 have dr := dat_in r1.r.dw r1.r.d4 h.hr
 have t1 := hm.r.t1
 have t0 := hm.r.t0
 unfold productM prodM
 refine cpair (P := fun z => MM.Ok t z) (fun _ => r1) fun _ => ?_
 refine cpair (P := fun z => MM.Ok t z) (fun _ => ?_) fun _ => cpair (P := fun z => MM.Ok t z) (fun _ => ⟨r1.r, r1.b⟩) fun hv => ?_
 ·have d := data_ok (v := dat (readM m 2 x.Ea).1.r.d x.Reg * (readM m 2 x.Ea).2.1 % 65536) r1 h22 h.hr (by omega) not21 (by omega)
  exact ⟨d.r.setF (or_rng (data_fl r1 h22) (bif_rng (by decide))), d.b⟩
 ·rw [eqI_f] at hv
  obtain ⟨-, p, q⟩ := div_rng (v := (readM m 2 x.Ea).2.1) dr.1 (by omega) (by omega)
  exact data_ok r1 h22 h.hr p not21 (by omega)
theorem product_m {t : Int} {m : MM} {x : GIns} (hm : m.Ok t) (h : InsOk x) : k222 x m.g = true ∧ g222 x m.g = (productM m x).g := by
 refine sat_hid (t := T222 x m.g) (P := fun q => q = (productM m x).g) ?_
 obtain ⟨r1, r2, r3⟩ := read_ok hm h22 h.ho not21 not21
 obtain ⟨a1, a2⟩ := read_m hm h22 h.ho
 unfold T222 productM
 generalize readM m 2 x.Ea = q at r1 r2 r3 a1 a2
 obtain ⟨q1, v, a⟩ := q
 dsimp only at r1 r2 r3 a1 a2 ⊢
 have rv := val2_iff r2
 have dr := dat_in r1.r.dw r1.r.d4 h.hr
 have t1 := hm.r.t1
 obtain ⟨i1, i2, i3⟩ := dat_at r1.r.d4 h.hr
 obtain ⟨s1, s2, s3, s4, s5⟩ := set_at (v := 0) r1.r.d4 h.hr
 rw [Nat.zero_add] at s5
 obtain ⟨e1, e2⟩ := mul_rng dr.1 (by omega) rv.1 rv.2
 obtain ⟨b1, b2⟩ := data_m (v := dat q1.r.d x.Reg * v % 65536) r1 h22 h.hr not21
 obtain ⟨c1, c2⟩ := raise_m q1 5
 cases hf : eqI q1.f.Vector 0
 ·simp only [sat_ok', sat_br, sat_leaf, y222_18, y222_17, y222_16, y222_15, y222_14, y222_13, y222_12, y222_11, y222_10, y222_9, y222_8, y222_7, y222_6, y222_5, y222_4, y222_3, y222_2, y222_1, y222_0, g_fr, g_fbus, g_fstop, g_ffault, r_D, r_A, r_Other, r_PC, r_Flags, r_Mask, r_Super, r_Trace, a1, a2, fine_s, fine, hf, q_5, q_4, cond_true, cond_false, eqN_self, same_s, sameR_s, qt, q_3, q_6, true_and, forall_const, q_1, q_2, false_implies, and_true, implies_true]
 ·unfold prodM
  cases ho : eqI x.Op 16
  ·cases hv : eqI v 0
   ·have hv' := hv
    rw [eqI_f] at hv'
    obtain ⟨d1, d2, d3⟩ := div_rng (v := v) dr.1 (by omega) (by omega)
    obtain ⟨j1, j2⟩ := data_m (v := dat q1.r.d x.Reg / v) r1 h22 h.hr not21
    have nz : neI v 0 = true := neI_iff.2 hv'
    simp only [sat_ok', sat_br, sat_leaf, y222_18, y222_17, y222_16, y222_15, y222_14, y222_13, y222_12, y222_11, y222_10, y222_9, y222_8, y222_7, y222_6, y222_5, y222_4, y222_3, y222_2, y222_1, y222_0, g_fr, g_fbus, g_fstop, g_ffault, r_D, r_A, r_Other, r_PC, r_Flags, r_Mask, r_Super, r_Trace, Nat.zero_add, lenI_eq, ri_len, a1, a2, fine_s, fine, hf, ho, hv, nz, i2, s3, s4, s5, d1, j1, j2, q_5, q_4, cond_true, cond_false, eqN_self, same_s, sameR_s, qt, q_3, q_6, true_and, forall_const, q_1, q_2, false_implies, and_true, implies_true]
   ·simp only [sat_ok', sat_br, sat_leaf, y222_18, y222_17, y222_16, y222_15, y222_14, y222_13, y222_12, y222_11, y222_10, y222_9, y222_8, y222_7, y222_6, y222_5, y222_4, y222_3, y222_2, y222_1, y222_0, g_fr, g_fbus, g_fstop, g_ffault, r_D, r_A, r_Other, r_PC, r_Flags, r_Mask, r_Super, r_Trace, Nat.zero_add, lenI_eq, ri_len, a1, a2, fine_s, fine, hf, ho, hv, i2, s3, s4, s5, c1, c2, q_5, q_4, cond_true, cond_false, eqN_self, same_s, sameR_s, qt, q_3, q_6, true_and, forall_const, q_1, q_2, false_implies, and_true, implies_true]
  ·simp only [sat_ok', sat_br, sat_leaf, y222_18, y222_17, y222_16, y222_15, y222_14, y222_13, y222_12, y222_11, y222_10, y222_9, y222_8, y222_7, y222_6, y222_5, y222_4, y222_3, y222_2, y222_1, y222_0, g_fr, g_fbus, g_fstop, g_ffault, r_D, r_A, r_Other, r_PC, r_Flags, r_Mask, r_Super, r_Trace, Nat.zero_add, lenI_eq, ri_len, a1, a2, fine_s, fine, hf, ho, i2, s3, s4, s5, e1, and16, b1, b2, (flag_s _ _).1, (flag_s _ _).2, q_5, q_4, cond_true, cond_false, eqN_self, same_s, sameR_s, qt, q_3, q_6, true_and, forall_const, q_1, q_2, false_implies, and_true, implies_true]
   rfl
theorem bcd_k (v : Int) : k257 v = true ∧ g257 v = (bif (bif inB v 0 255 then leI (shrI v 4) 9 else false) then leI (andI v 15) 9 else false) := by
 refine sat_hid (t := T257 v) (P := fun q => q = (bif (bif inB v 0 255 then leI (shrI v 4) 9 else false) then leI (andI v 15) 9 else false)) ?_
 unfold T257
 simp only [sat_ok', sat_leaf, l1In_g, l1In_k, eqN_self, same_s, sameR_s, qt, q_3, q_6, true_and]
def Bcd (v : Int) : Prop := 0 ≤ v / 16 ∧ v / 16 ≤ 9 ∧ 0 ≤ v % 16 ∧ v % 16 ≤ 9
theorem bcd_of {v : Int} (h : g257 v = true) : Bcd v := by
 rw [(bcd_k v).2] at h
 have e1 : shrI v 4 = v / 16 := shr_div (n := 4) 4 rfl (by omega)
 have e2 : andI v 15 = v % 16 := andMask 4 _ (by omega) (by decide)
 rw [e1, e2] at h
 cases h1 : inB v 0 255
 ·rw [h1] at h; simp at h
 ·cases h2 : leI (v / 16) 9
  ·rw [h1, h2] at h; simp at h
  ·rw [h1, h2] at h
   simp only [cond_true, leI_iff] at h
   rw [leI_iff] at h2
   rw [inB_iff] at h1
   unfold Bcd
   omega
theorem num_s {v : Int} (h : Bcd v) : k280 v = true ∧ g280 v = v / 16 * 10 + v % 16 := by
 refine sat_hid (t := T280 v) (P := fun q => q = v / 16 * 10 + v % 16) ?_
 have e1 : shrI v 4 = v / 16 := shr_div (n := 4) 4 rfl (by omega)
 have e2 : andI v 15 = v % 16 := andMask 4 _ (by omega) (by decide)
 obtain ⟨h1, h2, h3, h4⟩ := h
 unfold T280
 simp only [sat_ok', sat_leaf, e1, e2, true_and]
 rw [mulI_eq (by omega), addI_eq (by omega)]
theorem of_s {n : Int} (h0 : 0 ≤ n) (h1 : n ≤ 99) : k281 n = true ∧ (0 ≤ g281 n ∧ g281 n ≤ 255) := by
 refine sat_hid (t := T281 n) (P := fun q => 0 ≤ q ∧ q ≤ 255) ?_
 have key : ∀ n : Fin 100, 0 ≤ orI (shlI (quoI (n.val : Int) 10) 4) (remI (n.val : Int) 10) ∧ orI (shlI (quoI (n.val : Int) 10) 4) (remI (n.val : Int) 10) ≤ 255 := by decide +kernel
 obtain ⟨n, rfl⟩ := Int.eq_ofNat_of_zero_le h0
 unfold T281
 simp only [sat_ok', sat_leaf, show neI 10 0 = true from rfl, show leI 0 4 = true from rfl, eqN_self, same_s, sameR_s, qt, q_3, q_6, true_and]
 exact key ⟨n, by omega⟩
def BR (r : Int × Int) : Prop := (0 ≤ r.1 ∧ r.1 ≤ 255) ∧ Bit r.2
theorem l2add_s {c a b : Int} (hc : Bit c) (ha : Bcd a) (hb : Bcd b) : k258 c a b = true ∧ BR (g258 c a b) := by
 refine sat_hid (t := T258 c a b) (P := fun q => BR q) ?_
 obtain ⟨a1, a2⟩ := num_s ha
 obtain ⟨b1, b2⟩ := num_s hb
 obtain ⟨h1, h2, h3, h4⟩ := ha
 obtain ⟨h5, h6, h7, h8⟩ := hb
 have hc' : 0 ≤ c ∧ c ≤ 1 := by rcases hc with rfl | rfl <;> decide
 have e1 : addI (addI (a / 16 * 10 + a % 16) (b / 16 * 10 + b % 16)) c = a / 16 * 10 + a % 16 + (b / 16 * 10 + b % 16) + c := by rw [addI_eq (x := a / 16 * 10 + a % 16) (by omega), addI_eq (by omega)]
 obtain ⟨n, hn⟩ : ∃ n : Int, n = a / 16 * 10 + a % 16 + (b / 16 * 10 + b % 16) + c := ⟨_, rfl⟩
 rw [← hn] at e1
 have n0 : 0 ≤ n ∧ n ≤ 199 := by omega
 have e2 : remI n 100 = n % 100 := by unfold remI; exact Int.tmod_eq_emod_of_nonneg n0.1
 have e3 : quoI n 100 = n / 100 := by unfold quoI; rw [Int.tdiv_eq_ediv_of_nonneg n0.1, IntKind.wrap_i64]; omega
 obtain ⟨o1, o2⟩ := of_s (n := n % 100) (by omega) (by omega)
 unfold T258
 simp only [sat_ok', sat_leaf, y258_0, a1, a2, b1, b2, e1, e2, e3, o1, show neI 100 0 = true from rfl, eqN_self, same_s, sameR_s, qt, q_3, q_6, true_and]
 exact ⟨o2, by unfold Bit; dsimp only; omega⟩
theorem l2sub_s {c a b : Int} (hc : Bit c) (ha : Bcd a) (hb : Bcd b) : k259 c a b = true ∧ BR (g259 c a b) := by
 refine sat_hid (t := T259 c a b) (P := fun q => BR q) ?_
 obtain ⟨a1, a2⟩ := num_s ha
 obtain ⟨b1, b2⟩ := num_s hb
 obtain ⟨h1, h2, h3, h4⟩ := ha
 obtain ⟨h5, h6, h7, h8⟩ := hb
 have hc' : 0 ≤ c ∧ c ≤ 1 := by rcases hc with rfl | rfl <;> decide
 have e1 : subI (subI (a / 16 * 10 + a % 16) (b / 16 * 10 + b % 16)) c = a / 16 * 10 + a % 16 - (b / 16 * 10 + b % 16) - c := by rw [subI_eq (x := a / 16 * 10 + a % 16) (by omega), subI_eq (by omega)]
 obtain ⟨n, hn⟩ : ∃ n : Int, n = a / 16 * 10 + a % 16 - (b / 16 * 10 + b % 16) - c := ⟨_, rfl⟩
 rw [← hn] at e1
 have n0 : -100 ≤ n ∧ n ≤ 99 := by omega
 have e2 : addI n 100 = n + 100 := addI_eq (by omega)
 unfold T259
 simp only [sat_ok', sat_br, sat_leaf, y259_0, a1, a2, b1, b2, e1, e2, ltI_iff, ltI_f, eqN_self, same_s, sameR_s, qt, q_3, q_6, true_and]
 refine ⟨fun h => ?_, fun h => ?_⟩
 ·obtain ⟨o1, o2⟩ := of_s (n := n + 100) (by omega) (by omega)
  exact ⟨o1, o2, Or.inr rfl⟩
 ·obtain ⟨o1, o2⟩ := of_s (n := n) (by omega) (by omega)
  exact ⟨o1, o2, Or.inl rfl⟩
end Go.Proofs.YtdipcnijfkdnfaaGreatStack

namespace Go.Proofs.YtdipcnijfkdnfaaGreatStack
open Bool renaming true_eq_false → q_1
open Bool renaming false_eq_true → q_2
open Go Go.Zq
set_option maxHeartbeats 4000000
set_option maxRecDepth 100000
noncomputable def bcdV (x : GIns) (m : MM) : Int × Int := bif eqI x.Sub 1 then g259 (bif neI (andI m.r.fl 16) 0 then 1 else 0) (dat m.r.d x.Reg % 256) (dat m.r.d x.Ea.Reg % 256) else g258 (bif neI (andI m.r.fl 16) 0 then 1 else 0) (dat m.r.d x.Reg % 256) (dat m.r.d x.Ea.Reg % 256)
noncomputable def bcdM (m : MM) (x : GIns) : MM :=
 bif g257 (dat m.r.d x.Reg % 256) && g257 (dat m.r.d x.Ea.Reg % 256) then
  { m with r := putM { m.r with fl := orI (bif eqI (bcdV x m).1 0 then andI m.r.fl 4 else 0) (mulI (bcdV x m).2 17) } 1 x.Reg (bcdV x m).1 }
 else { m with f := { m.f with Vector := 4 } }
theorem bcdV_ok {x : GIns} {m : MM} (h1 : g257 (dat m.r.d x.Reg % 256) = true) (h2 : g257 (dat m.r.d x.Ea.Reg % 256) = true) : BR (bcdV x m) := by
 unfold bcdV
 exact cpair (P := fun z => BR z) (fun _ => (l2sub_s (bit_bif _) (bcd_of h1) (bcd_of h2)).2) (fun _ => (l2add_s (bit_bif _) (bcd_of h1) (bcd_of h2)).2)
theorem bcd_fl {f v c : Int} (hf : inB f 0 31 = true) (hc : Bit c) : inB (orI (bif eqI v 0 then andI f 4 else 0) (mulI c 17)) 0 31 = true := by
 refine or_rng ?_ ?_
 ·cases eqI v 0
  ·exact (by decide : inB 0 0 31 = true)
  ·rcases fl4 hf with h | h <;> rw [h] <;> decide
 ·rcases hc with h | h <;> rw [h] <;> decide
theorem h11 : (1 : Int) = 1 ∨ (1 : Int) = 2 := Or.inl rfl
theorem bcd_ok {t : Int} {m : MM} {x : GIns} (hm : m.Ok t) (h : InsOk x) : (bcdM m x).Ok t := by
 have t0 := hm.r.t0
 unfold bcdM
 refine cpair (P := fun z => MM.Ok t z) (fun hb => ?_) (fun _ => ⟨hm.r, hm.b⟩)
 rw [Bool.and_eq_true] at hb
 obtain ⟨⟨v0, v1⟩, v2⟩ := bcdV_ok hb.1 hb.2
 exact ⟨put_ok (hm.r.setF (bcd_fl hm.r.fw v2)) h.hr v0 (fun _ => by omega) (by omega), hm.b⟩
theorem bcd_m {t : Int} {m : MM} {x : GIns} (hm : m.Ok t) (h : InsOk x) : k223 x m.g = true ∧ g223 x m.g = (bcdM m x).g := by
 refine sat_hid (t := T223 x m.g) (P := fun q => q = (bcdM m x).g) ?_
 obtain ⟨i1, i2, i3⟩ := dat_at hm.r.d4 h.hr
 obtain ⟨s1, s2, s3, s4, s5⟩ := set_at (v := 0) hm.r.d4 h.hr
 obtain ⟨j1, j2, j3⟩ := dat_at hm.r.d4 h.ho.hr
 obtain ⟨u1, u2, u3, u4, u5⟩ := set_at (v := 0) hm.r.d4 h.ho.hr
 rw [Nat.zero_add] at s5 u5
 have dr := dat_in hm.r.dw hm.r.d4 h.hr
 have er := dat_in hm.r.dw hm.r.d4 h.ho.hr
 have t1 := hm.r.t1
 have m8 : andI (dat m.r.d x.Reg) 255 = dat m.r.d x.Reg % 256 := and255 dr.1 (by omega)
 have n8 : andI (dat m.r.d x.Ea.Reg) 255 = dat m.r.d x.Ea.Reg % 256 := and255 er.1 (by omega)
 unfold T223 bcdM
 cases h1 : g257 (dat m.r.d x.Reg % 256)
 ·simp only [sat_ok', sat_br, sat_leaf, y223_11, y223_10, y223_9, y223_8, y223_7, y223_6, y223_5, y223_4, y223_3, y223_2, y223_1, y223_0, g_fr, g_fbus, g_fstop, g_ffault, r_D, r_A, r_Other, r_PC, r_Flags, r_Mask, r_Super, r_Trace, Nat.zero_add, lenI_eq, ri_len, i2, j2, s3, s4, s5, u3, u4, u5, m8, n8, (bcd_k _).1, h1, Bool.not_true, Bool.not_false, Bool.false_and, cond_true, cond_false, eqN_self, same_s, sameR_s, Bool.and_true, Bool.true_or, Bool.or_true, true_and, forall_const, q_1, q_2, false_implies, and_true, implies_true]
  rfl
 ·cases h2 : g257 (dat m.r.d x.Ea.Reg % 256)
  ·simp only [sat_ok', sat_br, sat_leaf, y223_11, y223_10, y223_9, y223_8, y223_7, y223_6, y223_5, y223_4, y223_3, y223_2, y223_1, y223_0, g_fr, g_fbus, g_fstop, g_ffault, r_D, r_A, r_Other, r_PC, r_Flags, r_Mask, r_Super, r_Trace, Nat.zero_add, lenI_eq, ri_len, i2, j2, s3, s4, s5, u3, u4, u5, m8, n8, (bcd_k _).1, h1, h2, Bool.not_true, Bool.not_false, Bool.and_false, cond_true, cond_false, eqN_self, same_s, sameR_s, Bool.and_true, Bool.true_or, Bool.or_true, true_and, forall_const, q_1, q_2, false_implies, and_true, implies_true]
   rfl
  ·obtain ⟨⟨v0, v1⟩, v2⟩ := bcdV_ok h1 h2
   obtain ⟨p1, p2⟩ := put_m (v := (bcdV x m).1) (hm.r.setF (bcd_fl (v := (bcdV x m).1) hm.r.fw v2)) h11 h.hr (fun _ => by omega)
   obtain ⟨a1, a2⟩ := l2add_s (bit_bif (neI (andI m.r.fl 16) 0)) (bcd_of h1) (bcd_of h2)
   obtain ⟨b1, b2⟩ := l2sub_s (bit_bif (neI (andI m.r.fl 16) 0)) (bcd_of h1) (bcd_of h2)
   cases hs : eqI x.Sub 1
   ·have hv : bcdV x m = g258 (bif neI (andI m.r.fl 16) 0 then 1 else 0) (dat m.r.d x.Reg % 256) (dat m.r.d x.Ea.Reg % 256) := by unfold bcdV; rw [hs]; rfl
    rw [hv] at p1 p2 ⊢
    simp only [sat_ok', sat_br, sat_leaf, y223_11, y223_10, y223_9, y223_8, y223_7, y223_6, y223_5, y223_4, y223_3, y223_2, y223_1, y223_0, g_fr, g_fbus, g_fstop, g_ffault, r_D, r_A, r_Other, r_PC, r_Flags, r_Mask, r_Super, r_Trace, Nat.zero_add, lenI_eq, ri_len, set_flg, i2, j2, s3, s4, s5, u3, u4, u5, m8, n8, (bcd_k _).1, (flag_s _ _).1, (flag_s _ _).2, h1, h2, hs, a1, b1, p1, p2, Bool.not_true, Bool.not_false, Bool.and_self, cond_true, cond_false, eqN_self, same_s, sameR_s, Bool.and_true, Bool.true_or, Bool.or_true, true_and, forall_const, q_1, q_2, false_implies, and_true, implies_true]
    rfl
   ·have hv : bcdV x m = g259 (bif neI (andI m.r.fl 16) 0 then 1 else 0) (dat m.r.d x.Reg % 256) (dat m.r.d x.Ea.Reg % 256) := by unfold bcdV; rw [hs]; rfl
    rw [hv] at p1 p2 ⊢
    simp only [sat_ok', sat_br, sat_leaf, y223_11, y223_10, y223_9, y223_8, y223_7, y223_6, y223_5, y223_4, y223_3, y223_2, y223_1, y223_0, g_fr, g_fbus, g_fstop, g_ffault, r_D, r_A, r_Other, r_PC, r_Flags, r_Mask, r_Super, r_Trace, Nat.zero_add, lenI_eq, ri_len, set_flg, i2, j2, s3, s4, s5, u3, u4, u5, m8, n8, (bcd_k _).1, (flag_s _ _).1, (flag_s _ _).2, h1, h2, hs, a1, b1, p1, p2, Bool.not_true, Bool.not_false, Bool.and_self, cond_true, cond_false, eqN_self, same_s, sameR_s, Bool.and_true, Bool.true_or, Bool.or_true, true_and, forall_const, q_1, q_2, false_implies, and_true, implies_true]
    rfl
def jmp2 (x : GIns) (q : MM × Int) : MM := bif eqI x.Sub 1 then pushM q.1 q.1.r.pc else q.1
def jmp3 (m : MM) (a : Int) : MM := bif fine m then { m with r := { m.r with pc := a } } else m
noncomputable def jumpM (m : MM) (x : GIns) (at_ : Int) : MM :=
 bif eqI x.Op 13 then (bif g252 (x.Sub + 8 * x.Reg) m.r.fl then { m with r := { m.r with pc := (at_ + 2 + x.Ea.Ext) % 65536 } } else m)
 else jmp3 (jmp2 x (splM m 2 x.Ea)) (splM m 2 x.Ea).2
theorem jmp2_ok {t : Int} {q : MM × Int} {x : GIns} (hq : q.1.Ok t) : (jmp2 x q).Ok t := by
 have p := inB_iff.1 hq.r.pw
 unfold jmp2
 exact cpair (P := fun z => MM.Ok t z) (fun _ => push_ok hq p.1 p.2) (fun _ => hq)
theorem jump_ok {t a : Int} {m : MM} {x : GIns} (hm : m.Ok t) (h : InsOk x) : (jumpM m x a).Ok t := by
 obtain ⟨p1, p2⟩ := spl_ok (s := 2) hm h.ho
 have j := jmp2_ok (x := x) p1
 unfold jumpM jmp3
 refine cpair (P := fun z => MM.Ok t z) (fun _ => cpair (P := fun z => MM.Ok t z) (fun _ => ⟨hm.r.setP (inB_iff.2 (by omega)), hm.b⟩) (fun _ => hm)) fun _ => ?_
 exact cpair (P := fun z => MM.Ok t z) (fun _ => ⟨j.r.setP p2, j.b⟩) (fun _ => j)
theorem jump_m {t a : Int} {m : MM} {x : GIns} (hm : m.Ok t) (h : InsOk x) (ha : inB a 0 65535 = true) : k220 x a m.g = true ∧ g220 x a m.g = (jumpM m x a).g := by
 refine sat_hid (t := T220 x a m.g) (P := fun q => q = (jumpM m x a).g) ?_
 obtain ⟨p1, p2⟩ := spl_ok (s := 2) hm h.ho
 obtain ⟨a1, a2⟩ := spl_m (s := 2) hm h.ho
 have pp := inB_iff.1 p1.r.pw
 obtain ⟨b1, b2⟩ := push_m p1 pp.1 pp.2
 have hr := inB_iff.1 h.hr
 have hb := inB_iff.1 h.hb
 have he := inB_iff.1 h.ho.he
 have ha' := inB_iff.1 ha
 have e1 : addI x.Sub (mulI 8 x.Reg) = x.Sub + 8 * x.Reg := by rw [mulI_eq (by omega), addI_eq (by omega)]
 have e2 : andI (addI (addI a 2) x.Ea.Ext) 65535 = (a + 2 + x.Ea.Ext) % 65536 := by rw [addI_eq (x := a) (by omega), addI_eq (by omega), and16]
 unfold T220 jumpM jmp3 jmp2
 cases h13 : eqI x.Op 13
 ·cases hs : eqI x.Sub 1
  ·cases hf : eqI (splM m 2 x.Ea).1.f.Vector 0
   ·simp only [sat_ok', sat_br, sat_leaf, y220_17, y220_16, y220_15, y220_14, y220_13, y220_12, y220_11, y220_10, y220_9, y220_8, y220_7, y220_6, y220_5, y220_4, y220_3, y220_2, y220_1, y220_0, g_fr, g_fbus, g_fstop, g_ffault, r_D, r_A, r_Other, r_PC, r_Flags, r_Mask, r_Super, r_Trace, set_pc, set_r, a1, a2, h13, hs, hf, fine, fine_s, Bool.not_true, Bool.not_false, cond_true, cond_false, eqN_self, same_s, sameR_s, Bool.and_true, Bool.true_or, Bool.or_true, true_and, forall_const, q_1, q_2, false_implies, and_true, implies_true]
   ·simp only [sat_ok', sat_br, sat_leaf, y220_17, y220_16, y220_15, y220_14, y220_13, y220_12, y220_11, y220_10, y220_9, y220_8, y220_7, y220_6, y220_5, y220_4, y220_3, y220_2, y220_1, y220_0, g_fr, g_fbus, g_fstop, g_ffault, r_D, r_A, r_Other, r_PC, r_Flags, r_Mask, r_Super, r_Trace, set_pc, set_r, a1, a2, h13, hs, hf, fine, fine_s, Bool.not_true, Bool.not_false, cond_true, cond_false, eqN_self, same_s, sameR_s, Bool.and_true, Bool.true_or, Bool.or_true, true_and, forall_const, q_1, q_2, false_implies, and_true, implies_true]
  ·cases hf : eqI (pushM (splM m 2 x.Ea).1 (splM m 2 x.Ea).1.r.pc).f.Vector 0
   ·simp only [sat_ok', sat_br, sat_leaf, y220_17, y220_16, y220_15, y220_14, y220_13, y220_12, y220_11, y220_10, y220_9, y220_8, y220_7, y220_6, y220_5, y220_4, y220_3, y220_2, y220_1, y220_0, g_fr, g_fbus, g_fstop, g_ffault, r_D, r_A, r_Other, r_PC, r_Flags, r_Mask, r_Super, r_Trace, set_pc, set_r, a1, a2, b1, b2, h13, hs, hf, fine, fine_s, Bool.not_true, Bool.not_false, cond_true, cond_false, eqN_self, same_s, sameR_s, Bool.and_true, Bool.true_or, Bool.or_true, true_and, forall_const, q_1, q_2, false_implies, and_true, implies_true]
   ·simp only [sat_ok', sat_br, sat_leaf, y220_17, y220_16, y220_15, y220_14, y220_13, y220_12, y220_11, y220_10, y220_9, y220_8, y220_7, y220_6, y220_5, y220_4, y220_3, y220_2, y220_1, y220_0, g_fr, g_fbus, g_fstop, g_ffault, r_D, r_A, r_Other, r_PC, r_Flags, r_Mask, r_Super, r_Trace, set_pc, set_r, a1, a2, b1, b2, h13, hs, hf, fine, fine_s, Bool.not_true, Bool.not_false, cond_true, cond_false, eqN_self, same_s, sameR_s, Bool.and_true, Bool.true_or, Bool.or_true, true_and, forall_const, q_1, q_2, false_implies, and_true, implies_true]
 ·cases ht : g252 (x.Sub + 8 * x.Reg) m.r.fl
  ·simp only [sat_ok', sat_br, sat_leaf, y220_17, y220_16, y220_15, y220_14, y220_13, y220_12, y220_11, y220_10, y220_9, y220_8, y220_7, y220_6, y220_5, y220_4, y220_3, y220_2, y220_1, y220_0, g_fr, g_fbus, g_fstop, g_ffault, r_D, r_A, r_Other, r_PC, r_Flags, r_Mask, r_Super, r_Trace, set_pc, set_r, e1, e2, test_k, ht, h13, Bool.not_true, Bool.not_false, cond_true, cond_false, eqN_self, same_s, sameR_s, Bool.and_true, Bool.true_or, Bool.or_true, true_and, forall_const, q_1, q_2, false_implies, and_true, implies_true]
  ·simp only [sat_ok', sat_br, sat_leaf, y220_17, y220_16, y220_15, y220_14, y220_13, y220_12, y220_11, y220_10, y220_9, y220_8, y220_7, y220_6, y220_5, y220_4, y220_3, y220_2, y220_1, y220_0, g_fr, g_fbus, g_fstop, g_ffault, r_D, r_A, r_Other, r_PC, r_Flags, r_Mask, r_Super, r_Trace, set_pc, set_r, e1, e2, test_k, ht, h13, Bool.not_true, Bool.not_false, cond_true, cond_false, eqN_self, same_s, sameR_s, Bool.and_true, Bool.true_or, Bool.or_true, true_and, forall_const, q_1, q_2, false_implies, and_true, implies_true]
end Go.Proofs.YtdipcnijfkdnfaaGreatStack

namespace Go.Proofs.YtdipcnijfkdnfaaGreatStack
open Bool renaming and_true → qt
open Bool renaming true_eq_false → q_1
open Bool renaming false_eq_true → q_2
open Bool renaming true_or → q_3
open Bool renaming not_false → q_4
open Bool renaming not_true → q_5
open Bool renaming or_true → q_6
open Go Go.Zq
set_option maxHeartbeats 4000000
set_option maxRecDepth 100000
def addrM (q : MM × Int × Int) (x : GIns) : MM := bif fine q.1 then { q.1 with r := { q.1.r with a := q.1.r.a.set x.Reg.toNat q.2.1 } } else q.1
def leaM (q : MM × Int) (x : GIns) : MM := { q.1 with r := { q.1.r with a := q.1.r.a.set x.Reg.toNat q.2 } }
noncomputable def from2 (w : MM) (x : GIns) (v : Int) : MM := { w with r := { w.r with fl := g216 x.Size w.r.fl v } }
noncomputable def fromM (m : MM) (x : GIns) : MM := from2 (writeM (splM m x.Size x.Ea).1 x.Size x.Ea (splM m x.Size x.Ea).2 (dat m.r.d x.Reg % limO x.Size)) x (dat m.r.d x.Reg % limO x.Size)
noncomputable def shV (m : MM) (x : GIns) : Int × Int := g218 x.Sub x.Size m.r.fl (dat m.r.d x.Reg % limO x.Size) (x.Ea.Reg + 1)
noncomputable def shiftM (m : MM) (x : GIns) : MM := { m with r := putM { m.r with fl := (shV m x).2 } x.Size x.Reg (shV m x).1 }
def statM (m : MM) (x : GIns) : MM := bif eqI x.Sub 0 then { m with r := withM m.r x.Ea.Ext } else { m with r := { m.r with d := m.r.d.set x.Reg.toNat (statusM m.r) } }
noncomputable def doM (m : MM) (x : GIns) (a : Int) : MM :=
 bif eqI x.Op 9 then addrM (readM m 2 x.Ea) x else bif eqI x.Op 10 then leaM (splM m 2 x.Ea) x else bif eqI x.Op 2 then fromM m x
 else bif eqI x.Op 11 then oneM m x else bif eqI x.Op 12 then shiftM m x else bif eqI x.Op 13 || eqI x.Op 14 then jumpM m x a
 else bif eqI x.Op 15 then flowM m x else bif eqI x.Op 16 || eqI x.Op 17 then productM m x else bif eqI x.Op 18 then bcdM m x
 else bif eqI x.Op 19 then statM m x else twoM m x
theorem kB_19 {x : GIns} (h : x.Op = 19) : kB x = bif eqI x.Size 2 then (bif (bif (bif eqI x.Sub 0 then eqI x.Reg 0 else false) then nowB x.Ea else false) then true else (bif eqI x.Sub 1 then zeroB x.Ea else false)) else false := by
 unfold kB; rw [h]; rfl
theorem stat_kind {x : GIns} (h : InsOk x) (h2 : x.Op = 19) (e : x.Sub = 0) : inB x.Ea.Ext 0 1023 = true := by
 have hk := h.kb
 have he := inB_iff.1 h.ho.he
 rw [kB_19 h2, e] at hk
 simp only [et 0 0, ef 0 1, cond_true, cond_false] at hk
 cases e1 : eqI x.Size 2
 ·rw [e1] at hk; simp at hk
 ·cases e2 : eqI x.Reg 0
  ·rw [e1, e2] at hk; simp at hk
  ·rw [e1, e2] at hk
   unfold nowB at hk
   cases e3 : eqI x.Ea.Mode 7
   ·rw [e3] at hk; simp at hk
   ·rw [e3] at hk
    cases e4 : leI x.Ea.Ext 1023
    ·rw [e4] at hk; simp at hk
    ·rw [leI_iff] at e4; exact inB_iff.2 ⟨he.1, e4⟩
theorem sh_ok {t : Int} {m : MM} {x : GIns} (hm : m.Ok t) (h : InsOk x) : k218 x.Sub x.Size m.r.fl (dat m.r.d x.Reg % limO x.Size) (x.Ea.Reg + 1) = true ∧ Sh x.Size (shV m x) := by
 have hr := inB_iff.1 h.ho.hr
 exact by3_s h.hs (low_val h.hs) hm.r.fw (by omega) (by omega)
theorem do_ok {t a : Int} {m : MM} {x : GIns} (hm : m.Ok t) (h : InsOk x) : (doM m x a).Ok t := by
 have t0 := hm.r.t0
 obtain ⟨r1, r2, r3⟩ := read_ok hm h22 h.ho not21 not21
 have rv := val2_iff r2
 obtain ⟨p1, p2⟩ := spl_ok (s := 2) hm h.ho
 obtain ⟨q1, q2⟩ := spl_ok (s := x.Size) hm h.ho
 have pv := inB_iff.1 p2
 obtain ⟨-, s1, s2⟩ := sh_ok hm h
 have ls := lim_le h.hs s1
 have st := status_rng hm.r
 have hop := h.op
 unfold doM
 refine cpair (P := fun z => MM.Ok t z) (fun _ => by unfold addrM; exact cpair (P := fun z => MM.Ok t z) (fun _ => ⟨r1.r.setA rv.1 rv.2, r1.b⟩) (fun _ => r1)) fun e9 => ?_
 refine cpair (P := fun z => MM.Ok t z) (fun _ => ⟨p1.r.setA pv.1 pv.2, p1.b⟩) fun e10 => ?_
 refine cpair (P := fun z => MM.Ok t z) (fun _ => by
  have w := write_ok q1 h.hs h.ho q2 (low_val (v := dat m.r.d x.Reg) h.hs)
  exact ⟨w.r.setF (logic_s h.hs w.r.fw).2, w.b⟩) fun e2 => ?_
 refine cpair (P := fun z => MM.Ok t z) (fun e => one_ok hm h (eqI_iff.1 e)) fun e11 => ?_
 refine cpair (P := fun z => MM.Ok t z) (fun _ => ⟨put_ok (hm.r.setF s2) h.hr ls.1 (fun e => by have := ls.2.2 e; omega) (by omega), hm.b⟩) fun e12 => ?_
 refine cpair (P := fun z => MM.Ok t z) (fun _ => jump_ok hm h) fun e13 => ?_
 refine cpair (P := fun z => MM.Ok t z) (fun _ => flow_ok hm h) fun e15 => ?_
 refine cpair (P := fun z => MM.Ok t z) (fun _ => product_ok hm h) fun e16 => ?_
 refine cpair (P := fun z => MM.Ok t z) (fun _ => bcd_ok hm h) fun e18 => ?_
 refine cpair (P := fun z => MM.Ok t z) (fun _ => by unfold statM; exact cpair (P := fun z => MM.Ok t z) (fun _ => ⟨with_ok hm.r, hm.b⟩) (fun _ => ⟨hm.r.setD st.1 (by omega), hm.b⟩)) fun e19 => ?_
 rw [Bool.or_eq_false_iff] at e13 e16
 rw [eqI_f] at e9 e10 e2 e11 e12 e15 e18 e19
 have a1 := eqI_f.1 e13.1
 have a2 := eqI_f.1 e13.2
 have a3 := eqI_f.1 e16.1
 have a4 := eqI_f.1 e16.2
 exact two_ok hm h (by unfold IsTwo; omega)
theorem do_m {t a : Int} {m : MM} {x : GIns} (hm : m.Ok t) (h : InsOk x) (ha : inB a 0 65535 = true) : k160 x a m.g = true ∧ g160 x a m.g = (doM m x a).g := by
 refine sat_hid (t := T160 x a m.g) (P := fun q => q = (doM m x a).g) ?_
 have hop := h.op
 have hop2 : x.Op = 1 ∨ x.Op = 2 ∨ x.Op = 3 ∨ x.Op = 4 ∨ x.Op = 5 ∨ x.Op = 6 ∨ x.Op = 7 ∨ x.Op = 8 ∨ x.Op = 9 ∨ x.Op = 10 ∨ x.Op = 11 ∨ x.Op = 12 ∨ x.Op = 13 ∨ x.Op = 14 ∨ x.Op = 15 ∨ x.Op = 16 ∨ x.Op = 17 ∨ x.Op = 18 ∨ x.Op = 19 := by omega
 obtain ⟨i1, i2, i3⟩ := dat_at hm.r.d4 h.hr
 obtain ⟨s1, s2, s3, s4, s5⟩ := set_at (v := 0) hm.r.d4 h.hr
 rw [Nat.zero_add] at s1 s2 s5
 unfold T160
 rcases hop2 with e | e | e | e | e | e | e | e | e | e | e | e | e | e | e | e | e | e | e
 ·have hd : doM m x a = twoM m x := by unfold doM; rw [e]; rfl
  rw [hd]
  obtain ⟨a1, a2⟩ := two_m hm h (by unfold IsTwo; omega)
  simp only [sat_ok', sat_br, sat_leaf, y160_43, y160_42, y160_41, y160_40, y160_39, y160_38, y160_37, y160_36, y160_35, y160_34, y160_33, y160_32, y160_31, y160_30, y160_29, y160_28, y160_27, y160_26, y160_25, y160_24, y160_23, y160_22, y160_21, y160_20, y160_19, y160_18, y160_17, y160_16, y160_15, y160_14, y160_13, y160_12, y160_11, y160_10, y160_9, y160_8, y160_7, y160_6, y160_5, y160_4, y160_3, y160_2, y160_1, y160_0, g_fr, g_fbus, g_fstop, g_ffault, r_D, r_A, r_Other, r_PC, r_Flags, r_Mask, r_Super, r_Trace, Nat.zero_add, lenI_eq, ri_len, e, et 1 1, ef 1 2, ef 1 3, ef 1 4, ef 1 5, ef 1 6, ef 1 7, ef 1 8, ef 1 9, ef 1 10, ef 1 11, ef 1 12, ef 1 13, ef 1 14, ef 1 15, ef 1 16, ef 1 17, ef 1 18, ef 1 19, q_5, q_4, cond_true, cond_false, eqN_self, same_s, sameR_s, qt, q_3, q_6, true_and, forall_const, q_1, q_2, false_implies, and_true, implies_true, a1, a2]
 ·have hd : doM m x a = fromM m x := by unfold doM; rw [e]; rfl
  rw [hd]
  obtain ⟨l1, l2⟩ := low_m hm.r h.hs h.hr
  obtain ⟨p1, p2⟩ := spl_m (s := x.Size) hm h.ho
  obtain ⟨q1, q2⟩ := spl_ok (s := x.Size) hm h.ho
  have hd := low_val (s := x.Size) (v := dat m.r.d x.Reg) h.hs
  obtain ⟨w1, w2⟩ := write_m q1 h.hs h.ho q2 hd
  have w3 := write_ok q1 h.hs h.ho q2 hd
  have lg := (logic_s (v := dat m.r.d x.Reg % limO x.Size) h.hs w3.r.fw).1
  simp only [sat_ok', sat_br, sat_leaf, y160_43, y160_42, y160_41, y160_40, y160_39, y160_38, y160_37, y160_36, y160_35, y160_34, y160_33, y160_32, y160_31, y160_30, y160_29, y160_28, y160_27, y160_26, y160_25, y160_24, y160_23, y160_22, y160_21, y160_20, y160_19, y160_18, y160_17, y160_16, y160_15, y160_14, y160_13, y160_12, y160_11, y160_10, y160_9, y160_8, y160_7, y160_6, y160_5, y160_4, y160_3, y160_2, y160_1, y160_0, g_fr, g_fbus, g_fstop, g_ffault, r_D, r_A, r_Other, r_PC, r_Flags, r_Mask, r_Super, r_Trace, Nat.zero_add, lenI_eq, ri_len, e, ef 2 1, et 2 2, ef 2 3, ef 2 4, ef 2 5, ef 2 6, ef 2 7, ef 2 8, ef 2 9, ef 2 10, ef 2 11, ef 2 12, ef 2 13, ef 2 14, ef 2 15, ef 2 16, ef 2 17, ef 2 18, ef 2 19, q_5, q_4, cond_true, cond_false, eqN_self, same_s, sameR_s, qt, q_3, q_6, true_and, forall_const, q_1, q_2, false_implies, and_true, implies_true, l1, l2, p1, p2, w1, w2, lg]
  rfl
 ·have hd : doM m x a = twoM m x := by unfold doM; rw [e]; rfl
  rw [hd]
  obtain ⟨a1, a2⟩ := two_m hm h (by unfold IsTwo; omega)
  simp only [sat_ok', sat_br, sat_leaf, y160_43, y160_42, y160_41, y160_40, y160_39, y160_38, y160_37, y160_36, y160_35, y160_34, y160_33, y160_32, y160_31, y160_30, y160_29, y160_28, y160_27, y160_26, y160_25, y160_24, y160_23, y160_22, y160_21, y160_20, y160_19, y160_18, y160_17, y160_16, y160_15, y160_14, y160_13, y160_12, y160_11, y160_10, y160_9, y160_8, y160_7, y160_6, y160_5, y160_4, y160_3, y160_2, y160_1, y160_0, g_fr, g_fbus, g_fstop, g_ffault, r_D, r_A, r_Other, r_PC, r_Flags, r_Mask, r_Super, r_Trace, Nat.zero_add, lenI_eq, ri_len, e, ef 3 1, ef 3 2, et 3 3, ef 3 4, ef 3 5, ef 3 6, ef 3 7, ef 3 8, ef 3 9, ef 3 10, ef 3 11, ef 3 12, ef 3 13, ef 3 14, ef 3 15, ef 3 16, ef 3 17, ef 3 18, ef 3 19, q_5, q_4, cond_true, cond_false, eqN_self, same_s, sameR_s, qt, q_3, q_6, true_and, forall_const, q_1, q_2, false_implies, and_true, implies_true, a1, a2]
 ·have hd : doM m x a = twoM m x := by unfold doM; rw [e]; rfl
  rw [hd]
  obtain ⟨a1, a2⟩ := two_m hm h (by unfold IsTwo; omega)
  simp only [sat_ok', sat_br, sat_leaf, y160_43, y160_42, y160_41, y160_40, y160_39, y160_38, y160_37, y160_36, y160_35, y160_34, y160_33, y160_32, y160_31, y160_30, y160_29, y160_28, y160_27, y160_26, y160_25, y160_24, y160_23, y160_22, y160_21, y160_20, y160_19, y160_18, y160_17, y160_16, y160_15, y160_14, y160_13, y160_12, y160_11, y160_10, y160_9, y160_8, y160_7, y160_6, y160_5, y160_4, y160_3, y160_2, y160_1, y160_0, g_fr, g_fbus, g_fstop, g_ffault, r_D, r_A, r_Other, r_PC, r_Flags, r_Mask, r_Super, r_Trace, Nat.zero_add, lenI_eq, ri_len, e, ef 4 1, ef 4 2, ef 4 3, et 4 4, ef 4 5, ef 4 6, ef 4 7, ef 4 8, ef 4 9, ef 4 10, ef 4 11, ef 4 12, ef 4 13, ef 4 14, ef 4 15, ef 4 16, ef 4 17, ef 4 18, ef 4 19, q_5, q_4, cond_true, cond_false, eqN_self, same_s, sameR_s, qt, q_3, q_6, true_and, forall_const, q_1, q_2, false_implies, and_true, implies_true, a1, a2]
 ·have hd : doM m x a = twoM m x := by unfold doM; rw [e]; rfl
  rw [hd]
  obtain ⟨a1, a2⟩ := two_m hm h (by unfold IsTwo; omega)
  simp only [sat_ok', sat_br, sat_leaf, y160_43, y160_42, y160_41, y160_40, y160_39, y160_38, y160_37, y160_36, y160_35, y160_34, y160_33, y160_32, y160_31, y160_30, y160_29, y160_28, y160_27, y160_26, y160_25, y160_24, y160_23, y160_22, y160_21, y160_20, y160_19, y160_18, y160_17, y160_16, y160_15, y160_14, y160_13, y160_12, y160_11, y160_10, y160_9, y160_8, y160_7, y160_6, y160_5, y160_4, y160_3, y160_2, y160_1, y160_0, g_fr, g_fbus, g_fstop, g_ffault, r_D, r_A, r_Other, r_PC, r_Flags, r_Mask, r_Super, r_Trace, Nat.zero_add, lenI_eq, ri_len, e, ef 5 1, ef 5 2, ef 5 3, ef 5 4, et 5 5, ef 5 6, ef 5 7, ef 5 8, ef 5 9, ef 5 10, ef 5 11, ef 5 12, ef 5 13, ef 5 14, ef 5 15, ef 5 16, ef 5 17, ef 5 18, ef 5 19, q_5, q_4, cond_true, cond_false, eqN_self, same_s, sameR_s, qt, q_3, q_6, true_and, forall_const, q_1, q_2, false_implies, and_true, implies_true, a1, a2]
 ·have hd : doM m x a = twoM m x := by unfold doM; rw [e]; rfl
  rw [hd]
  obtain ⟨a1, a2⟩ := two_m hm h (by unfold IsTwo; omega)
  simp only [sat_ok', sat_br, sat_leaf, y160_43, y160_42, y160_41, y160_40, y160_39, y160_38, y160_37, y160_36, y160_35, y160_34, y160_33, y160_32, y160_31, y160_30, y160_29, y160_28, y160_27, y160_26, y160_25, y160_24, y160_23, y160_22, y160_21, y160_20, y160_19, y160_18, y160_17, y160_16, y160_15, y160_14, y160_13, y160_12, y160_11, y160_10, y160_9, y160_8, y160_7, y160_6, y160_5, y160_4, y160_3, y160_2, y160_1, y160_0, g_fr, g_fbus, g_fstop, g_ffault, r_D, r_A, r_Other, r_PC, r_Flags, r_Mask, r_Super, r_Trace, Nat.zero_add, lenI_eq, ri_len, e, ef 6 1, ef 6 2, ef 6 3, ef 6 4, ef 6 5, et 6 6, ef 6 7, ef 6 8, ef 6 9, ef 6 10, ef 6 11, ef 6 12, ef 6 13, ef 6 14, ef 6 15, ef 6 16, ef 6 17, ef 6 18, ef 6 19, q_5, q_4, cond_true, cond_false, eqN_self, same_s, sameR_s, qt, q_3, q_6, true_and, forall_const, q_1, q_2, false_implies, and_true, implies_true, a1, a2]
 ·have hd : doM m x a = twoM m x := by unfold doM; rw [e]; rfl
  rw [hd]
  obtain ⟨a1, a2⟩ := two_m hm h (by unfold IsTwo; omega)
  simp only [sat_ok', sat_br, sat_leaf, y160_43, y160_42, y160_41, y160_40, y160_39, y160_38, y160_37, y160_36, y160_35, y160_34, y160_33, y160_32, y160_31, y160_30, y160_29, y160_28, y160_27, y160_26, y160_25, y160_24, y160_23, y160_22, y160_21, y160_20, y160_19, y160_18, y160_17, y160_16, y160_15, y160_14, y160_13, y160_12, y160_11, y160_10, y160_9, y160_8, y160_7, y160_6, y160_5, y160_4, y160_3, y160_2, y160_1, y160_0, g_fr, g_fbus, g_fstop, g_ffault, r_D, r_A, r_Other, r_PC, r_Flags, r_Mask, r_Super, r_Trace, Nat.zero_add, lenI_eq, ri_len, e, ef 7 1, ef 7 2, ef 7 3, ef 7 4, ef 7 5, ef 7 6, et 7 7, ef 7 8, ef 7 9, ef 7 10, ef 7 11, ef 7 12, ef 7 13, ef 7 14, ef 7 15, ef 7 16, ef 7 17, ef 7 18, ef 7 19, q_5, q_4, cond_true, cond_false, eqN_self, same_s, sameR_s, qt, q_3, q_6, true_and, forall_const, q_1, q_2, false_implies, and_true, implies_true, a1, a2]
 ·have hd : doM m x a = twoM m x := by unfold doM; rw [e]; rfl
  rw [hd]
  obtain ⟨a1, a2⟩ := two_m hm h (by unfold IsTwo; omega)
  simp only [sat_ok', sat_br, sat_leaf, y160_43, y160_42, y160_41, y160_40, y160_39, y160_38, y160_37, y160_36, y160_35, y160_34, y160_33, y160_32, y160_31, y160_30, y160_29, y160_28, y160_27, y160_26, y160_25, y160_24, y160_23, y160_22, y160_21, y160_20, y160_19, y160_18, y160_17, y160_16, y160_15, y160_14, y160_13, y160_12, y160_11, y160_10, y160_9, y160_8, y160_7, y160_6, y160_5, y160_4, y160_3, y160_2, y160_1, y160_0, g_fr, g_fbus, g_fstop, g_ffault, r_D, r_A, r_Other, r_PC, r_Flags, r_Mask, r_Super, r_Trace, Nat.zero_add, lenI_eq, ri_len, e, ef 8 1, ef 8 2, ef 8 3, ef 8 4, ef 8 5, ef 8 6, ef 8 7, et 8 8, ef 8 9, ef 8 10, ef 8 11, ef 8 12, ef 8 13, ef 8 14, ef 8 15, ef 8 16, ef 8 17, ef 8 18, ef 8 19, q_5, q_4, cond_true, cond_false, eqN_self, same_s, sameR_s, qt, q_3, q_6, true_and, forall_const, q_1, q_2, false_implies, and_true, implies_true, a1, a2]
 ·have hd : doM m x a = addrM (readM m 2 x.Ea) x := by unfold doM; rw [e]; rfl
  rw [hd]
  obtain ⟨a1, a2⟩ := read_m hm h22 h.ho
  obtain ⟨r1, r2, r3⟩ := read_ok hm h22 h.ho not21 not21
  obtain ⟨u1, u2, u3, u4, u5⟩ := set_at (v := 0) r1.r.a4 h.hr
  rw [Nat.zero_add] at u1 u2 u5
  unfold addrM fine
  cases hf : eqI (readM m 2 x.Ea).1.f.Vector 0
  ·simp only [sat_ok', sat_br, sat_leaf, y160_43, y160_42, y160_41, y160_40, y160_39, y160_38, y160_37, y160_36, y160_35, y160_34, y160_33, y160_32, y160_31, y160_30, y160_29, y160_28, y160_27, y160_26, y160_25, y160_24, y160_23, y160_22, y160_21, y160_20, y160_19, y160_18, y160_17, y160_16, y160_15, y160_14, y160_13, y160_12, y160_11, y160_10, y160_9, y160_8, y160_7, y160_6, y160_5, y160_4, y160_3, y160_2, y160_1, y160_0, g_fr, g_fbus, g_fstop, g_ffault, r_D, r_A, r_Other, r_PC, r_Flags, r_Mask, r_Super, r_Trace, Nat.zero_add, lenI_eq, ri_len, e, ef 9 1, ef 9 2, ef 9 3, ef 9 4, ef 9 5, ef 9 6, ef 9 7, ef 9 8, et 9 9, ef 9 10, ef 9 11, ef 9 12, ef 9 13, ef 9 14, ef 9 15, ef 9 16, ef 9 17, ef 9 18, ef 9 19, q_5, q_4, cond_true, cond_false, eqN_self, same_s, sameR_s, qt, q_3, q_6, true_and, forall_const, q_1, q_2, false_implies, and_true, implies_true, a1, a2, fine_s, hf]
  ·simp only [sat_ok', sat_br, sat_leaf, y160_43, y160_42, y160_41, y160_40, y160_39, y160_38, y160_37, y160_36, y160_35, y160_34, y160_33, y160_32, y160_31, y160_30, y160_29, y160_28, y160_27, y160_26, y160_25, y160_24, y160_23, y160_22, y160_21, y160_20, y160_19, y160_18, y160_17, y160_16, y160_15, y160_14, y160_13, y160_12, y160_11, y160_10, y160_9, y160_8, y160_7, y160_6, y160_5, y160_4, y160_3, y160_2, y160_1, y160_0, g_fr, g_fbus, g_fstop, g_ffault, r_D, r_A, r_Other, r_PC, r_Flags, r_Mask, r_Super, r_Trace, Nat.zero_add, lenI_eq, ri_len, e, ef 9 1, ef 9 2, ef 9 3, ef 9 4, ef 9 5, ef 9 6, ef 9 7, ef 9 8, et 9 9, ef 9 10, ef 9 11, ef 9 12, ef 9 13, ef 9 14, ef 9 15, ef 9 16, ef 9 17, ef 9 18, ef 9 19, q_5, q_4, cond_true, cond_false, eqN_self, same_s, sameR_s, qt, q_3, q_6, true_and, forall_const, q_1, q_2, false_implies, and_true, implies_true, a1, a2, fine_s, hf, u1, u2, u3, u4, ri_set, List.length_set]
   rfl
 ·have hd : doM m x a = leaM (splM m 2 x.Ea) x := by unfold doM; rw [e]; rfl
  rw [hd]
  obtain ⟨a1, a2⟩ := spl_m (s := 2) hm h.ho
  obtain ⟨r1, r2⟩ := spl_ok (s := 2) hm h.ho
  obtain ⟨u1, u2, u3, u4, u5⟩ := set_at (v := 0) r1.r.a4 h.hr
  rw [Nat.zero_add] at u1 u2 u5
  unfold leaM
  simp only [sat_ok', sat_br, sat_leaf, y160_43, y160_42, y160_41, y160_40, y160_39, y160_38, y160_37, y160_36, y160_35, y160_34, y160_33, y160_32, y160_31, y160_30, y160_29, y160_28, y160_27, y160_26, y160_25, y160_24, y160_23, y160_22, y160_21, y160_20, y160_19, y160_18, y160_17, y160_16, y160_15, y160_14, y160_13, y160_12, y160_11, y160_10, y160_9, y160_8, y160_7, y160_6, y160_5, y160_4, y160_3, y160_2, y160_1, y160_0, g_fr, g_fbus, g_fstop, g_ffault, r_D, r_A, r_Other, r_PC, r_Flags, r_Mask, r_Super, r_Trace, Nat.zero_add, lenI_eq, ri_len, e, ef 10 1, ef 10 2, ef 10 3, ef 10 4, ef 10 5, ef 10 6, ef 10 7, ef 10 8, ef 10 9, et 10 10, ef 10 11, ef 10 12, ef 10 13, ef 10 14, ef 10 15, ef 10 16, ef 10 17, ef 10 18, ef 10 19, q_5, q_4, cond_true, cond_false, eqN_self, same_s, sameR_s, qt, q_3, q_6, true_and, forall_const, q_1, q_2, false_implies, and_true, implies_true, a1, a2, u1, u2, u3, u4, ri_set, List.length_set]
  rfl
 ·have hd : doM m x a = oneM m x := by unfold doM; rw [e]; rfl
  rw [hd]
  obtain ⟨a1, a2⟩ := one_m hm h e
  simp only [sat_ok', sat_br, sat_leaf, y160_43, y160_42, y160_41, y160_40, y160_39, y160_38, y160_37, y160_36, y160_35, y160_34, y160_33, y160_32, y160_31, y160_30, y160_29, y160_28, y160_27, y160_26, y160_25, y160_24, y160_23, y160_22, y160_21, y160_20, y160_19, y160_18, y160_17, y160_16, y160_15, y160_14, y160_13, y160_12, y160_11, y160_10, y160_9, y160_8, y160_7, y160_6, y160_5, y160_4, y160_3, y160_2, y160_1, y160_0, g_fr, g_fbus, g_fstop, g_ffault, r_D, r_A, r_Other, r_PC, r_Flags, r_Mask, r_Super, r_Trace, Nat.zero_add, lenI_eq, ri_len, e, ef 11 1, ef 11 2, ef 11 3, ef 11 4, ef 11 5, ef 11 6, ef 11 7, ef 11 8, ef 11 9, ef 11 10, et 11 11, ef 11 12, ef 11 13, ef 11 14, ef 11 15, ef 11 16, ef 11 17, ef 11 18, ef 11 19, q_5, q_4, cond_true, cond_false, eqN_self, same_s, sameR_s, qt, q_3, q_6, true_and, forall_const, q_1, q_2, false_implies, and_true, implies_true, a1, a2]
 ·have hd : doM m x a = shiftM m x := by unfold doM; rw [e]; rfl
  rw [hd]
  obtain ⟨l1, l2⟩ := low_m hm.r h.hs h.hr
  obtain ⟨k1, k2, k3⟩ := sh_ok hm h
  have er := inB_iff.1 h.ho.hr
  have e1 : addI x.Ea.Reg 1 = x.Ea.Reg + 1 := addI_eq (by omega)
  have ls := lim_le h.hs k2
  obtain ⟨p1, p2⟩ := put_m (v := (shV m x).1) (hm.r.setF k3) h.hs h.hr (fun e => by have := ls.2.2 e; omega)
  unfold shiftM
  unfold shV at p1 p2 ⊢
  simp only [sat_ok', sat_br, sat_leaf, y160_43, y160_42, y160_41, y160_40, y160_39, y160_38, y160_37, y160_36, y160_35, y160_34, y160_33, y160_32, y160_31, y160_30, y160_29, y160_28, y160_27, y160_26, y160_25, y160_24, y160_23, y160_22, y160_21, y160_20, y160_19, y160_18, y160_17, y160_16, y160_15, y160_14, y160_13, y160_12, y160_11, y160_10, y160_9, y160_8, y160_7, y160_6, y160_5, y160_4, y160_3, y160_2, y160_1, y160_0, g_fr, g_fbus, g_fstop, g_ffault, r_D, r_A, r_Other, r_PC, r_Flags, r_Mask, r_Super, r_Trace, Nat.zero_add, lenI_eq, ri_len, e, ef 12 1, ef 12 2, ef 12 3, ef 12 4, ef 12 5, ef 12 6, ef 12 7, ef 12 8, ef 12 9, ef 12 10, ef 12 11, et 12 12, ef 12 13, ef 12 14, ef 12 15, ef 12 16, ef 12 17, ef 12 18, ef 12 19, q_5, q_4, cond_true, cond_false, eqN_self, same_s, sameR_s, qt, q_3, q_6, true_and, forall_const, q_1, q_2, false_implies, and_true, implies_true, set_flg, e1, l1, l2, k1, p1, p2]
  rfl
 ·have hd : doM m x a = jumpM m x a := by unfold doM; rw [e]; rfl
  rw [hd]
  obtain ⟨a1, a2⟩ := jump_m hm h ha
  simp only [sat_ok', sat_br, sat_leaf, y160_43, y160_42, y160_41, y160_40, y160_39, y160_38, y160_37, y160_36, y160_35, y160_34, y160_33, y160_32, y160_31, y160_30, y160_29, y160_28, y160_27, y160_26, y160_25, y160_24, y160_23, y160_22, y160_21, y160_20, y160_19, y160_18, y160_17, y160_16, y160_15, y160_14, y160_13, y160_12, y160_11, y160_10, y160_9, y160_8, y160_7, y160_6, y160_5, y160_4, y160_3, y160_2, y160_1, y160_0, g_fr, g_fbus, g_fstop, g_ffault, r_D, r_A, r_Other, r_PC, r_Flags, r_Mask, r_Super, r_Trace, Nat.zero_add, lenI_eq, ri_len, e, ef 13 1, ef 13 2, ef 13 3, ef 13 4, ef 13 5, ef 13 6, ef 13 7, ef 13 8, ef 13 9, ef 13 10, ef 13 11, ef 13 12, et 13 13, ef 13 14, ef 13 15, ef 13 16, ef 13 17, ef 13 18, ef 13 19, q_5, q_4, cond_true, cond_false, eqN_self, same_s, sameR_s, qt, q_3, q_6, true_and, forall_const, q_1, q_2, false_implies, and_true, implies_true, a1, a2]
 ·have hd : doM m x a = jumpM m x a := by unfold doM; rw [e]; rfl
  rw [hd]
  obtain ⟨a1, a2⟩ := jump_m hm h ha
  simp only [sat_ok', sat_br, sat_leaf, y160_43, y160_42, y160_41, y160_40, y160_39, y160_38, y160_37, y160_36, y160_35, y160_34, y160_33, y160_32, y160_31, y160_30, y160_29, y160_28, y160_27, y160_26, y160_25, y160_24, y160_23, y160_22, y160_21, y160_20, y160_19, y160_18, y160_17, y160_16, y160_15, y160_14, y160_13, y160_12, y160_11, y160_10, y160_9, y160_8, y160_7, y160_6, y160_5, y160_4, y160_3, y160_2, y160_1, y160_0, g_fr, g_fbus, g_fstop, g_ffault, r_D, r_A, r_Other, r_PC, r_Flags, r_Mask, r_Super, r_Trace, Nat.zero_add, lenI_eq, ri_len, e, ef 14 1, ef 14 2, ef 14 3, ef 14 4, ef 14 5, ef 14 6, ef 14 7, ef 14 8, ef 14 9, ef 14 10, ef 14 11, ef 14 12, ef 14 13, et 14 14, ef 14 15, ef 14 16, ef 14 17, ef 14 18, ef 14 19, q_5, q_4, cond_true, cond_false, eqN_self, same_s, sameR_s, qt, q_3, q_6, true_and, forall_const, q_1, q_2, false_implies, and_true, implies_true, a1, a2]
 ·have hd : doM m x a = flowM m x := by unfold doM; rw [e]; rfl
  rw [hd]
  obtain ⟨a1, a2⟩ := flow_m hm h e
  simp only [sat_ok', sat_br, sat_leaf, y160_43, y160_42, y160_41, y160_40, y160_39, y160_38, y160_37, y160_36, y160_35, y160_34, y160_33, y160_32, y160_31, y160_30, y160_29, y160_28, y160_27, y160_26, y160_25, y160_24, y160_23, y160_22, y160_21, y160_20, y160_19, y160_18, y160_17, y160_16, y160_15, y160_14, y160_13, y160_12, y160_11, y160_10, y160_9, y160_8, y160_7, y160_6, y160_5, y160_4, y160_3, y160_2, y160_1, y160_0, g_fr, g_fbus, g_fstop, g_ffault, r_D, r_A, r_Other, r_PC, r_Flags, r_Mask, r_Super, r_Trace, Nat.zero_add, lenI_eq, ri_len, e, ef 15 1, ef 15 2, ef 15 3, ef 15 4, ef 15 5, ef 15 6, ef 15 7, ef 15 8, ef 15 9, ef 15 10, ef 15 11, ef 15 12, ef 15 13, ef 15 14, et 15 15, ef 15 16, ef 15 17, ef 15 18, ef 15 19, q_5, q_4, cond_true, cond_false, eqN_self, same_s, sameR_s, qt, q_3, q_6, true_and, forall_const, q_1, q_2, false_implies, and_true, implies_true, a1, a2]
 ·have hd : doM m x a = productM m x := by unfold doM; rw [e]; rfl
  rw [hd]
  obtain ⟨a1, a2⟩ := product_m hm h
  simp only [sat_ok', sat_br, sat_leaf, y160_43, y160_42, y160_41, y160_40, y160_39, y160_38, y160_37, y160_36, y160_35, y160_34, y160_33, y160_32, y160_31, y160_30, y160_29, y160_28, y160_27, y160_26, y160_25, y160_24, y160_23, y160_22, y160_21, y160_20, y160_19, y160_18, y160_17, y160_16, y160_15, y160_14, y160_13, y160_12, y160_11, y160_10, y160_9, y160_8, y160_7, y160_6, y160_5, y160_4, y160_3, y160_2, y160_1, y160_0, g_fr, g_fbus, g_fstop, g_ffault, r_D, r_A, r_Other, r_PC, r_Flags, r_Mask, r_Super, r_Trace, Nat.zero_add, lenI_eq, ri_len, e, ef 16 1, ef 16 2, ef 16 3, ef 16 4, ef 16 5, ef 16 6, ef 16 7, ef 16 8, ef 16 9, ef 16 10, ef 16 11, ef 16 12, ef 16 13, ef 16 14, ef 16 15, et 16 16, ef 16 17, ef 16 18, ef 16 19, q_5, q_4, cond_true, cond_false, eqN_self, same_s, sameR_s, qt, q_3, q_6, true_and, forall_const, q_1, q_2, false_implies, and_true, implies_true, a1, a2]
 ·have hd : doM m x a = productM m x := by unfold doM; rw [e]; rfl
  rw [hd]
  obtain ⟨a1, a2⟩ := product_m hm h
  simp only [sat_ok', sat_br, sat_leaf, y160_43, y160_42, y160_41, y160_40, y160_39, y160_38, y160_37, y160_36, y160_35, y160_34, y160_33, y160_32, y160_31, y160_30, y160_29, y160_28, y160_27, y160_26, y160_25, y160_24, y160_23, y160_22, y160_21, y160_20, y160_19, y160_18, y160_17, y160_16, y160_15, y160_14, y160_13, y160_12, y160_11, y160_10, y160_9, y160_8, y160_7, y160_6, y160_5, y160_4, y160_3, y160_2, y160_1, y160_0, g_fr, g_fbus, g_fstop, g_ffault, r_D, r_A, r_Other, r_PC, r_Flags, r_Mask, r_Super, r_Trace, Nat.zero_add, lenI_eq, ri_len, e, ef 17 1, ef 17 2, ef 17 3, ef 17 4, ef 17 5, ef 17 6, ef 17 7, ef 17 8, ef 17 9, ef 17 10, ef 17 11, ef 17 12, ef 17 13, ef 17 14, ef 17 15, ef 17 16, et 17 17, ef 17 18, ef 17 19, q_5, q_4, cond_true, cond_false, eqN_self, same_s, sameR_s, qt, q_3, q_6, true_and, forall_const, q_1, q_2, false_implies, and_true, implies_true, a1, a2]
 ·have hd : doM m x a = bcdM m x := by unfold doM; rw [e]; rfl
  rw [hd]
  obtain ⟨a1, a2⟩ := bcd_m hm h
  simp only [sat_ok', sat_br, sat_leaf, y160_43, y160_42, y160_41, y160_40, y160_39, y160_38, y160_37, y160_36, y160_35, y160_34, y160_33, y160_32, y160_31, y160_30, y160_29, y160_28, y160_27, y160_26, y160_25, y160_24, y160_23, y160_22, y160_21, y160_20, y160_19, y160_18, y160_17, y160_16, y160_15, y160_14, y160_13, y160_12, y160_11, y160_10, y160_9, y160_8, y160_7, y160_6, y160_5, y160_4, y160_3, y160_2, y160_1, y160_0, g_fr, g_fbus, g_fstop, g_ffault, r_D, r_A, r_Other, r_PC, r_Flags, r_Mask, r_Super, r_Trace, Nat.zero_add, lenI_eq, ri_len, e, ef 18 1, ef 18 2, ef 18 3, ef 18 4, ef 18 5, ef 18 6, ef 18 7, ef 18 8, ef 18 9, ef 18 10, ef 18 11, ef 18 12, ef 18 13, ef 18 14, ef 18 15, ef 18 16, ef 18 17, et 18 18, ef 18 19, q_5, q_4, cond_true, cond_false, eqN_self, same_s, sameR_s, qt, q_3, q_6, true_and, forall_const, q_1, q_2, false_implies, and_true, implies_true, a1, a2]
 ·have hd : doM m x a = statM m x := by unfold doM; rw [e]; rfl
  rw [hd]
  unfold statM
  cases hs : eqI x.Sub 0
  ·obtain ⟨a1, a2⟩ := status_m hm.r
   simp only [sat_ok', sat_br, sat_leaf, y160_43, y160_42, y160_41, y160_40, y160_39, y160_38, y160_37, y160_36, y160_35, y160_34, y160_33, y160_32, y160_31, y160_30, y160_29, y160_28, y160_27, y160_26, y160_25, y160_24, y160_23, y160_22, y160_21, y160_20, y160_19, y160_18, y160_17, y160_16, y160_15, y160_14, y160_13, y160_12, y160_11, y160_10, y160_9, y160_8, y160_7, y160_6, y160_5, y160_4, y160_3, y160_2, y160_1, y160_0, g_fr, g_fbus, g_fstop, g_ffault, r_D, r_A, r_Other, r_PC, r_Flags, r_Mask, r_Super, r_Trace, Nat.zero_add, lenI_eq, ri_len, e, ef 19 1, ef 19 2, ef 19 3, ef 19 4, ef 19 5, ef 19 6, ef 19 7, ef 19 8, ef 19 9, ef 19 10, ef 19 11, ef 19 12, ef 19 13, ef 19 14, ef 19 15, ef 19 16, ef 19 17, ef 19 18, et 19 19, q_5, q_4, cond_true, cond_false, eqN_self, same_s, sameR_s, qt, q_3, q_6, true_and, forall_const, q_1, q_2, false_implies, and_true, implies_true, hs, a1, a2, s1, s2, s3, s4, ri_set, List.length_set]
   rfl
  ·obtain ⟨a1, a2⟩ := with_m hm.r (stat_kind h e (eqI_iff.1 hs))
   simp only [sat_ok', sat_br, sat_leaf, y160_43, y160_42, y160_41, y160_40, y160_39, y160_38, y160_37, y160_36, y160_35, y160_34, y160_33, y160_32, y160_31, y160_30, y160_29, y160_28, y160_27, y160_26, y160_25, y160_24, y160_23, y160_22, y160_21, y160_20, y160_19, y160_18, y160_17, y160_16, y160_15, y160_14, y160_13, y160_12, y160_11, y160_10, y160_9, y160_8, y160_7, y160_6, y160_5, y160_4, y160_3, y160_2, y160_1, y160_0, g_fr, g_fbus, g_fstop, g_ffault, r_D, r_A, r_Other, r_PC, r_Flags, r_Mask, r_Super, r_Trace, Nat.zero_add, lenI_eq, ri_len, e, ef 19 1, ef 19 2, ef 19 3, ef 19 4, ef 19 5, ef 19 6, ef 19 7, ef 19 8, ef 19 9, ef 19 10, ef 19 11, ef 19 12, ef 19 13, ef 19 14, ef 19 15, ef 19 16, ef 19 17, ef 19 18, et 19 19, q_5, q_4, cond_true, cond_false, eqN_self, same_s, sameR_s, qt, q_3, q_6, true_and, forall_const, q_1, q_2, false_implies, and_true, implies_true, hs, a1, a2]
   rfl
def privB (x : GIns) : Bool := bif (bif eqI x.Op 15 then (bif eqI x.Sub 1 then true else eqI x.Sub 3) else false) then true else (bif eqI x.Op 19 then eqI x.Sub 0 else false)
theorem priv_s (x : GIns) : k159 x = true ∧ g159 x = privB x := by
 refine sat_hid (t := T159 x) (P := fun q => q = privB x) ?_
 unfold T159 privB
 simp only [sat_ok', sat_leaf, eqN_self, same_s, sameR_s, qt, q_3, q_6, true_and]
def FetP (t : Int) (z : MM × GIns × Int) : Prop := z.1.Ok t ∧ (fine z.1 = true → goodI z.2.1 = true ∧ (z.2.2 = 1 ∨ z.2.2 = 2))
theorem not_t {b : Bool} (h : (!b) = true) : b = false := by cases b <;> simp at h ⊢
theorem not_f {b : Bool} (h : (!b) = false) : b = true := by cases b <;> simp at h ⊢
theorem fet_ok {t : Int} {m : MM} (hm : m.Ok t) : FetP t (fetM m) := by
 have hp := inB_iff.1 hm.r.pw
 have hm0 : MM.Ok t { m with f := { m.f with PC := m.r.pc } } := ⟨hm.r, hm.b⟩
 obtain ⟨a3, a4⟩ := acc_ok (k := 3) hm0 (fit_f hm0 hm.r.pw) (by decide)
 have ha : inB ((m.r.pc + 2) % 65536) 0 65535 = true := by rw [inB_iff]; omega
 unfold fetM
 generalize accM { m with f := { m.f with PC := m.r.pc } } 3 2 m.r.pc 0 = q at a3 a4
 have hm1 : MM.Ok t { q.1 with f := { q.1.f with Word := q.2 } } := ⟨a3.r, a3.b⟩
 obtain ⟨b3, b4⟩ := acc_ok (k := 3) hm1 (fit_f hm1 ha) (by decide)
 unfold fet2
 refine cpair (P := fun z => FetP t z) (fun h => ⟨a3, fun h2 => absurd h2 (by rw [not_t h]; decide)⟩) fun h => ?_
 refine cpair (P := fun z => FetP t z) (fun h => ?_) fun h => ?_
 ·generalize accM { q.1 with f := { q.1.f with Word := q.2 } } 3 2 ((m.r.pc + 2) % 65536) 0 = p at b3 b4
  unfold fet3
  refine cpair (P := fun z => FetP t z) (fun h => ⟨b3, fun h2 => absurd h2 (by rw [not_t h]; decide)⟩) fun h => ?_
  exact cpair (P := fun z => FetP t z) (fun h => ⟨⟨b3.r, b3.b⟩, fun h2 => absurd h2 (by show ¬ eqI 4 0 = true; decide)⟩) fun h => ⟨b3, fun _ => ⟨not_f h, Or.inr rfl⟩⟩
 ·exact cpair (P := fun z => FetP t z) (fun h => ⟨⟨a3.r, a3.b⟩, fun h2 => absurd h2 (by show ¬ eqI 4 0 = true; decide)⟩) fun h => ⟨⟨a3.r, a3.b⟩, fun _ => ⟨not_f h, Or.inl rfl⟩⟩
def stepB (q : MM × GIns × Int) : MM := bif fine q.1 && (privB q.2.1 && !q.1.r.sup) then { q.1 with f := { q.1.f with Vector := 8 } } else q.1
noncomputable def stepC (w : MM) (x : GIns) (n pc : Int) : MM := bif fine w then doM { w with r := { w.r with pc := (pc + 2 * n) % 65536 } } x pc else w
noncomputable def stepA (m : MM) : MM := stepC (stepB (fetM m)) (fetM m).2.1 (fetM m).2.2 m.r.pc
def cpuG (r : RM) (zs : List Int) (l : List GAccess) (stop halt : Bool) : GCpu := ⟨r.g, bus zs l, stop, halt⟩
def stepR (m w : MM) : GCpu × GFault := bif fine w then (cpuG w.r w.zs w.l w.stop false, ⟨0, 0, 0, 0, false⟩) else (cpuG m.r w.zs w.l m.stop false, w.f)
theorem stepA_ok {t : Int} {m : MM} (hm : m.Ok t) : (stepA m).Ok t := by
 obtain ⟨f1, f2⟩ := fet_ok hm
 unfold stepA stepC
 have b1 : (stepB (fetM m)).Ok t := by unfold stepB; exact cpair (P := fun z => MM.Ok t z) (fun _ => ⟨f1.r, f1.b⟩) (fun _ => f1)
 refine cpair (P := fun z => MM.Ok t z) (fun h => ?_) (fun _ => b1)
 have hf : fine (fetM m).1 = true := by
  unfold stepB at h
  cases hh : fine (fetM m).1
  ·rw [hh, Bool.false_and, cond_false, hh] at h; exact h
  ·rfl
 exact do_ok ⟨b1.r.setP (inB_iff.2 (by omega)), b1.b⟩ (InsOk.of (f2 hf).1)
theorem lenC_ok {t : Int} {r : RM} {zs : List Int} {l : List GAccess} (s h : Bool) (hr : r.Ok t) (hb : BusOk zs l) : LenC (cpuG r zs l s h) := by
 have h1 := hr.d4
 have h2 := hr.a4
 have h3 := hb.hz
 have h4 := hb.hl
 refine ⟨?_, ?_, ?_, ?_⟩
 ·show (ri r.d).length ≤ 2000; rw [ri_len]; omega
 ·show (ri r.a).length ≤ 2000; rw [ri_len]; omega
 ·show (ri zs).length ≤ 2000; rw [ri_len]; omega
 ·show (l.map GAccess.row).length ≤ 2000; rw [List.length_map]; omega
def f0 : GFault := ⟨0, 0, 0, 0, false⟩
theorem start_m {t : Int} {r : RM} {zs : List Int} {l : List GAccess} {s h : Bool} (hr : r.Ok t) (hb : BusOk zs l) : k78 (cpuG r zs l s h) = true ∧ g78 (cpuG r zs l s h) = MM.g ⟨r, zs, l, s, f0⟩ := start_s (lenC_ok s h hr hb)
theorem cpu_m {t : Int} {m : MM} (hm : m.Ok t) : k80 m.g = true ∧ g80 m.g = cpuG m.r m.zs m.l m.stop false := cpu_s (m := m.g) (lenC_ok m.stop false hm.r hm.b)
theorem step_m {t : Int} {r : RM} {zs : List Int} {l : List GAccess} {s h : Bool} (hr : r.Ok t) (hb : BusOk zs l) : k87 (cpuG r zs l s h) = true ∧ g87 (cpuG r zs l s h) = stepR ⟨r, zs, l, s, f0⟩ (stepA ⟨r, zs, l, s, f0⟩) := by
 refine sat_hid (t := T87 (cpuG r zs l s h)) (P := fun q => q = stepR ⟨r, zs, l, s, f0⟩ (stepA ⟨r, zs, l, s, f0⟩)) ?_
 have hm : MM.Ok t ⟨r, zs, l, s, f0⟩ := ⟨hr, hb⟩
 obtain ⟨a1, a2⟩ := start_m (s := s) (h := h) hr hb
 obtain ⟨b1, b2⟩ := fet_m hm
 obtain ⟨f1, f2⟩ := fet_ok hm
 have e1 : (cpuG r zs l s h).R = r.g := rfl
 have e2 : (cpuG r zs l s h).Stop = s := rfl
 have lR := lenC_ok s h hr hb
 obtain ⟨o1, o2⟩ := ownR_s (r := r.g) lR.1 lR.2.1
 unfold T87 stepA
 have hA := stepA_ok hm
 unfold stepA at hA
 obtain ⟨m, hM⟩ : ∃ m : MM, m = ⟨r, zs, l, s, f0⟩ := ⟨_, rfl⟩
 have hr' : r.g = m.r.g := by rw [hM]
 have hs' : s = m.stop := by rw [hM]
 have hp' : (g78 (cpuG r zs l s h)).fr = m.r.g := by rw [a2, ← hM]; rfl
 rw [← hM] at a2 hm b1 b2 f1 f2 hA ⊢
 rw [hr'] at e1 o1 o2
 replace e2 : (cpuG r zs l s h).Stop = m.stop := hs'
 have mp := inB_iff.1 hm.r.pw
 generalize hF : fetM m = q at b1 b2 f1 f2 hA ⊢
 obtain ⟨q1, x, n⟩ := q
 dsimp only at b1 b2 f1 f2 hA ⊢
 have cp : ∀ w : MM, w.Ok t → k80 w.g = true ∧ g80 w.g = cpuG w.r w.zs w.l w.stop false := fun w hw => cpu_m hw
 cases hf : eqI q1.f.Vector 0
 ·have hB : stepB (q1, x, n) = q1 := by unfold stepB fine; rw [hf]; rfl
  have hC : stepC q1 x n m.r.pc = q1 := by unfold stepC fine; rw [hf]; rfl
  rw [hB, hC]
  obtain ⟨c1, c2⟩ := cp ⟨m.r, q1.zs, q1.l, m.stop, q1.f⟩ ⟨hm.r, f1.b⟩
  have c1' : k80 (Gl10M.mk m.r.g (bus q1.zs q1.l) m.stop q1.f) = true := c1
  have c2' : g80 (Gl10M.mk m.r.g (bus q1.zs q1.l) m.stop q1.f) = cpuG m.r q1.zs q1.l m.stop false := c2
  simp only [sat_ok', sat_br, sat_leaf, y87_93, y87_92, y87_91, y87_90, y87_89, y87_88, y87_87, y87_86, y87_85, y87_84, y87_83, y87_82, y87_81, y87_80, y87_79, y87_78, y87_77, y87_76, y87_75, y87_74, y87_73, y87_72, y87_71, y87_70, y87_69, y87_68, y87_67, y87_66, y87_65, y87_64, y87_63, y87_62, y87_61, y87_60, y87_59, y87_58, y87_57, y87_56, y87_55, y87_54, y87_53, y87_52, y87_51, y87_50, y87_49, y87_48, y87_47, y87_46, y87_45, y87_44, y87_43, y87_42, y87_41, y87_40, y87_39, y87_38, y87_37, y87_36, y87_35, y87_34, y87_33, y87_32, y87_31, y87_30, y87_29, y87_28, y87_27, y87_26, y87_25, y87_24, y87_23, y87_22, y87_21, y87_20, y87_19, y87_18, y87_17, y87_16, y87_15, y87_14, y87_13, y87_12, y87_11, y87_10, y87_9, y87_8, y87_7, y87_6, y87_5, y87_4, y87_3, y87_2, y87_1, y87_0, g_fr, g_fbus, g_fstop, g_ffault, r_D, r_A, r_Other, r_PC, r_Flags, r_Mask, r_Super, r_Trace, a1, a2, b1, b2, e1, e2, o1, o2, c1', c2', fine_s, (priv_s _).1, (priv_s _).2, hf, q_5, q_4, cond_true, cond_false, eqN_self, same_s, sameR_s, qt, q_3, q_6, true_and, forall_const, q_1, q_2, false_implies, and_true, implies_true]
  unfold stepR fine
  rw [hf]; rfl
 ·obtain ⟨g1, g2⟩ := f2 hf
  have hI := InsOk.of g1
  have en : andI (addI m.r.pc (mulI 2 n)) 65535 = (m.r.pc + 2 * n) % 65536 := by rw [mulI_eq (by omega), addI_eq (by omega), and16]
  cases hv : privB x && !q1.r.sup
  ·have hB : stepB (q1, x, n) = q1 := by unfold stepB fine; rw [hf, hv]; rfl
   have hC : stepC q1 x n m.r.pc = doM { q1 with r := { q1.r with pc := (m.r.pc + 2 * n) % 65536 } } x m.r.pc := by unfold stepC fine; rw [hf]; rfl
   have hm2 : MM.Ok t { q1 with r := { q1.r with pc := (m.r.pc + 2 * n) % 65536 } } := ⟨f1.r.setP (inB_iff.2 (by omega)), f1.b⟩
   obtain ⟨d1, d2⟩ := do_m hm2 hI hm.r.pw
   have d3 := do_ok (a := m.r.pc) hm2 hI
   rw [hB, hC]
   generalize doM { q1 with r := { q1.r with pc := (m.r.pc + 2 * n) % 65536 } } x m.r.pc = w at d2 d3
   have hw : (bif (bif true then privB x else false) then (!q1.r.sup) else false) = false := by
    rw [← hv]; cases privB x <;> rfl
   have sp : (Gl10M.mk (RM.g { q1.r with pc := (m.r.pc + 2 * n) % 65536 }) (bus q1.zs q1.l) q1.stop q1.f) = MM.g { q1 with r := { q1.r with pc := (m.r.pc + 2 * n) % 65536 } } := rfl
   obtain ⟨c1, c2⟩ := cp ⟨m.r, w.zs, w.l, m.stop, w.f⟩ ⟨hm.r, d3.b⟩
   have c1' : k80 (Gl10M.mk m.r.g (bus w.zs w.l) m.stop w.f) = true := c1
   have c2' : g80 (Gl10M.mk m.r.g (bus w.zs w.l) m.stop w.f) = cpuG m.r w.zs w.l m.stop false := c2
   obtain ⟨j1, j2⟩ := cp w d3
   cases hz : eqI w.f.Vector 0
   ·simp only [sat_ok', sat_br, sat_leaf, y87_93, y87_92, y87_91, y87_90, y87_89, y87_88, y87_87, y87_86, y87_85, y87_84, y87_83, y87_82, y87_81, y87_80, y87_79, y87_78, y87_77, y87_76, y87_75, y87_74, y87_73, y87_72, y87_71, y87_70, y87_69, y87_68, y87_67, y87_66, y87_65, y87_64, y87_63, y87_62, y87_61, y87_60, y87_59, y87_58, y87_57, y87_56, y87_55, y87_54, y87_53, y87_52, y87_51, y87_50, y87_49, y87_48, y87_47, y87_46, y87_45, y87_44, y87_43, y87_42, y87_41, y87_40, y87_39, y87_38, y87_37, y87_36, y87_35, y87_34, y87_33, y87_32, y87_31, y87_30, y87_29, y87_28, y87_27, y87_26, y87_25, y87_24, y87_23, y87_22, y87_21, y87_20, y87_19, y87_18, y87_17, y87_16, y87_15, y87_14, y87_13, y87_12, y87_11, y87_10, y87_9, y87_8, y87_7, y87_6, y87_5, y87_4, y87_3, y87_2, y87_1, y87_0, g_fr, g_fbus, g_fstop, g_ffault, r_D, r_A, r_Other, r_PC, r_Flags, r_Mask, r_Super, r_Trace, set_pc, a1, a2, b1, b2, e1, e2, o1, o2, fine_s, (priv_s _).1, (priv_s _).2, hf, hw, en, sp, d1, d2, hz, c1', c2', q_5, q_4, cond_false, eqN_self, same_s, sameR_s, qt, q_3, q_6, true_and, forall_const, q_1, q_2, false_implies, and_true, implies_true]
    unfold stepR fine
    rw [hz]; rfl
   ·simp only [sat_ok', sat_br, sat_leaf, y87_93, y87_92, y87_91, y87_90, y87_89, y87_88, y87_87, y87_86, y87_85, y87_84, y87_83, y87_82, y87_81, y87_80, y87_79, y87_78, y87_77, y87_76, y87_75, y87_74, y87_73, y87_72, y87_71, y87_70, y87_69, y87_68, y87_67, y87_66, y87_65, y87_64, y87_63, y87_62, y87_61, y87_60, y87_59, y87_58, y87_57, y87_56, y87_55, y87_54, y87_53, y87_52, y87_51, y87_50, y87_49, y87_48, y87_47, y87_46, y87_45, y87_44, y87_43, y87_42, y87_41, y87_40, y87_39, y87_38, y87_37, y87_36, y87_35, y87_34, y87_33, y87_32, y87_31, y87_30, y87_29, y87_28, y87_27, y87_26, y87_25, y87_24, y87_23, y87_22, y87_21, y87_20, y87_19, y87_18, y87_17, y87_16, y87_15, y87_14, y87_13, y87_12, y87_11, y87_10, y87_9, y87_8, y87_7, y87_6, y87_5, y87_4, y87_3, y87_2, y87_1, y87_0, g_fr, g_fbus, g_fstop, g_ffault, r_D, r_A, r_Other, r_PC, r_Flags, r_Mask, r_Super, r_Trace, set_pc, a1, a2, b1, b2, e1, e2, o1, o2, fine_s, (priv_s _).1, (priv_s _).2, hf, hw, en, sp, d1, d2, hz, j1, j2, q_5, q_4, cond_false, eqN_self, same_s, sameR_s, qt, q_3, q_6, true_and, forall_const, q_1, q_2, false_implies, and_true, implies_true]
    unfold stepR fine
    rw [hz]; rfl
  ·have hB : stepB (q1, x, n) = { q1 with f := { q1.f with Vector := 8 } } := by unfold stepB fine; rw [hf, hv]; rfl
   have hC : stepC { q1 with f := { q1.f with Vector := 8 } } x n m.r.pc = { q1 with f := { q1.f with Vector := 8 } } := by unfold stepC fine; rfl
   rw [hB, hC]
   have hw : (bif (bif true then privB x else false) then (!q1.r.sup) else false) = true := by
    rw [Bool.and_eq_true] at hv; rw [hv.1, hv.2]; rfl
   obtain ⟨c1, c2⟩ := cp ⟨m.r, q1.zs, q1.l, m.stop, { q1.f with Vector := 8 }⟩ ⟨hm.r, f1.b⟩
   have c1' : k80 (Gl10M.mk m.r.g (bus q1.zs q1.l) m.stop { q1.f with Vector := 8 }) = true := c1
   have c2' : g80 (Gl10M.mk m.r.g (bus q1.zs q1.l) m.stop { q1.f with Vector := 8 }) = cpuG m.r q1.zs q1.l m.stop false := c2
   simp only [sat_ok', sat_br, sat_leaf, y87_93, y87_92, y87_91, y87_90, y87_89, y87_88, y87_87, y87_86, y87_85, y87_84, y87_83, y87_82, y87_81, y87_80, y87_79, y87_78, y87_77, y87_76, y87_75, y87_74, y87_73, y87_72, y87_71, y87_70, y87_69, y87_68, y87_67, y87_66, y87_65, y87_64, y87_63, y87_62, y87_61, y87_60, y87_59, y87_58, y87_57, y87_56, y87_55, y87_54, y87_53, y87_52, y87_51, y87_50, y87_49, y87_48, y87_47, y87_46, y87_45, y87_44, y87_43, y87_42, y87_41, y87_40, y87_39, y87_38, y87_37, y87_36, y87_35, y87_34, y87_33, y87_32, y87_31, y87_30, y87_29, y87_28, y87_27, y87_26, y87_25, y87_24, y87_23, y87_22, y87_21, y87_20, y87_19, y87_18, y87_17, y87_16, y87_15, y87_14, y87_13, y87_12, y87_11, y87_10, y87_9, y87_8, y87_7, y87_6, y87_5, y87_4, y87_3, y87_2, y87_1, y87_0, g_fr, g_fbus, g_fstop, g_ffault, r_D, r_A, r_Other, r_PC, r_Flags, r_Mask, r_Super, r_Trace, a1, a2, b1, b2, e1, e2, o1, o2, fine_s, (priv_s _).1, (priv_s _).2, hf, hw, ef 8 0, c1', c2', q_5, q_4, cond_false, eqN_self, same_s, sameR_s, qt, q_3, q_6, true_and, forall_const, q_1, q_2, false_implies, and_true, implies_true]
   rfl
end Go.Proofs.YtdipcnijfkdnfaaGreatStack

namespace Go.Proofs.YtdipcnijfkdnfaaGreatStack
open Go Go.Zq
set_option maxHeartbeats 4000000
set_option maxRecDepth 100000
theorem amongC {B : Int} {c : Gl1Cur} (r : List Int) (h1 : CO B c) (h2 : B < 2500000000000000000) (h3 : 1 ≤ r.length) : k90 (ri r) c = true ∧ CO (B + 2) (g90 (ri r) c).1 := by
 obtain ⟨a, b, -⟩ := among_d (r := ri r) ⟨r, rfl⟩ (by rw [ri_len]; exact h3) h1 (by omega)
 exact ⟨a, b⟩
theorem value_d {B : Int} {c : Gl1Cur} (h : CO B c) (hB : B < 2000000000000000000) : k72 c = true ∧ CO (B + 8) (g72 c).1 := by
 refine sat_hid (t := T72 c) (P := fun r => CO (B + 8) r.1) ?_
 obtain ⟨a1, a2⟩ := one_d 2 h (by omega)
 obtain ⟨b1, b2⟩ := amongC [0, 1, 127, 128, 255, 256, 32767, 32768, 65535, 65536, -1] a2 (by omega) (by decide)
 obtain ⟨d1, d2, -⟩ := pick_d 256 a2 (by omega)
 obtain ⟨e1, e2, -⟩ := pick_d 2 d2 (by omega)
 obtain ⟨f1, f2, -⟩ := pick_d 256 e2 (by omega)
 unfold T72
 simp only [sat_ok', sat_br, sat_leaf, a1, d1, e1, Bool.and_true, true_and]
 refine ⟨fun _ => ⟨b1, b2.mono (by omega)⟩, fun _ => ⟨?_, f2.mono (by omega)⟩⟩
 rw [Bool.true_and]; exact f1
theorem CO_if {B : Int} {p : Bool} {c d : Gl1Cur} (h : CO B c) (k : CO B d) : CO B (Gl1Cur.mk (bif p then c.fcode else d.fcode) (bif p then c.fat else d.fat) (bif p then c.fseed else d.fseed)) := by
 cases p
 ·exact k
 ·exact h
theorem flag_k (b : Bool) : k179 b 1 = true := by
 refine (sat_hid (t := T179 b 1) (P := fun _ => True) ?_).1
 unfold T179
 simp only [sat_ok', sat_br, sat_leaf, true_and, implies_true, and_true]
theorem operand_d {B : Int} {c : Gl1Cur} (h : CO B c) (hB : B < 2000000000000000000) : k186 c = true ∧ CO (B + 14) (g186 c).1 := by
 refine sat_hid (t := T186 c) (P := fun r => CO (B + 14) r.1) ?_
 have tl : ∀ {c' : Gl1Cur}, CO (B + 6) c' → k86 60 c' = true ∧ CO (B + 14) (g86 60 c').1 ∧ k89 9 (g86 60 c').1 = true ∧ k89 5 (g89 9 (g86 60 c').1).1 = true ∧ k89 2 (g89 5 (g89 9 (g86 60 c').1).1).1 = true ∧ CO (B + 14) (g89 2 (g89 5 (g89 9 (g86 60 c').1).1).1).1 := fun {c'} hc => by
  obtain ⟨a1, a2⟩ := one_d 60 hc (by omega)
  obtain ⟨b1, b2, -⟩ := pick_d 9 a2 (by omega)
  obtain ⟨e1, e2, -⟩ := pick_d 5 b2 (by omega)
  obtain ⟨f1, f2, -⟩ := pick_d 2 e2 (by omega)
  exact ⟨a1, a2.mono (by omega), b1, e1, f1, f2.mono (by omega)⟩
 obtain ⟨a1, a2, -⟩ := pick_d 8 h (by omega)
 obtain ⟨b1, b2, -⟩ := pick_d 4 a2 (by omega)
 obtain ⟨c1, c2⟩ := amongC [0, 1, 2, 20, 100, 200, 384, 448, 65535, 65534] b2 (by omega) (by decide)
 obtain ⟨d1, d2⟩ := amongC [0, 1, 2, 20, 100, 200, 384, 448, 65535, 65534] a2 (by omega) (by decide)
 simp only [ri_cons, ri_nil] at c1 c2 d1 d2
 obtain ⟨p1, p2, p3, p4, p5, p6⟩ := tl (c2.mono (by omega))
 obtain ⟨q1, q2, q3, q4, q5, q6⟩ := tl (b2.mono (by omega))
 obtain ⟨r1, r2, r3, r4, r5, r6⟩ := tl (d2.mono (by omega))
 obtain ⟨s1, s2, s3, s4, s5, s6⟩ := tl (a2.mono (by omega))
 unfold T186
 simp only [sat_ok', sat_br, sat_leaf, y186_9, y186_8, y186_7, y186_6, y186_5, y186_4, y186_3, y186_2, y186_1, y186_0, (ext_s _).1, a1, b1, c1, d1, p1, p3, p4, p5, q1, q3, q4, q5, r1, r3, r4, r5, s1, s3, s4, s5, Bool.and_true, true_and]
 refine ⟨fun _ => ⟨fun _ => ⟨fun _ => p6, fun _ => p2⟩, fun _ => ⟨fun _ => q6, fun _ => q2⟩⟩, fun _ => ⟨fun _ => ⟨fun _ => r6, fun _ => r2⟩, fun _ => ⟨fun _ => s6, fun _ => s2⟩⟩⟩
def InsL (B : Int) (n : Nat) (c : Gl1Cur) (r : Option V185_0) : Prop := match r with
 | none => CO (B + 360) c
 | some w => ∃ m, m < n ∧ (CO (B + 60 * (6 - m)) w.b0 ∧ w.s3 = 6 - (m : Int) ∧ m ≤ 6)
theorem ins_loop (c : Gl1Cur) (x : GIns) {B : Int} (h : CO B c) (hB : B < 1000000000000000000) : i185_0 (V185_0.mk c x 0) = true ∧ CO (B + 360) (w185_0 (V185_0.mk c x 0)).b0 := by
 unfold i185_0 w185_0
 refine loop_w (Post := fun w : V185_0 => CO (B + 360) w.b0) (loop_sat (fun (m : Nat) (v : V185_0) => CO (B + 60 * (6 - m)) v.b0 ∧ v.s3 = 6 - (m : Int) ∧ m ≤ 6) _ ?_ 2097152 6 _ ⟨h.mono (by omega), rfl, by omega⟩ (by omega))
 rintro n v ⟨h, h2, h3⟩
 have hp : CO (B + 360) v.b0 := h.mono (by omega)
 have key : (N185_0 v).Sat (InsL B n v.b0) := by
  have stp : InsL B n v.b0 none := hp
  by_cases hn : n = 0
  ·have e : ltI v.s3 6 = false := by rw [ltI_f]; omega
   unfold N185_0
   simp only [sat_ok', sat_br, sat_leaf, e, true_and, Bool.false_eq_true, false_implies]
   exact fun _ => stp
  have nxt : ∀ c', CO (B + 60 * (6 - n) + 60) c' → InsL B n v.b0 (some (V185_0.mk c' v.b1 (addI v.s3 1))) := fun c' hc => ⟨n - 1, by omega, hc.mono (by omega), by show addI v.s3 1 = _; rw [addI_eq (by omega)]; omega, by omega⟩
  obtain ⟨a1, a2, -⟩ := pick_d 19 h (by omega)
  obtain ⟨b1, b2, -⟩ := pick_d 2 a2 (by omega)
  obtain ⟨c1, c2, -⟩ := pick_d 4 b2 (by omega)
  obtain ⟨o1, o2⟩ := operand_d c2 (by omega)
  obtain ⟨d1, d2, -⟩ := pick_d 4 o2 (by omega)
  obtain ⟨e1, e2, -⟩ := pick_d 2 o2 (by omega)
  obtain ⟨f1, f2, -⟩ := pick_d 7 e2 (by omega)
  obtain ⟨g1, g2, -⟩ := pick_d 4 f2 (by omega)
  obtain ⟨i1, i2, -⟩ := pick_d 8 e2 (by omega)
  obtain ⟨j1, j2⟩ := amongC [2, 4, 6, 8, 65526, 65530, 0, 3] i2 (by omega) (by decide)
  obtain ⟨l1, l2⟩ := amongC [0, 1, 2, 2, 3, 4, 5, 6] o2 (by omega) (by decide)
  simp only [ri_cons, ri_nil] at j1 j2 l1 l2
  obtain ⟨m1, m2, -⟩ := pick_d 4 l2 (by omega)
  obtain ⟨n1, n2⟩ := amongC [0, 256, 512, 1023] m2 (by omega) (by decide)
  obtain ⟨q1, q2⟩ := amongC [0, 256, 512, 1023] l2 (by omega) (by decide)
  obtain ⟨r1, r2⟩ := amongC [0, 256, 480, 768, 31] o2 (by omega) (by decide)
  simp only [ri_cons, ri_nil] at n1 n2 q1 q2 r1 r2
  obtain ⟨s1, s2⟩ := one_d 2 r2 (by omega)
  obtain ⟨t1, t2, -⟩ := pick_d 4 s2 (by omega)
  have o2' : CO (B + 60 * (6 - n) + 60) _ := o2.mono (by omega)
  have d2' : CO (B + 60 * (6 - n) + 60) _ := d2.mono (by omega)
  have e2' : CO (B + 60 * (6 - n) + 60) _ := e2.mono (by omega)
  have g2' : CO (B + 60 * (6 - n) + 60) _ := g2.mono (by omega)
  have j2' : CO (B + 60 * (6 - n) + 60) _ := j2.mono (by omega)
  have l2' : CO (B + 60 * (6 - n) + 60) _ := l2.mono (by omega)
  have m2' : CO (B + 60 * (6 - n) + 60) _ := m2.mono (by omega)
  have n2' : CO (B + 60 * (6 - n) + 60) _ := n2.mono (by omega)
  have q2' : CO (B + 60 * (6 - n) + 60) _ := q2.mono (by omega)
  have s2' : CO (B + 60 * (6 - n) + 60) _ := s2.mono (by omega)
  have t2' : CO (B + 60 * (6 - n) + 60) _ := t2.mono (by omega)
  unfold N185_0
  simp only [sat_ok', sat_br, sat_leaf, y185_0_l_32, y185_0_l_31, y185_0_l_30, y185_0_l_29, y185_0_l_28, y185_0_l_27, y185_0_l_26, y185_0_l_25, y185_0_l_24, y185_0_l_23, y185_0_l_22, y185_0_l_21, y185_0_l_20, y185_0_l_19, y185_0_l_18, y185_0_l_17, y185_0_l_16, y185_0_l_15, y185_0_l_14, y185_0_l_13, y185_0_l_12, y185_0_l_11, y185_0_l_10, y185_0_l_9, y185_0_l_8, y185_0_l_7, y185_0_l_6, y185_0_l_5, y185_0_l_4, y185_0_l_3, y185_0_l_2, y185_0_l_1, y185_0_l_0, same_s, sameR_s, eqN_self, flag_k, (gins_s _).1, a1, b1, c1, o1, d1, e1, f1, g1, i1, j1, l1, m1, n1, q1, r1, s1, t1, Bool.and_true, true_and]
  repeat' first
   | with_reducible exact stp
   | (with_reducible refine nxt _ ?_; with_reducible assumption)
   | intro _
   | with_reducible constructor
 exact key
def InsP (B : Int) (r : Gl1Cur × GIns) : Prop := CO (B + 420) r.1
theorem ins_d {B : Int} {c : Gl1Cur} (h : CO B c) (hB : B < 1000000000000000000) : k185 c = true ∧ CO (B + 420) (g185 c).1 := by
 refine sat_hid (t := T185 c) (P := fun r => CO (B + 420) r.1) ?_
 obtain ⟨w1, w2⟩ := ins_loop c ⟨0, 0, 0, ⟨0, 0, 0⟩, 0⟩ h hB
 obtain ⟨a1, a2, -⟩ := pick_d 19 w2 (by omega)
 obtain ⟨b1, b2, -⟩ := pick_d 2 a2 (by omega)
 obtain ⟨c1, c2, -⟩ := pick_d 4 b2 (by omega)
 obtain ⟨o1, o2⟩ := operand_d c2 (by omega)
 obtain ⟨d1, d2, -⟩ := pick_d 4 o2 (by omega)
 obtain ⟨e1, e2, -⟩ := pick_d 2 o2 (by omega)
 obtain ⟨f1, f2, -⟩ := pick_d 7 e2 (by omega)
 obtain ⟨g1, g2, -⟩ := pick_d 4 f2 (by omega)
 obtain ⟨i1, i2, -⟩ := pick_d 8 e2 (by omega)
 obtain ⟨j1, j2⟩ := amongC [2, 4, 6, 8, 65526, 65530, 0, 3] i2 (by omega) (by decide)
 obtain ⟨l1, l2⟩ := amongC [0, 1, 2, 2, 3, 4, 5, 6] o2 (by omega) (by decide)
 simp only [ri_cons, ri_nil] at j1 j2 l1 l2
 obtain ⟨m1, m2, -⟩ := pick_d 4 l2 (by omega)
 obtain ⟨n1, n2⟩ := amongC [0, 256, 512, 1023] m2 (by omega) (by decide)
 obtain ⟨q1, q2⟩ := amongC [0, 256, 512, 1023] l2 (by omega) (by decide)
 obtain ⟨r1, r2⟩ := amongC [0, 256, 480, 768, 31] o2 (by omega) (by decide)
 simp only [ri_cons, ri_nil] at n1 n2 q1 q2 r1 r2
 obtain ⟨s1, s2⟩ := one_d 2 r2 (by omega)
 obtain ⟨t1, t2, -⟩ := pick_d 4 s2 (by omega)
 have o2' : CO (B + 420) _ := o2.mono (by omega)
 have d2' : CO (B + 420) _ := d2.mono (by omega)
 have e2' : CO (B + 420) _ := e2.mono (by omega)
 have g2' : CO (B + 420) _ := g2.mono (by omega)
 have j2' : CO (B + 420) _ := j2.mono (by omega)
 have l2' : CO (B + 420) _ := l2.mono (by omega)
 have m2' : CO (B + 420) _ := m2.mono (by omega)
 have n2' : CO (B + 420) _ := n2.mono (by omega)
 have q2' : CO (B + 420) _ := q2.mono (by omega)
 have s2' : CO (B + 420) _ := s2.mono (by omega)
 have t2' : CO (B + 420) _ := t2.mono (by omega)
 have w2' : CO (B + 420) _ := w2.mono (by omega)
 have nxt : ∀ c' x, CO (B + 420) c' → InsP B (c', x) := fun c' x h => h
 have key : (T185 c).Sat (InsP B) := by
  unfold T185
  simp only [sat_ok', sat_br, sat_leaf, y185_18, y185_17, y185_16, y185_15, y185_14, y185_13, y185_12, y185_11, y185_10, y185_9, y185_8, y185_7, y185_6, y185_5, y185_4, y185_3, y185_2, y185_1, y185_0, same_s, sameR_s, eqN_self, flag_k, (gins_s _).1, w1, a1, b1, c1, o1, d1, e1, f1, g1, i1, j1, l1, m1, n1, q1, r1, s1, t1, Bool.and_true, true_and]
  repeat' first
   | (with_reducible refine nxt _ _ ?_; with_reducible assumption)
   | intro _
   | with_reducible constructor
 exact key
theorem any_d {B : Int} {c : Gl1Cur} (h : CO B c) (hB : B < 1000000000000000000) : k123 c = true ∧ CO (B + 500) (g123 c).1 := by
 refine sat_hid (t := T123 c) (P := fun r => CO (B + 500) r.1) ?_
 obtain ⟨a1, a2⟩ := ins_d h hB
 obtain ⟨b1, b2⟩ := one_d 20 a2 (by omega)
 obtain ⟨c1, c2, -⟩ := pick_d 22 b2 (by omega)
 obtain ⟨d1, d2, -⟩ := pick_d 4 c2 (by omega)
 obtain ⟨e1, e2, -⟩ := pick_d 5 d2 (by omega)
 obtain ⟨f1, f2⟩ := operand_d e2 (by omega)
 obtain ⟨g1, g2, -⟩ := pick_d 9 f2 (by omega)
 unfold T123
 simp only [sat_ok', sat_br, sat_leaf, y123_2, y123_1, y123_0, a1, b1, c1, d1, e1, f1, g1, Bool.and_true, true_and]
 exact ⟨fun _ => g2.mono (by omega), fun _ => b2.mono (by omega)⟩
theorem CO_0 {x : List Row} (h : bytesOk x = true) : CO 0 (Gl1Cur.mk x 0 0) := ⟨h, Int.le_refl 0, Int.le_refl 0⟩
end Go.Proofs.YtdipcnijfkdnfaaGreatStack
