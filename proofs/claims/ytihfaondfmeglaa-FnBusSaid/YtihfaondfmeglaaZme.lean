/- Bus: the plain law. -/
import Derived.Test.YtihfaondfmeglaaZqBusQ
import Derived.Test.YtihfaondfmeglaaZmd
set_option linter.unusedVariables false
set_option linter.unusedSimpArgs false
namespace Go.Proofs.YtihfaondfmeglaaBus
open Go Go.Zq
set_option maxHeartbeats 4000000
set_option maxRecDepth 100000

/-! Bounds, lists of bytes, equal lists. -/
@[simp] theorem within_g (x a b : Int) : g74 x a b = inB x a b := by
  simp only [g74, hid_eq, T74, val_ok, val_leaf, geI, leI, inB, ge_iff_le]
  cases decide (a ≤ x) <;> rfl
@[simp] theorem within_k (x a b : Int) : k74 x a b = true := by
  simp [k74, hid_eq, T74]
@[simp] theorem l1In_g (x a b : Int) : g78 x a b = inB x a b := by
  simp only [g78, hid_eq, T78, val_ok, val_leaf, geI, leI, inB, ge_iff_le]
  cases decide (a ≤ x) <;> rfl
@[simp] theorem l1In_k (x a b : Int) : k78 x a b = true := by
  simp [k78, hid_eq, T78]
theorem bytesB_f {zs : List Int} {i : Nat} (h : i < zs.length) (hz : inB zs[i] 0 255 = false) : bytesB zs = false := by
  unfold bytesB
  rw [List.all_eq_false]
  exact ⟨zs[i], List.getElem_mem h, by simp [hz]⟩
theorem bytesB_t {zs : List Int} (h : ∀ j (hj : j < zs.length), inB zs[j] 0 255 = true) : bytesB zs = true := by
  unfold bytesB
  rw [List.all_eq_true]
  intro z hz
  obtain ⟨j, hj, rfl⟩ := List.getElem_of_mem hz
  exact h j hj
theorem l4_loop (zs : List Int) (hl : zs.length < 1000000) : i85_0 (V85_0.mk (ri zs) (lenI (ri zs)) 0) = true ∧ (ltI (w85_0 (V85_0.mk (ri zs) (lenI (ri zs)) 0)).s7 (w85_0 (V85_0.mk (ri zs) (lenI (ri zs)) 0)).s6 = !bytesB zs) := by
  unfold i85_0 w85_0
  refine loop_w (Post := fun w => ltI w.s7 w.s6 = !bytesB zs) (loop_sat (fun n v => ∃ i : Nat, v = V85_0.mk (ri zs) (lenI (ri zs)) i ∧ i ≤ zs.length ∧ n = zs.length - i ∧ ∀ j (hj : j < zs.length), j < i → inB zs[j] 0 255 = true) _ ?_ 2097152 zs.length _ ⟨0, rfl, by omega, by omega, fun j _ h => absurd h (by omega)⟩ (by omega))
  rintro n v ⟨i, rfl, hi, rfl, hall⟩
  unfold N85_0
  simp only [sat_ok', sat_br, sat_leaf, lenI_eq, ri_len, ltI_iff, ltI_f, true_and, Int.toNat_natCast]
  constructor
  · intro h
    have hi' : i < zs.length := by omega
    rw [ri_inr hi', ri_int hi', l1In_g, l1In_k]
    refine ⟨rfl, rfl, fun hz => ?_, fun hz => ?_⟩
    · rw [bytesB_f hi' (by simpa using hz)]
      simpa [ltI] using h
    · refine ⟨_, ?_, i + 1, ?_, by omega, rfl, ?_⟩
      · omega
      · rw [addI_eq (by omega)]; rfl
      · intro j hj hji
        by_cases e : j = i
        · subst e; simpa using hz
        · exact hall j hj (by omega)
  · intro h
    rw [bytesB_t fun j hj => hall j hj (by omega)]
    simpa [ltI] using h
theorem l4Bytes_t (zs : List Int) (hl : zs.length < 1000000) : k85 (ri zs) = true ∧ g85 (ri zs) = bytesB zs := by
  obtain ⟨h1, h2⟩ := l4_loop zs hl
  unfold k85 g85 T85 y85_0
  rw [hid_eq, hid_eq]
  simp only [okv_ok, okv_br, okv_leaf, val_ok, val_br, val_leaf, h1, h2, Bool.true_and]
  cases bytesB zs <;> exact ⟨rfl, rfl⟩
theorem same_loop (xs ys : List Int) (hl : xs.length < 1000000) (he : xs.length = ys.length) : i20_0 (V20_0.mk (ri xs) (ri ys) (lenI (ri xs)) 0) = true ∧ (ltI (w20_0 (V20_0.mk (ri xs) (ri ys) (lenI (ri xs)) 0)).s13 (w20_0 (V20_0.mk (ri xs) (ri ys) (lenI (ri xs)) 0)).s12 = !decide (xs = ys)) := by
  unfold i20_0 w20_0
  refine loop_w (Post := fun w => ltI w.s13 w.s12 = !decide (xs = ys)) (loop_sat (fun n v => ∃ i : Nat, v = V20_0.mk (ri xs) (ri ys) (lenI (ri xs)) i ∧ i ≤ xs.length ∧ n = xs.length - i ∧ ∀ j (hj : j < xs.length), j < i → xs[j] = ys[j]) _ ?_ 2097152 xs.length _ ⟨0, rfl, by omega, by omega, fun j _ h => absurd h (by omega)⟩ (by omega))
  rintro n v ⟨i, rfl, hi, rfl, hall⟩
  unfold N20_0
  simp only [sat_ok', sat_br, sat_leaf, lenI_eq, ri_len, ltI_iff, ltI_f, true_and, Int.toNat_natCast]
  constructor
  · intro h
    have hi' : i < xs.length := by omega
    have hy' : i < ys.length := by omega
    rw [ri_inr hi', ri_int hi', ri_inr hy', ri_int hy']
    refine ⟨rfl, fun hz => ?_, fun hz => ?_⟩
    · have : xs ≠ ys := fun e => by subst e; simp at hz
      rw [decide_eq_false this]
      simpa [ltI] using h
    · refine ⟨_, ?_, i + 1, ?_, by omega, rfl, ?_⟩
      · omega
      · rw [addI_eq (by omega)]; rfl
      · intro j hj hji
        by_cases e : j = i
        · subst e; simpa using hz
        · exact hall j hj (by omega)
  · intro h
    rw [decide_eq_true (List.ext_getElem he fun j h1 h2 => hall j h1 (by omega))]
    simpa [ltI] using h
theorem sameInts_t (xs ys : List Int) (hl : xs.length < 1000000) : k20 (ri xs) (ri ys) = true ∧ g20 (ri xs) (ri ys) = decide (xs = ys) := by
  unfold k20 g20 T20 y20_0
  rw [hid_eq, hid_eq]
  by_cases he : xs.length = ys.length
  · obtain ⟨h1, h2⟩ := same_loop xs ys hl he
    have e : neI (lenI (ri xs)) (lenI (ri ys)) = false := by simp [he, ri_len]
    simp only [okv_ok, okv_br, okv_leaf, val_ok, val_br, val_leaf, h1, h2, e, Bool.true_and, cond_false]
    cases decide (xs = ys) <;> exact ⟨rfl, rfl⟩
  · have e : neI (lenI (ri xs)) (lenI (ri ys)) = true := by simp [ri_len]; omega
    have : xs ≠ ys := fun e => he (by rw [e])
    simp only [okv_ok, okv_br, okv_leaf, val_ok, val_br, val_leaf, e, decide_eq_false this, Bool.true_and, cond_true, and_self]
/-! The reader of bytes. -/
def CO (B : Int) (c : Gl1Cur) : Prop := CurOk B c.fcode c.fat
theorem CO.mono {B C : Int} {c : Gl1Cur} (h : CO B c) (hB : B ≤ C) : CO C c := CurOk.mono h hB
theorem far_g (s : Int) : 0 ≤ wrapK .i64 (andK .u64 (shrK .u64 s 40) 255) ∧ wrapK .i64 (andK .u64 (shrK .u64 s 40) 255) < 256 := by
  have e : shrK .u64 s 40 = Int.fdiv s 1099511627776 := by
    unfold shrK
    rw [show ((2 : Int) ^ min (Int.toNat 40) IntKind.u64.bits) = 1099511627776 from by decide]
  unfold wrapK andK
  rw [e]
  exact far_rng s
theorem next_d {B : Int} {c : Gl1Cur} (h : CO B c) (hB : B < 4000000000000000000) : k146 c = true ∧ (CO (B + 1) (g146 c).1 ∧ 0 ≤ (g146 c).2 ∧ (g146 c).2 < 256) := by
  refine sat_hid (t := T146 c) (P := fun r => CO (B + 1) r.1 ∧ 0 ≤ r.2 ∧ r.2 < 256) ?_
  obtain ⟨h1, h2, h3⟩ := h
  have ha : addI c.fat 1 = c.fat + 1 := addI_eq (by omega)
  have hc : CurOk (B + 1) c.fcode (c.fat + 1) := ⟨h1, by omega, by omega⟩
  have hv : 0 ≤ y146_0 c ∧ y146_0 c < 256 := by
    unfold y146_0
    cases hl : ltI c.fat (lenI c.fcode)
    · simp
    · have hl' : c.fat < (c.fcode.length : Int) := by simpa using hl
      obtain ⟨z, -, e, z0, z1⟩ := row_at h1 (j := c.fat.toNat) (by omega)
      rw [cond_true, e, wrap_id (by omega)]
      exact ⟨z0, z1⟩
  have hr : (inRow [.int .u8] c.fcode c.fat || !(ltI c.fat (lenI c.fcode))) = true := by
    cases hl : ltI c.fat (lenI c.fcode)
    · simp
    · have hl' : c.fat < (c.fcode.length : Int) := by simpa using hl
      rw [inRow_byte h1 h2 hl']
      rfl
  unfold T146
  simp only [sat_ok', sat_br, sat_leaf, hr, ha, Bool.and_true, true_and]
  exact ⟨fun _ => ⟨hc, hv⟩, fun _ => ⟨hc, far_g _⟩⟩
theorem pick_d {B : Int} {c : Gl1Cur} (n : Int) (h : CO B c) (hB : B < 3000000000000000000) : k73 n c = true ∧ (CO (B + 2) (g73 n c).1 ∧ 0 ≤ (g73 n c).2 ∧ (2 ≤ n → (g73 n c).2 < n) ∧ (n ≤ 1 → (g73 n c).2 = 0)) := by
  refine sat_hid (t := T73 n c) (P := fun r => CO (B + 2) r.1 ∧ 0 ≤ r.2 ∧ (2 ≤ n → r.2 < n) ∧ (n ≤ 1 → r.2 = 0)) ?_
  obtain ⟨k1, c1, v0, v1⟩ := next_d h (by omega)
  obtain ⟨k2, c2, w0, w1⟩ := next_d c1 (by omega)
  unfold T73
  simp only [sat_ok', sat_br, sat_leaf, k1, k2, leI_iff, leI_f, gtI_iff, gtI_f, neI_iff, Bool.and_true, true_and]
  refine ⟨fun hn => ⟨h.mono (by omega), by omega, by omega, fun _ => trivial⟩, fun hn => ⟨fun hb => ⟨by omega, c2.mono (by omega), ?_⟩, fun hb => ⟨by omega, c1.mono (by omega), ?_⟩⟩⟩
  · have e : mulI (g146 c).2 256 = (g146 c).2 * 256 := mulI_eq (by omega)
    rw [e, addI_eq (by omega)]
    obtain ⟨r0, r1⟩ := rem_rng (x := (g146 c).2 * 256 + (g146 (g146 c).1).2) (n := n) (by omega) (by omega)
    exact ⟨r0, fun _ => r1, by omega⟩
  · obtain ⟨r0, r1⟩ := rem_rng (x := (g146 c).2) (n := n) (by omega) (by omega)
    exact ⟨r0, fun _ => r1, by omega⟩
theorem one_d {B : Int} {c : Gl1Cur} (n : Int) (h : CO B c) (hB : B < 3000000000000000000) : k83 n c = true ∧ CO (B + 2) (g83 n c).1 := by
  refine sat_hid (t := T83 n c) (P := fun r => CO (B + 2) r.1) ?_
  obtain ⟨k1, c1, -⟩ := pick_d n h hB
  unfold T83
  simp only [sat_ok', sat_leaf, k1, Bool.and_true, true_and]
  exact c1
theorem among_d {B : Int} {c : Gl1Cur} {r : List Row} (hr : Num r) (hl : 1 ≤ r.length) (h : CO B c) (hB : B < 3000000000000000000) : k91 r c = true ∧ (CO (B + 2) (g91 r c).1 ∧ ∃ j, j < r.length ∧ (g91 r c).2 = intAt r j 0) := by
  refine sat_hid (t := T91 r c) (P := fun q => CO (B + 2) q.1 ∧ ∃ j, j < r.length ∧ q.2 = intAt r j 0) ?_
  obtain ⟨k1, c1, v0, v1, v2⟩ := pick_d (lenI r) h hB
  rw [lenI_eq] at k1 c1 v0 v1 v2
  have hj : (g73 (r.length : Int) c).2 < (r.length : Int) := by
    by_cases h2 : r.length = 1
    · rw [v2 (by omega)]; omega
    · exact v1 (by omega)
  unfold T91
  simp only [sat_ok', sat_leaf, lenI_eq, k1, num_in hr v0 hj, Bool.and_true, true_and]
  exact ⟨c1, _, by omega, rfl⟩
end Go.Proofs.YtihfaondfmeglaaBus

/- Bus: the plain law. -/
namespace Go.Proofs.YtihfaondfmeglaaBus
open Go Go.Zq
set_option maxHeartbeats 4000000
set_option maxRecDepth 100000

/-! Rows of accesses. -/
def Acc (r : List Row) : Prop := ∃ l : List GAccess, r = l.map GAccess.row
theorem acc_in {l : List GAccess} {i : Nat} (h : i < l.length) : inRow [.int .i64, .int .i64, .int .i64, .int .i64, .int .i64] (l.map GAccess.row) (i : Int) = true ∧ GAccess.at (l.map GAccess.row) i 0 = l[i] := by
  have e : (l.map GAccess.row).getD i [] = GAccess.row l[i] := by simp [List.getD_eq_getElem?_getD, h]
  constructor
  · simp only [inRow, hasRow, Int.toNat_natCast, e, List.length_map]
    have : Nat.blt i l.length = true := by simpa using h
    rw [this]
    rfl
  · unfold GAccess.at intAt cellAt
    rw [e]
    rfl
theorem acc_app {r : List Row} (h : Acc r) (a : GAccess) : Acc (r ++ [GAccess.row a]) := by
  obtain ⟨l, rfl⟩ := h
  exact ⟨l ++ [a], by simp⟩
structure BV (b : GBus) : Prop where
  n : Num b.Bytes
  a : Acc b.Log
  nb : b.Bytes.length ≤ 512
  nl : b.Log.length ≤ 1000
theorem z_len {r : List Row} : eqN (0 + r.length) r.length = true ∧ leN (0 + r.length) r.length = true := by simp
theorem roomB {n : Nat} (h : n ≤ 2000) : leN (mulN n 8) 140737488355328 = true ∧ leN (mulN n 40) 140737488355328 = true ∧ leN n 140737488355328 = true ∧ leN (mulN (0 + n) 8) 140737488355328 = true ∧ leN (mulN (0 + n) 40) 140737488355328 = true ∧ leN (0 + n) 140737488355328 = true ∧ leN (mulN (n + 1) 8) 140737488355328 = true ∧ leN (mulN (n + 1) 40) 140737488355328 = true ∧ leN (n + 1) 140737488355328 = true := by
  simp only [leN_iff, mulN_eq]
  omega
/-! Words and values. -/
theorem word_s (a : Int) : k99 a = true ∧ g99 a = inB a 0 65535 := by
  constructor
  · simp [k99, hid_eq, T99]
  · simp [g99, hid_eq, T99]
theorem word_i (a : Int) : k94 a = true ∧ g94 a = inB a 0 65535 := by
  constructor
  · simp [k94, hid_eq, T94]
  · simp [g94, hid_eq, T94]
/-- A value of a size. -/
def valB (s v : Int) : Bool := bif eqI s 1 then inB v 0 255 else bif eqI s 2 then inB v 0 65535 else false
theorem size_s (s : Int) : k155 s = true ∧ g155 s = (eqI s 1 || eqI s 2) := by
  constructor
  · simp [k155, hid_eq, T155]
  · simp only [g155, hid_eq, T155, val_ok, val_leaf]
    cases eqI s 1 <;> rfl
theorem size_i (s : Int) : k151 s = true ∧ g151 s = (eqI s 1 || eqI s 2) := by
  constructor
  · simp [k151, hid_eq, T151]
  · simp only [g151, hid_eq, T151, val_ok, val_leaf]
    cases eqI s 1 <;> rfl
theorem lim_s1 : k156 1 = true ∧ g156 1 = 256 := by
  refine sat_hid (t := T156 1) (P := fun r => r = 256) ?_
  unfold T156
  simp only [sat_ok', sat_leaf]
  decide +kernel
theorem lim_s2 : k156 2 = true ∧ g156 2 = 65536 := by
  refine sat_hid (t := T156 2) (P := fun r => r = 65536) ?_
  unfold T156
  simp only [sat_ok', sat_leaf]
  decide +kernel
theorem lim_i1 : k152 1 = true ∧ g152 1 = 256 := by
  refine sat_hid (t := T152 1) (P := fun r => r = 256) ?_
  unfold T152
  simp only [sat_ok', sat_leaf]
  decide +kernel
theorem lim_i2 : k152 2 = true ∧ g152 2 = 65536 := by
  refine sat_hid (t := T152 2) (P := fun r => r = 65536) ?_
  unfold T152
  simp only [sat_ok', sat_leaf]
  decide +kernel
theorem val_s (s v : Int) : k98 s v = true ∧ g98 s v = valB s v := by
  refine sat_hid (t := T98 s v) (P := fun r => r = valB s v) ?_
  unfold T98 valB
  rw [(size_s s).1, (size_s s).2]
  by_cases h1 : s = 1
  · subst h1
    rw [lim_s1.1, lim_s1.2, show subI 256 1 = 255 from by decide]
    simp [show eqI 1 1 = true from rfl]
  · by_cases h2 : s = 2
    · subst h2
      rw [lim_s2.1, lim_s2.2, show subI 65536 1 = 65535 from by decide]
      simp [show eqI 2 1 = false from rfl, show eqI 2 2 = true from rfl]
    · have e1 : eqI s 1 = false := by simp [h1]
      have e2 : eqI s 2 = false := by simp [h2]
      simp [e1, e2]
theorem val_i (s v : Int) : k95 s v = true ∧ g95 s v = valB s v := by
  refine sat_hid (t := T95 s v) (P := fun r => r = valB s v) ?_
  unfold T95 valB
  rw [(size_i s).1, (size_i s).2]
  by_cases h1 : s = 1
  · subst h1
    rw [lim_i1.1, lim_i1.2, show subI 256 1 = 255 from by decide]
    simp [show eqI 1 1 = true from rfl]
  · by_cases h2 : s = 2
    · subst h2
      rw [lim_i2.1, lim_i2.2, show subI 65536 1 = 65535 from by decide]
      simp [show eqI 2 1 = false from rfl, show eqI 2 2 = true from rfl]
    · have e1 : eqI s 1 = false := by simp [h1]
      have e2 : eqI s 2 = false := by simp [h2]
      simp [e1, e2]
/-- A good access. -/
def accB (a : GAccess) : Bool := inB a.Kind 1 3 && (inB a.Addr 0 65535 && (valB a.Size a.Value && (inB a.Code 0 3 && !(eqI a.Kind 3 && eqI a.Code 0))))
theorem acc_s (a : GAccess) : k102 a = true ∧ g102 a = accB a := by
  refine sat_hid (t := T102 a) (P := fun r => r = accB a) ?_
  unfold T102 accB
  simp only [sat_ok', sat_br, sat_leaf, y102_1, y102_0, l1In_g, l1In_k, (word_s _).1, (word_s _).2, (val_s _ _).1, (val_s _ _).2, Bool.and_true, Bool.true_or, true_and]
  cases inB a.Kind 1 3 <;> cases valB a.Size a.Value <;> cases inB a.Addr 0 65535 <;> cases inB a.Code 0 3 <;> cases h : eqI a.Kind 3 <;> cases h2 : eqI a.Code 0 <;> simp_all
theorem acc_i (a : GAccess) : k90 a = true ∧ g90 a = accB a := by
  refine sat_hid (t := T90 a) (P := fun r => r = accB a) ?_
  unfold T90 accB
  simp only [sat_ok', sat_leaf, y90_1, y90_0, within_g, within_k, (word_i _).1, (word_i _).2, (val_i _ _).1, (val_i _ _).2, Bool.and_true, Bool.true_or, true_and]
  cases inB a.Kind 1 3 <;> cases valB a.Size a.Value <;> cases inB a.Addr 0 65535 <;> cases inB a.Code 0 3 <;> cases eqI a.Kind 3 <;> cases eqI a.Code 0 <;> rfl
theorem all_at {α : Type} {p : α → Bool} {l : List α} (h : l.all p = true) {j : Nat} (hj : j < l.length) : p l[j] = true := List.all_eq_true.1 h _ (List.getElem_mem hj)
theorem all_f {α : Type} {p : α → Bool} {l : List α} {i : Nat} (h : i < l.length) (hz : p l[i] = false) : l.all p = false := by
  rw [List.all_eq_false]
  exact ⟨l[i], List.getElem_mem h, by simp [hz]⟩
theorem all_t {α : Type} {p : α → Bool} {l : List α} (h : ∀ j (hj : j < l.length), p l[j] = true) : l.all p = true := by
  rw [List.all_eq_true]
  intro z hz
  obtain ⟨j, hj, rfl⟩ := List.getElem_of_mem hz
  exact h j hj
end Go.Proofs.YtihfaondfmeglaaBus

/- Bus: the plain law. -/
namespace Go.Proofs.YtihfaondfmeglaaBus
open Go Go.Zq
set_option maxHeartbeats 4000000
set_option maxRecDepth 100000

theorem l4_loopv1 (zs : List Int) (hl : zs.length < 1000000) : i85v1_0 (V85v1_0.mk (ri zs) (lenI (ri zs)) 0) = true ∧ (ltI (w85v1_0 (V85v1_0.mk (ri zs) (lenI (ri zs)) 0)).s7 (w85v1_0 (V85v1_0.mk (ri zs) (lenI (ri zs)) 0)).s6 = !bytesB zs) := by
  unfold i85v1_0 w85v1_0
  refine loop_w (Post := fun w => ltI w.s7 w.s6 = !bytesB zs) (loop_sat (fun n v => ∃ i : Nat, v = V85v1_0.mk (ri zs) (lenI (ri zs)) i ∧ i ≤ zs.length ∧ n = zs.length - i ∧ ∀ j (hj : j < zs.length), j < i → inB zs[j] 0 255 = true) _ ?_ 2097152 zs.length _ ⟨0, rfl, by omega, by omega, fun j _ h => absurd h (by omega)⟩ (by omega))
  rintro n v ⟨i, rfl, hi, rfl, hall⟩
  unfold N85v1_0
  simp only [sat_ok', sat_br, sat_leaf, lenI_eq, ri_len, ltI_iff, ltI_f, true_and, Int.toNat_natCast]
  constructor
  · intro h
    have hi' : i < zs.length := by omega
    rw [ri_inr hi', ri_int hi', l1In_g, l1In_k]
    refine ⟨rfl, rfl, fun hz => ?_, fun hz => ?_⟩
    · rw [bytesB_f hi' (by simpa using hz)]
      simpa [ltI] using h
    · refine ⟨_, ?_, i + 1, ?_, by omega, rfl, ?_⟩
      · omega
      · rw [addI_eq (by omega)]; rfl
      · intro j hj hji
        by_cases e : j = i
        · subst e; simpa using hz
        · exact hall j hj (by omega)
  · intro h
    rw [bytesB_t fun j hj => hall j hj (by omega)]
    simpa [ltI] using h
theorem l4Bytes_tv1 (zs : List Int) (hl : zs.length < 1000000) : k85v1 (ri zs) = true ∧ g85v1 (ri zs) = bytesB zs := by
  obtain ⟨h1, h2⟩ := l4_loopv1 zs hl
  unfold k85v1 g85v1 T85v1 y85v1_0
  rw [hid_eq, hid_eq]
  simp only [okv_ok, okv_br, okv_leaf, val_ok, val_br, val_leaf, h1, h2, Bool.true_and]
  cases bytesB zs <;> exact ⟨rfl, rfl⟩
/-! Good buses, by the reference. -/
theorem gs_loop (b : GBus) (l : List GAccess) (hl : l.length ≤ 2000) : i25_0 (V25_0.mk b (l.map GAccess.row) (lenI (l.map GAccess.row)) 0) = true ∧ ((w25_0 (V25_0.mk b (l.map GAccess.row) (lenI (l.map GAccess.row)) 0)).b0 = b ∧ ltI (w25_0 (V25_0.mk b (l.map GAccess.row) (lenI (l.map GAccess.row)) 0)).s8 (w25_0 (V25_0.mk b (l.map GAccess.row) (lenI (l.map GAccess.row)) 0)).s7 = !l.all accB) := by
  unfold i25_0 w25_0
  refine loop_w (Post := fun w : V25_0 => w.b0 = b ∧ ltI w.s8 w.s7 = !l.all accB) (loop_sat (fun (m : Nat) (v : V25_0) => ∃ i : Nat, v = V25_0.mk b (l.map GAccess.row) (lenI (l.map GAccess.row)) i ∧ i + m = l.length ∧ ∀ j (hj : j < l.length), j < i → accB l[j] = true) _ ?_ 2097152 l.length _ ⟨0, rfl, by omega, fun j _ h => absurd h (by omega)⟩ (by omega))
  rintro m v ⟨i, rfl, hi, hall⟩
  unfold N25_0
  simp only [sat_ok', sat_br, sat_leaf, eqN_self, lenI_eq, List.length_map, ltI_iff, ltI_f, Bool.and_true, true_and, Int.toNat_natCast]
  constructor
  · intro h
    have hi' : i < l.length := by omega
    obtain ⟨p1, p2⟩ := acc_in hi'
    rw [p1, p2, (acc_s _).1, (acc_s _).2]
    refine ⟨rfl, rfl, fun hz => ?_, fun hz => ?_⟩
    · rw [all_f hi' (by simpa using hz)]
      simpa [ltI] using h
    · refine ⟨m - 1, by omega, i + 1, ?_, by omega, ?_⟩
      · rw [addI_eq (by omega)]; rfl
      · intro j hj hji
        by_cases e : j = i
        · subst e; simpa using hz
        · exact hall j hj (by omega)
  · intro h
    rw [all_t fun j hj => hall j hj (by omega)]
    simpa [ltI] using h
theorem good_s {b : GBus} (h : BV b) {zs : List Int} {l : List GAccess} (hz : b.Bytes = ri zs) (hl : b.Log = l.map GAccess.row) : k25 b = true ∧ g25 b = (eqI (zs.length : Int) 512 && (leI (l.length : Int) 400 && (bytesB zs && l.all accB))) := by
  refine sat_hid (t := T25 b) (P := fun r => r = (eqI (zs.length : Int) 512 && (leI (l.length : Int) 400 && (bytesB zs && l.all accB)))) ?_
  have n1 := h.nb
  have n2 := h.nl
  rw [hz, ri_len] at n1
  rw [hl, List.length_map] at n2
  obtain ⟨a1, a2, a3⟩ := gs_loop b l (by omega)
  rw [lenI_eq, List.length_map] at a1 a2 a3
  obtain ⟨c1, c2⟩ := l4Bytes_t zs (by omega)
  unfold T25
  simp only [sat_ok', sat_br, sat_leaf, y25_0, eqN_self, hl, Bool.and_true, true_and, a1, a2, a3, hz, c1, c2, lenI_eq, ri_len, List.length_map, Bool.true_or]
  cases l.all accB <;> cases eqI (zs.length : Int) 512 <;> cases leI (l.length : Int) 400 <;> cases bytesB zs <;> simp
/-! Good buses, by the reference. -/
theorem gs_loopv1 (b : GBus) (l : List GAccess) (hl : l.length ≤ 2000) : i25v1_0 (V25v1_0.mk b (l.map GAccess.row) (lenI (l.map GAccess.row)) 0) = true ∧ ((w25v1_0 (V25v1_0.mk b (l.map GAccess.row) (lenI (l.map GAccess.row)) 0)).b0 = b ∧ ltI (w25v1_0 (V25v1_0.mk b (l.map GAccess.row) (lenI (l.map GAccess.row)) 0)).s8 (w25v1_0 (V25v1_0.mk b (l.map GAccess.row) (lenI (l.map GAccess.row)) 0)).s7 = !l.all accB) := by
  unfold i25v1_0 w25v1_0
  refine loop_w (Post := fun w : V25v1_0 => w.b0 = b ∧ ltI w.s8 w.s7 = !l.all accB) (loop_sat (fun (m : Nat) (v : V25v1_0) => ∃ i : Nat, v = V25v1_0.mk b (l.map GAccess.row) (lenI (l.map GAccess.row)) i ∧ i + m = l.length ∧ ∀ j (hj : j < l.length), j < i → accB l[j] = true) _ ?_ 2097152 l.length _ ⟨0, rfl, by omega, fun j _ h => absurd h (by omega)⟩ (by omega))
  rintro m v ⟨i, rfl, hi, hall⟩
  unfold N25v1_0
  simp only [sat_ok', sat_br, sat_leaf, eqN_self, lenI_eq, List.length_map, ltI_iff, ltI_f, Bool.and_true, true_and, Int.toNat_natCast]
  constructor
  · intro h
    have hi' : i < l.length := by omega
    obtain ⟨p1, p2⟩ := acc_in hi'
    rw [p1, p2, (acc_s _).1, (acc_s _).2]
    refine ⟨rfl, rfl, fun hz => ?_, fun hz => ?_⟩
    · rw [all_f hi' (by simpa using hz)]
      simpa [ltI] using h
    · refine ⟨m - 1, by omega, i + 1, ?_, by omega, ?_⟩
      · rw [addI_eq (by omega)]; rfl
      · intro j hj hji
        by_cases e : j = i
        · subst e; simpa using hz
        · exact hall j hj (by omega)
  · intro h
    rw [all_t fun j hj => hall j hj (by omega)]
    simpa [ltI] using h
theorem good_sv1 {b : GBus} (h : BV b) {zs : List Int} {l : List GAccess} (hz : b.Bytes = ri zs) (hl : b.Log = l.map GAccess.row) : k25v1 b = true ∧ g25v1 b = (eqI (zs.length : Int) 512 && (leI (l.length : Int) 400 && (bytesB zs && l.all accB))) := by
  refine sat_hid (t := T25v1 b) (P := fun r => r = (eqI (zs.length : Int) 512 && (leI (l.length : Int) 400 && (bytesB zs && l.all accB)))) ?_
  have n1 := h.nb
  have n2 := h.nl
  rw [hz, ri_len] at n1
  rw [hl, List.length_map] at n2
  obtain ⟨a1, a2, a3⟩ := gs_loopv1 b l (by omega)
  rw [lenI_eq, List.length_map] at a1 a2 a3
  obtain ⟨c1, c2⟩ := l4Bytes_tv1 zs (by omega)
  unfold T25v1
  simp only [sat_ok', sat_br, sat_leaf, y25v1_0, eqN_self, hl, Bool.and_true, true_and, a1, a2, a3, hz, c1, c2, lenI_eq, ri_len, List.length_map, Bool.true_or]
  cases l.all accB <;> cases eqI (zs.length : Int) 512 <;> cases leI (l.length : Int) 400 <;> cases bytesB zs <;> simp
/-! Drawn bytes, new buses. -/
theorem bytes4_d (n : Nat) (c : Gl1Cur) {B : Int} (h : CO B c) (hB : B + 4 * n < 1000000000000000000) (hn : n ≤ 1000) : k82 (n : Int) c = true ∧ (CO (B + 4 * n) (g82 (n : Int) c).1 ∧ ∃ zs : List Int, (g82 (n : Int) c).2 = ri zs ∧ zs.length ≤ n ∧ bytesB zs = true) := by
  have L : i82_0 (V82_0.mk c (n : Int) []) = true ∧ (CO (B + 4 * n) (w82_0 (V82_0.mk c (n : Int) [])).b0 ∧ ∃ zs : List Int, (w82_0 (V82_0.mk c (n : Int) [])).s5 = ri zs ∧ zs.length ≤ n ∧ bytesB zs = true) := by
    unfold i82_0 w82_0
    refine loop_w (Post := fun w : V82_0 => CO (B + 4 * n) w.b0 ∧ ∃ zs : List Int, w.s5 = ri zs ∧ zs.length ≤ n ∧ bytesB zs = true) (loop_sat (fun (m : Nat) (v : V82_0) => CO (B + 4 * (n - m)) v.b0 ∧ v.s1 = (m : Int) ∧ m ≤ n ∧ ∃ zs : List Int, v.s5 = ri zs ∧ zs.length + m ≤ n ∧ bytesB zs = true) _ ?_ 2097152 n _ ⟨h.mono (by omega), rfl, by omega, [], rfl, by simp, rfl⟩ (by omega))
    rintro m v ⟨h1, h2, h3, zs, h4, h5, h6⟩
    obtain ⟨p1, p2, p3, p4, -⟩ := pick_d 256 h1 (by omega)
    have p4 := p4 (by omega)
    obtain ⟨r1, r2, r3, r4, r5, r6, r7, r8, r9⟩ := roomB (n := zs.length) (by omega)
    unfold N82_0
    simp only [sat_ok', sat_br, sat_leaf, y82_0_l_1, y82_0_l_0, h2, h4, ri_len, p1, z_len.1, r7, r9, eqN_self, gtI_iff, gtI_f, Bool.and_true, true_and]
    have e1 : eqN (0 + zs.length) zs.length = true := by simp
    rw [e1]
    refine ⟨fun hm => ⟨rfl, m - 1, by omega, p2.mono (by omega), ?_, by omega, zs ++ [(g73 256 v.b0).2], ?_, by simp; omega, ?_⟩, fun hm => ⟨h1.mono (by omega), zs, rfl, by omega, h6⟩⟩
    · rw [subI_eq (by omega)]; omega
    · exact (ri_append (xs := zs) (ys := [(g73 256 v.b0).2])).symm
    · unfold bytesB at *
      rw [List.all_append, h6]
      simp
      omega
  refine sat_hid (t := T82 (n : Int) c) (P := fun r => CO (B + 4 * n) r.1 ∧ ∃ zs : List Int, r.2 = ri zs ∧ zs.length ≤ n ∧ bytesB zs = true) ?_
  unfold T82
  simp only [sat_ok', sat_leaf, y82_1, y82_0, L.1, eqN_self, Bool.and_true, true_and]
  exact L.2
/-- All cells are numbers, so many. -/
structure B512 (b : GBus) : Prop where
  z : ∃ zs : List Int, b.Bytes = ri zs ∧ zs.length = 512
  l : b.Log = []
theorem new_loop (xs ys : List Int) (b0 b1 : GBus) (hx : xs.length ≤ 384) (h1 : B512 b1) : i18_0 (V18_0.mk b0 b1 (ri ys) (ri xs) (lenI (ri xs)) 0) = true ∧ (B512 (w18_0 (V18_0.mk b0 b1 (ri ys) (ri xs) (lenI (ri xs)) 0)).b1 ∧ (w18_0 (V18_0.mk b0 b1 (ri ys) (ri xs) (lenI (ri xs)) 0)).s1 = ri ys) := by
  unfold i18_0 w18_0
  refine loop_w (Post := fun w : V18_0 => B512 w.b1 ∧ w.s1 = ri ys) (loop_sat (fun (m : Nat) (v : V18_0) => ∃ i : Nat, B512 v.b1 ∧ v.s1 = ri ys ∧ v.s32 = ri xs ∧ v.s33 = (xs.length : Int) ∧ v.s34 = (i : Int) ∧ i + m = xs.length) _ ?_ 2097152 xs.length _ ⟨0, h1, rfl, rfl, by simp [ri_len], rfl, by omega⟩ (by omega))
  rintro m v ⟨i, ⟨⟨zs, hz, hn⟩, hL⟩, h2, h3, h4, h5, h6⟩
  unfold N18_0
  simp only [sat_ok', sat_br, sat_leaf, y18_0_l_5, y18_0_l_4, y18_0_l_3, y18_0_l_2, y18_0_l_1, y18_0_l_0, hz, hL, h2, h3, h4, h5, ri_len, lenI_eq, eqN_self, List.length_set, List.length_nil, ltI_iff, ltI_f, Bool.and_true, true_and, Int.toNat_natCast, Nat.zero_add]
  constructor
  · intro hlt
    have hi : i < xs.length := by omega
    rw [ri_inr hi, ri_int hi, ri_rlen (show i < zs.length by omega)]
    refine ⟨rfl, ?_, m - 1, by omega, i + 1, ⟨⟨zs.set i xs[i], by rw [ri_set], by simpa using hn⟩, rfl⟩, ?_, by omega⟩
    · simp; omega
    · rw [addI_eq (by omega)]; rfl
  · intro hge
    exact ⟨⟨⟨zs, hz, hn⟩, hL⟩, trivial⟩
theorem new_loop1 (xs : List Int) (b0 b1 : GBus) (hx : xs.length ≤ 64) (h1 : B512 b1) : i18_1 (V18_1.mk b0 b1 (ri xs) (lenI (ri xs)) 0) = true ∧ B512 (w18_1 (V18_1.mk b0 b1 (ri xs) (lenI (ri xs)) 0)).b1 := by
  unfold i18_1 w18_1
  refine loop_w (Post := fun w : V18_1 => B512 w.b1) (loop_sat (fun (m : Nat) (v : V18_1) => ∃ i : Nat, B512 v.b1 ∧ v.s45 = ri xs ∧ v.s46 = (xs.length : Int) ∧ v.s47 = (i : Int) ∧ i + m = xs.length) _ ?_ 2097152 xs.length _ ⟨0, h1, rfl, by simp [ri_len], rfl, by omega⟩ (by omega))
  rintro m v ⟨i, ⟨⟨zs, hz, hn⟩, hL⟩, h3, h4, h5, h6⟩
  unfold N18_1
  simp only [sat_ok', sat_br, sat_leaf, y18_1_l_5, y18_1_l_4, y18_1_l_3, y18_1_l_2, y18_1_l_1, y18_1_l_0, hz, hL, h3, h4, h5, ri_len, lenI_eq, eqN_self, List.length_set, List.length_nil, ltI_iff, ltI_f, Bool.and_true, true_and, Int.toNat_natCast, Nat.zero_add]
  constructor
  · intro hlt
    have hi : i < xs.length := by omega
    have ea : addI 384 (i : Int) = ((384 + i : Nat) : Int) := by rw [addI_eq (by omega)]; omega
    rw [ri_inr hi, ri_int hi, ea, Int.toNat_natCast, ri_rlen (show 384 + i < zs.length by omega)]
    refine ⟨rfl, ?_, m - 1, by omega, i + 1, ⟨⟨zs.set (384 + i) xs[i], by rw [ri_set], by simpa using hn⟩, rfl⟩, ?_, by omega⟩
    · simp; omega
    · rw [addI_eq (by omega)]; rfl
  · intro hge
    exact ⟨⟨zs, hz, hn⟩, hL⟩
theorem new_t (xs ys : List Int) (hx : xs.length ≤ 384) (hy : ys.length ≤ 64) (bx : bytesB xs = true) (b_y : bytesB ys = true) : k18 (ri xs) (ri ys) = true ∧ B512 (g18 (ri xs) (ri ys)).1 := by
  refine sat_hid (t := T18 (ri xs) (ri ys)) (P := fun r => B512 r.1) ?_
  obtain ⟨a1, a2⟩ := l4Bytes_t xs (by omega)
  obtain ⟨b1, b2⟩ := l4Bytes_t ys (by omega)
  have e512 : List.replicate 512 (rowI 0) = ri (List.replicate 512 0) := by simp only [ri, List.map_replicate]; rfl
  obtain ⟨c1, c2, c3⟩ := new_loop xs ys ⟨[], []⟩ ⟨List.replicate 512 (rowI 0), []⟩ hx ⟨⟨List.replicate 512 0, e512, by simp⟩, rfl⟩
  obtain ⟨d1, d2⟩ := new_loop1 ys (w18_0 (V18_0.mk ⟨[], []⟩ ⟨List.replicate 512 (rowI 0), []⟩ (ri ys) (ri xs) (lenI (ri xs)) 0)).b0 _ hy c2
  have g1 : gtI (lenI (ri xs)) 384 = false := by simp [ri_len]; omega
  have g2 : gtI (lenI (ri ys)) 64 = false := by simp [ri_len]; omega
  unfold T18
  simp only [sat_ok', sat_br, sat_leaf, y18_8, y18_7, y18_6, y18_5, y18_4, y18_3, y18_2, y18_1, y18_0, a1, a2, b1, b2, bx, b_y, c1, c3, d1, g1, g2, eqN_self, z_len.2, Bool.not_true, cond_false, Bool.and_true, Bool.true_or, true_and, Bool.false_eq_true, false_implies, implies_true]
  exact fun _ => d2
end Go.Proofs.YtihfaondfmeglaaBus

/- Bus: the plain law. -/
namespace Go.Proofs.YtihfaondfmeglaaBus
open Go Go.Zq
set_option maxHeartbeats 4000000
set_option maxRecDepth 100000

/-- A loop that walks a told chain of states. -/
theorem loop_st {V : Type} {N : V → Pt (Option V)} (st : Nat → V) (n : Nat) (hn : n < 1000000) (h : ∀ i, i < n → (N (st i)).Sat (fun r => r = some (st (i + 1)))) (he : (N (st n)).Sat (fun r => r = none)) : (hid (loopV N 2097152 (st 0))).isSome = true ∧ (hid (loopV N 2097152 (st 0))).getD (st 0) = st n := by
  refine loop_w (Post := fun w => w = st n) (loop_sat (fun (m : Nat) (v : V) => ∃ i, i + m = n ∧ v = st i) _ ?_ 2097152 n _ ⟨0, by omega, rfl⟩ (by omega))
  rintro m v ⟨i, hi, rfl⟩
  have mono : ∀ {α : Type} {P Q : α → Prop}, (∀ a, P a → Q a) → ∀ {t : Pt α}, t.Sat P → t.Sat Q := fun {α P Q} hPQ t => by
    induction t with
    | leaf a => exact hPQ a
    | ok b x ih => exact fun h => ⟨h.1, ih h.2⟩
    | br b x y ix iy => exact fun h => ⟨fun e => ix (h.1 e), fun e => iy (h.2 e)⟩
  by_cases e : i = n
  · subst e
    exact mono (fun r hr => by subst hr; rfl) he
  · exact mono (fun r hr => by subst hr; exact ⟨m - 1, by omega, i + 1, by omega, rfl⟩) (h i (by omega))
/-! Kinds and codes. -/
def kindO (a : Int) : Int := bif inB a 448 495 || leI 512 a then 1 else bif inB a 384 447 then 3 else 0
theorem kind_i (a : Int) : k106 a = true ∧ g106 a = kindO a := by
  refine sat_hid (t := T106 a) (P := fun r => r = kindO a) ?_
  unfold T106 kindO
  have e : geI a 512 = leI 512 a := rfl
  simp only [sat_ok', sat_br, sat_leaf, within_g, within_k, e, Bool.and_true, true_and]
  cases inB a 448 495 <;> cases leI 512 a <;> cases inB a 384 447 <;> simp
theorem kind_s (a : Int) : k107 a = true ∧ g107 a = kindO a := by
  refine sat_hid (t := T107 a) (P := fun r => r = kindO a) ?_
  unfold T107 kindO
  have e : geI a 512 = leI 512 a := rfl
  simp only [sat_ok', sat_br, sat_leaf, l1In_g, l1In_k, e, Bool.and_true, Bool.true_or, true_and]
  cases inB a 448 495 <;> cases leI 512 a <;> cases inB a 384 447 <;> simp
def codeO (k s a : Int) : Int := bif eqI s 2 && eqI (a % 2) 1 then 2 else bif eqI (kindO a) 1 || eqI (kindO (a + s - 1)) 1 then 1 else bif eqI k 2 && (eqI (kindO a) 3 || eqI (kindO (a + s - 1)) 3) then 3 else 0
theorem code_i (k s a : Int) (h : inB a 0 65535 = true) (hs : inB s 0 2 = true) : k103 k s a = true ∧ g103 k s a = codeO k s a := by
  refine sat_hid (t := T103 k s a) (P := fun r => r = codeO k s a) ?_
  rw [inB_iff] at h hs
  have e : subI (addI a s) 1 = a + s - 1 := by rw [addI_eq (by omega), subI_eq (by omega)]
  unfold T103 codeO
  simp only [sat_ok', sat_br, sat_leaf, y103_0, (kind_i _).1, (kind_i _).2, rem2 h.1, e, Bool.and_true, true_and]
  cases eqI s 2 <;> cases eqI (a % 2) 1 <;> cases eqI (kindO a) 1 <;> cases eqI (kindO (a + s - 1)) 1 <;> cases eqI k 2 <;> cases eqI (kindO a) 3 <;> cases eqI (kindO (a + s - 1)) 3 <;> simp
theorem code_s (k s a : Int) (h : inB a 0 65535 = true) (hs : inB s 0 2 = true) : k105 k s a = true ∧ g105 k s a = codeO k s a := by
  refine sat_hid (t := T105 k s a) (P := fun r => r = codeO k s a) ?_
  rw [inB_iff] at h hs
  have e : subI (addI a s) 1 = a + s - 1 := by rw [addI_eq (by omega), subI_eq (by omega)]
  unfold T105 codeO
  simp only [sat_ok', sat_br, sat_leaf, y105_0, (kind_s _).1, (kind_s _).2, and1, e, Bool.and_true, Bool.true_or, true_and]
  cases eqI s 2 <;> cases eqI (a % 2) 1 <;> cases eqI (kindO a) 1 <;> cases eqI (kindO (a + s - 1)) 1 <;> cases eqI k 2 <;> cases eqI (kindO a) 3 <;> cases eqI (kindO (a + s - 1)) 3 <;> simp
theorem code_rng (k s a : Int) : inB (codeO k s a) 0 3 = true := by
  unfold codeO
  cases eqI s 2 && eqI (a % 2) 1 <;> cases eqI (kindO a) 1 || eqI (kindO (a + s - 1)) 1 <;> cases eqI k 2 && (eqI (kindO a) 3 || eqI (kindO (a + s - 1)) 3) <;> rfl
theorem kind_not {a : Int} : (kindO a ≠ 1 → a < 448 ∨ (496 ≤ a ∧ a < 512)) ∧ (kindO a ≠ 1 → kindO a ≠ 3 → a < 384 ∨ 496 ≤ a) := by
  unfold kindO
  cases h1 : inB a 448 495 <;> cases h2 : leI 512 a <;> cases h3 : inB a 384 447 <;> simp [inB] at * <;> omega
theorem code_0 {k s a : Int} (h : codeO k s a = 0) : codeO 1 s a = 0 ∧ (a < 448 ∨ (496 ≤ a ∧ a < 512)) ∧ (a + s - 1 < 448 ∨ (496 ≤ a + s - 1 ∧ a + s - 1 < 512)) ∧ (k = 2 → (a < 384 ∨ 496 ≤ a) ∧ (a + s - 1 < 384 ∨ 496 ≤ a + s - 1)) := by
  unfold codeO at *
  cases h1 : eqI s 2 && eqI (a % 2) 1
  · cases h2 : eqI (kindO a) 1 || eqI (kindO (a + s - 1)) 1
    · rw [h1, h2] at h
      rw [Bool.or_eq_false_iff, eqI_f, eqI_f] at h2
      refine ⟨rfl, kind_not.1 h2.1, kind_not.1 h2.2, fun e => ?_⟩
      subst e
      cases h3 : eqI (kindO a) 3 || eqI (kindO (a + s - 1)) 3
      · rw [Bool.or_eq_false_iff, eqI_f, eqI_f] at h3
        exact ⟨kind_not.2 h2.1 h3.1, kind_not.2 h2.2 h3.2⟩
      · rw [h3, show eqI 2 2 = true from rfl] at h; simp at h
    · rw [h1, h2] at h; simp at h
  · rw [h1] at h; simp at h
end Go.Proofs.YtihfaondfmeglaaBus

/- Bus: the plain law. -/
namespace Go.Proofs.YtihfaondfmeglaaBus
open Go Go.Zq
set_option maxHeartbeats 4000000
set_option maxRecDepth 100000

/-! What a touch does. -/
def wk (s v : Int) (a : Nat) (zs : List Int) : Nat → List Int
  | 0 => zs
  | 1 => zs.set a (bif eqI s 1 then v % 256 else v / 256)
  | _ => (zs.set a (v / 256)).set (a + 1) (v % 256)
def rk (a : Nat) (zs : List Int) : Nat → Int
  | 0 => 0
  | 1 => zs.getD a 0
  | _ => zs.getD a 0 * 256 + zs.getD (a + 1) 0
theorem getD_lt {zs : List Int} {i : Nat} (h : i < zs.length) : zs.getD i 0 = zs[i] := by simp [List.getD_eq_getElem?_getD, h]
theorem byte_at {zs : List Int} (h : bytesB zs = true) {i : Nat} (hi : i < zs.length) : 0 ≤ zs[i] ∧ zs[i] < 256 := by
  have := List.all_eq_true.1 h _ (List.getElem_mem hi)
  rw [inB_iff] at this
  omega
/-- Where the told bus is, what may be touched. -/
structure TouchOk (s v : Int) (zs : List Int) (l : List GAccess) : Prop where
  hs : s = 1 ∨ s = 2
  hv : valB s v = true
  hz : zs.length = 512
  hb : bytesB zs = true
  hl : l.length ≤ 400
theorem val_rng {s v : Int} (hs : s = 1 ∨ s = 2) (h : valB s v = true) : 0 ≤ v ∧ v < 65536 ∧ (s = 1 → v < 256) := by
  unfold valB at h
  rcases hs with rfl | rfl
  · rw [show eqI 1 1 = true from rfl, cond_true, inB_iff] at h; omega
  · rw [show eqI 2 1 = false from rfl, show eqI 2 2 = true from rfl, cond_true, cond_false, inB_iff] at h; omega
theorem cell_ok {zs : List Int} {a : Nat} (h : a < zs.length) : leI 0 (a : Int) = true ∧ ltI (a : Int) (zs.length : Int) = true ∧ blt a zs.length = true ∧ beqN (rlen (ri zs) a) 1 = true ∧ hasRow [.int .i64] (ri zs) a 0 = true := by
  refine ⟨by simp, by simp; exact h, by simp; exact h, by rw [ri_rlen h]; rfl, num_has ⟨zs, rfl⟩ (by rw [ri_len]; exact h)⟩
theorem shr0 {v : Int} : shrI v 0 = v := by rw [shr_div (n := 0) 0 rfl (by omega)]; simp
theorem shr8 {v : Int} : shrI v 8 = v / 256 := by rw [shr_div (n := 8) 8 rfl (by omega)]; rfl
theorem wr_loop {s v : Int} {a : Nat} {zs : List Int} {l : List GAccess} (h : TouchOk s v zs l) (hc : codeO 2 s a = 0) : i101_0 (V101_0.mk ⟨ri zs, l.map GAccess.row⟩ 2 s a v 0 v 0) = true ∧ w101_0 (V101_0.mk ⟨ri zs, l.map GAccess.row⟩ 2 s a v 0 v 0) = V101_0.mk ⟨ri (wk s v a zs s.toNat), l.map GAccess.row⟩ 2 s a v 0 v s := by
  obtain ⟨-, q1, q2, q3⟩ := code_0 hc
  obtain ⟨v0, v1, v2⟩ := val_rng h.hs h.hv
  have hz := h.hz
  have hl := h.hl
  have e22 : eqI 2 2 = true := rfl
  have an : andI v 255 = v % 256 := and255 v0 (by omega)
  have an8 : andI (v / 256) 255 = v / 256 := by rw [and255 (by omega) (by omega)]; omega
  have := loop_st (N := N101_0) (fun i => V101_0.mk ⟨ri (wk s v a zs i), l.map GAccess.row⟩ 2 s a v 0 v i) s.toNat (by rcases h.hs with rfl | rfl <;> decide) ?_ ?_
  · rw [show ((s.toNat : Nat) : Int) = s from by rcases h.hs with rfl | rfl <;> rfl] at this
    exact this
  · intro i hi
    have p : addI (a : Int) ((i : Nat) : Int) = ((a + i : Nat) : Int) := by
      have : s.toNat ≤ 2 := by rcases h.hs with rfl | rfl <;> decide
      rw [addI_eq (by omega)]; omega
    rcases h.hs with rfl | rfl
    · obtain rfl : i = 0 := by have : Int.toNat 1 = 1 := rfl; omega
      have p2 : wrapK .u64 (mulI 8 (subI (subI 1 1) ((0 : Nat) : Int))) = 0 := by decide
      have p3 : ltI ((0 : Nat) : Int) 1 = true := by decide
      have p4 : addI ((0 : Nat) : Int) 1 = ((0 + 1 : Nat) : Int) := by decide
      obtain ⟨c1, c2, c3, c4, c5⟩ := cell_ok (zs := zs) (a := a) (by omega)
      unfold N101_0
      simp only [sat_ok', sat_br, sat_leaf, y101_0_l_5, y101_0_l_4, y101_0_l_3, y101_0_l_2, y101_0_l_1, y101_0_l_0, wk, p, p2, p3, p4, shr0, an, Int.toNat_natCast, Nat.zero_add, Nat.add_zero, lenI_eq, ri_len, ri_set, List.length_set, eqN_self, e22, show eqI 1 1 = true from rfl, show leI 0 0 = true from rfl, c1, c2, c3, c4, c5, Bool.and_true, true_and, cond_true, implies_true, Bool.true_eq_false, false_implies, and_true]
    · obtain rfl | rfl : i = 0 ∨ i = 1 := by have : Int.toNat 2 = 2 := rfl; omega
      · have p2 : wrapK .u64 (mulI 8 (subI (subI 2 1) ((0 : Nat) : Int))) = 8 := by decide
        have p3 : ltI ((0 : Nat) : Int) 2 = true := by decide
        have p4 : addI ((0 : Nat) : Int) 1 = ((0 + 1 : Nat) : Int) := by decide
        obtain ⟨c1, c2, c3, c4, c5⟩ := cell_ok (zs := zs) (a := a) (by omega)
        unfold N101_0
        simp only [sat_ok', sat_br, sat_leaf, y101_0_l_5, y101_0_l_4, y101_0_l_3, y101_0_l_2, y101_0_l_1, y101_0_l_0, wk, p, p2, p3, p4, shr8, an8, Int.toNat_natCast, Nat.zero_add, Nat.add_zero, lenI_eq, ri_len, ri_set, List.length_set, eqN_self, e22, show eqI 2 1 = false from rfl, show leI 0 8 = true from rfl, c1, c2, c3, c4, c5, Bool.and_true, true_and, cond_true, cond_false, implies_true, Bool.true_eq_false, false_implies, and_true]
      · have p2 : wrapK .u64 (mulI 8 (subI (subI 2 1) ((1 : Nat) : Int))) = 0 := by decide
        have p3 : ltI ((1 : Nat) : Int) 2 = true := by decide
        have p4 : addI ((1 : Nat) : Int) 1 = ((1 + 1 : Nat) : Int) := by decide
        obtain ⟨c1, c2, c3, c4, c5⟩ := cell_ok (zs := zs.set a (v / 256)) (a := a + 1) (by rw [List.length_set]; omega)
        rw [List.length_set] at c2 c3
        unfold N101_0
        simp only [sat_ok', sat_br, sat_leaf, y101_0_l_5, y101_0_l_4, y101_0_l_3, y101_0_l_2, y101_0_l_1, y101_0_l_0, wk, p, p2, p3, p4, shr0, an, Int.toNat_natCast, Nat.zero_add, lenI_eq, ri_len, ri_set, List.length_set, eqN_self, e22, show eqI 2 1 = false from rfl, show leI 0 0 = true from rfl, c1, c2, c3, c4, c5, Bool.and_true, true_and, cond_true, cond_false, implies_true, Bool.true_eq_false, false_implies, and_true]
  · have p3 : ltI ((s.toNat : Nat) : Int) s = false := by rcases h.hs with rfl | rfl <;> decide
    unfold N101_0
    simp only [sat_ok', sat_br, sat_leaf, p3, Bool.false_eq_true, false_implies, implies_true, true_and]
theorem rd_loop {k s v : Int} {a : Nat} {zs : List Int} {l : List GAccess} (h : TouchOk s v zs l) (hk : eqI k 2 = false) (hc : codeO k s a = 0) : i101_0 (V101_0.mk ⟨ri zs, l.map GAccess.row⟩ k s a v 0 0 0) = true ∧ w101_0 (V101_0.mk ⟨ri zs, l.map GAccess.row⟩ k s a v 0 0 0) = V101_0.mk ⟨ri zs, l.map GAccess.row⟩ k s a v 0 (rk a zs s.toNat) s := by
  obtain ⟨-, q1, q2, q3⟩ := code_0 hc
  have hz := h.hz
  have hl := h.hl
  have := loop_st (N := N101_0) (fun i => V101_0.mk ⟨ri zs, l.map GAccess.row⟩ k s a v 0 (rk a zs i) i) s.toNat (by rcases h.hs with rfl | rfl <;> decide) ?_ ?_
  · rw [show ((s.toNat : Nat) : Int) = s from by rcases h.hs with rfl | rfl <;> rfl] at this
    exact this
  · intro i hi
    have p : addI (a : Int) ((i : Nat) : Int) = ((a + i : Nat) : Int) := by
      have : s.toNat ≤ 2 := by rcases h.hs with rfl | rfl <;> decide
      rw [addI_eq (by omega)]; omega
    have p4 : addI ((i : Nat) : Int) 1 = ((i + 1 : Nat) : Int) := by
      have : s.toNat ≤ 2 := by rcases h.hs with rfl | rfl <;> decide
      rw [addI_eq (by omega)]; omega
    have ha : a + i < zs.length := by
      rcases h.hs with rfl | rfl
      · have : Int.toNat 1 = 1 := rfl; omega
      · have : Int.toNat 2 = 2 := rfl; omega
    obtain ⟨c1, c2, c3, c4, c5⟩ := cell_ok ha
    have p3 : ltI ((i : Nat) : Int) s = true := by rw [ltI_iff]; omega
    have p5 : orI (shlI (rk a zs i) 8) zs[a + i] = rk a zs (i + 1) := by
      have b1 := byte_at h.hb ha
      obtain rfl | rfl : i = 0 ∨ i = 1 := by
        have : s.toNat ≤ 2 := by rcases h.hs with rfl | rfl <;> decide
        omega
      · simp only [rk]
        rw [shl8 (by omega) (by omega), or_add (by omega) (by omega) b1.1 b1.2, getD_lt (by omega)]
        simp
      · have b2 := byte_at h.hb (i := a) (by omega)
        simp only [rk]
        rw [getD_lt (show a < zs.length by omega), getD_lt ha, shl8 b2.1 (by omega), or_add (by omega) (by omega) b1.1 b1.2]
    unfold N101_0
    simp only [sat_ok', sat_br, sat_leaf, y101_0_l_5, y101_0_l_4, y101_0_l_3, y101_0_l_2, y101_0_l_1, y101_0_l_0, p, p3, p4, p5, ri_int ha, Int.toNat_natCast, Nat.zero_add, lenI_eq, ri_len, eqN_self, hk, c1, c2, c3, c4, c5, Bool.and_true, true_and, implies_true, Bool.true_eq_false, Bool.false_eq_true, false_implies, and_true]
  · have p3 : ltI ((s.toNat : Nat) : Int) s = false := by rcases h.hs with rfl | rfl <;> decide
    unfold N101_0
    simp only [sat_ok', sat_br, sat_leaf, p3, Bool.false_eq_true, false_implies, implies_true, true_and]
end Go.Proofs.YtihfaondfmeglaaBus

/- Bus: the plain law. -/
namespace Go.Proofs.YtihfaondfmeglaaBus
open Go Go.Zq
set_option maxHeartbeats 4000000
set_option maxRecDepth 100000

/-! The told bus after a touch. -/
def tB (k s a v : Int) (zs : List Int) : List Int := bif eqI (codeO k s a) 0 && eqI k 2 then wk s v a.toNat zs s.toNat else zs
def tV (k s a v : Int) (zs : List Int) : Int := bif eqI k 2 then v else bif eqI (codeO k s a) 0 then rk a.toNat zs s.toNat else 0
def tL (k s a v : Int) (zs : List Int) (l : List GAccess) : List GAccess := bif ltI (l.length : Int) 400 && !(eqI k 3 && eqI (codeO k s a) 0) then l ++ [⟨k, s, a, tV k s a v zs, codeO k s a⟩] else l
theorem row_app (l : List GAccess) (x : GAccess) : l.map GAccess.row ++ [GAccess.row x] = (l ++ [x]).map GAccess.row := by simp
theorem touch_s {k s a v : Int} {zs : List Int} {l : List GAccess} (h : TouchOk s v zs l) (ha : inB a 0 65535 = true) : k101 k s a v ⟨ri zs, l.map GAccess.row⟩ = true ∧ g101 k s a v ⟨ri zs, l.map GAccess.row⟩ = (⟨ri (tB k s a v zs), (tL k s a v zs l).map GAccess.row⟩, tV k s a v zs, codeO k s a) := by
  refine sat_hid (t := T101 k s a v ⟨ri zs, l.map GAccess.row⟩) (P := fun r => r = (⟨ri (tB k s a v zs), (tL k s a v zs l).map GAccess.row⟩, tV k s a v zs, codeO k s a)) ?_
  obtain ⟨c1, c2⟩ := code_s k s a ha (by rcases h.hs with rfl | rfl <;> decide)
  have hl := h.hl
  obtain ⟨r1, r2, r3, r4, r5, r6, r7, r8, r9⟩ := roomB (n := l.length) (by omega)
  obtain ⟨m, rfl⟩ : ∃ m : Nat, a = (m : Int) := ⟨a.toNat, by rw [inB_iff] at ha; omega⟩
  have z1 : eqN (0 + l.length) l.length = true := by simp
  have z2 : leN (0 + l.length) l.length = true := by simp
  have n0 : neI (codeO k s m) 0 = !eqI (codeO k s m) 0 := rfl
  have n2 : neI k 2 = !eqI k 2 := rfl
  have n3 : neI k 3 = !eqI k 3 := rfl
  cases hc : eqI (codeO k s m) 0
  · unfold T101 tB tL tV
    simp only [sat_ok', sat_br, sat_leaf, y101_12, y101_11, y101_10, y101_9, y101_8, y101_7, y101_6, y101_5, y101_4, y101_3, y101_2, y101_1, y101_0, c1, c2, hc, n0, n2, n3, z1, z2, r8, r9, row_app, Bool.and_true, true_and, lenI_eq, List.length_map, eqN_self, Bool.false_eq_true, false_implies, Bool.and_false, Bool.false_and, Bool.not_false, cond_false, cond_true, forall_const]
    cases ltI (l.length : Int) 400 <;> cases eqI k 2 <;> cases eqI k 3 <;> simp
  · have hc' := eqI_iff.1 hc
    cases hk : eqI k 2
    · obtain ⟨d1, d2⟩ := rd_loop (a := m) h hk hc'
      unfold T101 tB tL tV
      simp only [sat_ok', sat_br, sat_leaf, y101_12, y101_11, y101_10, y101_9, y101_8, y101_7, y101_6, y101_5, y101_4, y101_3, y101_2, y101_1, y101_0, c1, c2, hc, hc', hk, d1, d2, n2, n3, show neI 0 0 = false from rfl, show eqI 0 0 = true from rfl, z1, z2, r8, r9, row_app, ri_len, Bool.and_true, true_and, lenI_eq, List.length_map, eqN_self, Int.toNat_natCast, Bool.true_eq_false, Bool.false_eq_true, false_implies, Bool.and_false, Bool.not_false, Bool.not_true, cond_false, cond_true, forall_const, and_true]
      cases ltI (l.length : Int) 400 <;> cases eqI k 3 <;> simp
    · obtain rfl := eqI_iff.1 hk
      obtain ⟨d1, d2⟩ := wr_loop (a := m) h hc'
      unfold T101 tB tL tV
      simp only [sat_ok', sat_br, sat_leaf, y101_12, y101_11, y101_10, y101_9, y101_8, y101_7, y101_6, y101_5, y101_4, y101_3, y101_2, y101_1, y101_0, c1, c2, hc, hc', hk, d1, d2, n2, n3, show eqI 2 3 = false from rfl, show neI 0 0 = false from rfl, show eqI 0 0 = true from rfl, z1, z2, r8, r9, row_app, ri_len, Bool.and_true, true_and, lenI_eq, List.length_map, eqN_self, Int.toNat_natCast, Bool.true_eq_false, Bool.false_eq_true, false_implies, Bool.and_false, Bool.false_and, Bool.not_false, Bool.not_true, cond_false, cond_true, forall_const, and_true]
      cases ltI (l.length : Int) 400 <;> simp
theorem put_i {s v : Int} {a : Nat} {zs : List Int} {l : List GAccess} (h : TouchOk s v zs l) (hc : codeO 2 s a = 0) : k154 s a v ⟨ri zs, l.map GAccess.row⟩ = true ∧ g154 s a v ⟨ri zs, l.map GAccess.row⟩ = ⟨ri (wk s v a zs s.toNat), l.map GAccess.row⟩ := by
  refine sat_hid (t := T154 s a v ⟨ri zs, l.map GAccess.row⟩) (P := fun r => r = ⟨ri (wk s v a zs s.toNat), l.map GAccess.row⟩) ?_
  obtain ⟨-, q1, q2, q3⟩ := code_0 hc
  obtain ⟨v0, v1, v2⟩ := val_rng h.hs h.hv
  have hz := h.hz
  have an : andI v 255 = v % 256 := and255 v0 (by omega)
  have p : addI (a : Int) 1 = ((a + 1 : Nat) : Int) := by rw [addI_eq (by omega)]; omega
  obtain ⟨c1, c2, c3, c4, c5⟩ := cell_ok (zs := zs) (a := a) (by omega)
  unfold T154
  rcases h.hs with rfl | rfl
  · simp only [sat_ok', sat_br, sat_leaf, y154_7, y154_6, y154_5, y154_4, y154_3, y154_2, y154_1, y154_0, show eqI 1 2 = false from rfl, an, p, c1, c2, c3, c4, c5, lenI_eq, ri_len, ri_set, List.length_set, List.length_map, eqN_self, Int.toNat_natCast, Nat.zero_add, Bool.and_true, true_and, Bool.false_eq_true, false_implies, forall_const]
    rfl
  · obtain ⟨d1, d2, d3, d4, d5⟩ := cell_ok (zs := zs.set a (v / 256)) (a := a + 1) (by rw [List.length_set]; omega)
    rw [List.length_set] at d2 d3
    simp only [sat_ok', sat_br, sat_leaf, y154_7, y154_6, y154_5, y154_4, y154_3, y154_2, y154_1, y154_0, show eqI 2 2 = true from rfl, an, p, shr8, c1, c2, c3, c4, c5, d1, d2, d3, d4, d5, lenI_eq, ri_len, ri_set, List.length_set, List.length_map, eqN_self, Int.toNat_natCast, Nat.zero_add, Bool.and_true, true_and, Bool.true_eq_false, false_implies, forall_const, and_true]
    rfl
theorem at_i {k s v : Int} {a : Nat} {zs : List Int} {l : List GAccess} (h : TouchOk s v zs l) (hc : codeO k s a = 0) : k104 s a ⟨ri zs, l.map GAccess.row⟩ = true ∧ g104 s a ⟨ri zs, l.map GAccess.row⟩ = rk a zs s.toNat := by
  refine sat_hid (t := T104 s a ⟨ri zs, l.map GAccess.row⟩) (P := fun r => r = rk a zs s.toNat) ?_
  obtain ⟨-, q1, q2, q3⟩ := code_0 hc
  have hz := h.hz
  have p : addI (a : Int) 1 = ((a + 1 : Nat) : Int) := by rw [addI_eq (by omega)]; omega
  have ha : a < zs.length := by omega
  obtain ⟨c1, c2, c3, c4, c5⟩ := cell_ok ha
  unfold T104
  rcases h.hs with rfl | rfl
  · simp only [sat_ok', sat_br, sat_leaf, y104_1, y104_0, show eqI 1 1 = true from rfl, p, c1, c2, c3, c4, c5, ri_int ha, eqN_self, lenI_eq, ri_len, Int.toNat_natCast, Nat.zero_add, Bool.and_true, true_and, Bool.true_eq_false, false_implies, forall_const, and_true]
    exact (getD_lt ha).symm
  · have ha2 : a + 1 < zs.length := by omega
    obtain ⟨d1, d2, d3, d4, d5⟩ := cell_ok ha2
    have b1 := byte_at h.hb ha
    have b2 := byte_at h.hb ha2
    simp only [sat_ok', sat_br, sat_leaf, y104_1, y104_0, show eqI 2 1 = false from rfl, p, c1, c2, c3, c4, c5, d1, d2, d3, d4, d5, ri_int ha, ri_int ha2, eqN_self, lenI_eq, ri_len, Int.toNat_natCast, Nat.zero_add, Bool.and_true, true_and, Bool.false_eq_true, false_implies, forall_const]
    rw [shl8 b1.1 (by omega), or_add b1.1 (by omega) b2.1 b2.2]
    simp only [show Int.toNat 2 = 2 from rfl, rk]
    rw [getD_lt ha, getD_lt ha2]
theorem touch_i {k s a v : Int} {zs : List Int} {l : List GAccess} (h : TouchOk s v zs l) (ha : inB a 0 65535 = true) (hv : eqI k 2 = false → v = 0) : k97 k s a v ⟨ri zs, l.map GAccess.row⟩ = true ∧ g97 k s a v ⟨ri zs, l.map GAccess.row⟩ = (⟨ri (tB k s a v zs), (tL k s a v zs l).map GAccess.row⟩, (bif eqI k 2 then 0 else tV k s a v zs), codeO k s a) := by
  refine sat_hid (t := T97 k s a v ⟨ri zs, l.map GAccess.row⟩) (P := fun r => r = (⟨ri (tB k s a v zs), (tL k s a v zs l).map GAccess.row⟩, (bif eqI k 2 then 0 else tV k s a v zs), codeO k s a)) ?_
  obtain ⟨c1, c2⟩ := code_i k s a ha (by rcases h.hs with rfl | rfl <;> decide)
  have hl := h.hl
  obtain ⟨r1, r2, r3, r4, r5, r6, r7, r8, r9⟩ := roomB (n := l.length) (by omega)
  obtain ⟨m, rfl⟩ : ∃ m : Nat, a = (m : Int) := ⟨a.toNat, by rw [inB_iff] at ha; omega⟩
  have z1 : eqN (0 + l.length) l.length = true := by simp
  have z2 : leN (0 + l.length) l.length = true := by simp
  have n0 : neI (codeO k s m) 0 = !eqI (codeO k s m) 0 := rfl
  have n2 : neI k 2 = !eqI k 2 := rfl
  cases hc : eqI (codeO k s m) 0
  · unfold T97 tB tL tV
    simp only [sat_ok', sat_br, sat_leaf, y97_17, y97_16, y97_15, y97_14, y97_13, y97_12, y97_11, y97_10, y97_9, y97_8, y97_7, y97_6, y97_5, y97_4, y97_3, y97_2, y97_1, y97_0, c1, c2, hc, n0, n2, z1, z2, r8, r9, row_app, Bool.and_true, true_and, lenI_eq, List.length_map, eqN_self, Bool.true_eq_false, Bool.false_eq_true, false_implies, Bool.and_false, Bool.false_and, Bool.not_false, cond_false, cond_true, forall_const, and_true]
    cases ltI (l.length : Int) 400 <;> cases eqI k 2 <;> cases eqI k 3 <;> simp
  · have hc' := eqI_iff.1 hc
    cases hk : eqI k 2
    · obtain ⟨d1, d2⟩ := at_i (a := m) h hc'
      unfold T97 tB tL tV
      simp only [sat_ok', sat_br, sat_leaf, y97_17, y97_16, y97_15, y97_14, y97_13, y97_12, y97_11, y97_10, y97_9, y97_8, y97_7, y97_6, y97_5, y97_4, y97_3, y97_2, y97_1, y97_0, c1, c2, hc, hc', hk, d1, d2, n2, show neI 0 0 = false from rfl, show eqI 0 0 = true from rfl, z1, z2, r8, r9, row_app, ri_len, Bool.and_true, true_and, lenI_eq, List.length_map, eqN_self, Int.toNat_natCast, Bool.true_eq_false, Bool.false_eq_true, false_implies, Bool.and_false, Bool.not_false, Bool.not_true, cond_false, cond_true, forall_const, and_true]
      cases ltI (l.length : Int) 400 <;> cases eqI k 3 <;> simp
    · obtain rfl := eqI_iff.1 hk
      obtain ⟨d1, d2⟩ := put_i (a := m) h hc'
      unfold T97 tB tL tV
      simp only [sat_ok', sat_br, sat_leaf, y97_17, y97_16, y97_15, y97_14, y97_13, y97_12, y97_11, y97_10, y97_9, y97_8, y97_7, y97_6, y97_5, y97_4, y97_3, y97_2, y97_1, y97_0, c1, c2, hc, hc', hk, d1, d2, n2, show eqI 2 3 = false from rfl, show neI 0 0 = false from rfl, show eqI 0 0 = true from rfl, z1, z2, r8, r9, row_app, ri_len, Bool.and_true, true_and, lenI_eq, List.length_map, eqN_self, Int.toNat_natCast, Bool.true_eq_false, Bool.false_eq_true, false_implies, Bool.and_false, Bool.false_and, Bool.not_false, Bool.not_true, cond_false, cond_true, forall_const, and_true]
      cases ltI (l.length : Int) 400 <;> simp
end Go.Proofs.YtihfaondfmeglaaBus

/- Bus: the plain law. -/
namespace Go.Proofs.YtihfaondfmeglaaBus
open Go Go.Zq
set_option maxHeartbeats 4000000
set_option maxRecDepth 100000

theorem byte_g (x : Int) : g87 x = !inB x 0 255 := by
  simp [g87, hid_eq, T87]
theorem byte_k (x : Int) : k87 x = true := by
  simp [k87, hid_eq, T87]
theorem idx_loop (zs : List Int) (hl : zs.length < 1000000) : i149_0 (V149_0.mk (ri zs) (lenI (ri zs)) 0) = true ∧ 0 ≤ (w149_0 (V149_0.mk (ri zs) (lenI (ri zs)) 0)).s8 ∧ (ltI (w149_0 (V149_0.mk (ri zs) (lenI (ri zs)) 0)).s8 (w149_0 (V149_0.mk (ri zs) (lenI (ri zs)) 0)).s7 = !bytesB zs) := by
  unfold i149_0 w149_0
  refine loop_w (Post := fun w => 0 ≤ w.s8 ∧ ltI w.s8 w.s7 = !bytesB zs) (loop_sat (fun n v => ∃ i : Nat, v = V149_0.mk (ri zs) (lenI (ri zs)) i ∧ i ≤ zs.length ∧ n = zs.length - i ∧ ∀ j (hj : j < zs.length), j < i → inB zs[j] 0 255 = true) _ ?_ 2097152 zs.length _ ⟨0, rfl, by omega, by omega, fun j _ h => absurd h (by omega)⟩ (by omega))
  rintro n v ⟨i, rfl, hi, rfl, hall⟩
  unfold N149_0
  simp only [sat_ok', sat_br, sat_leaf, lenI_eq, ri_len, ltI_iff, ltI_f, true_and, Int.toNat_natCast]
  constructor
  · intro h
    have hi' : i < zs.length := by omega
    rw [ri_inr hi', ri_int hi', byte_k, byte_g]
    refine ⟨rfl, fun hz => ?_, fun hz => ?_⟩
    · rw [bytesB_f hi' (by simpa using hz)]
      exact ⟨by omega, by simpa [ltI] using h⟩
    · refine ⟨_, ?_, i + 1, ?_, by omega, rfl, ?_⟩
      · omega
      · rw [addI_eq (by omega)]; rfl
      · intro j hj hji
        by_cases e : j = i
        · subst e; simpa using hz
        · exact hall j hj (by omega)
  · intro h
    rw [bytesB_t fun j hj => hall j hj (by omega)]
    exact ⟨by omega, by simpa [ltI] using h⟩
theorem idx_t (zs : List Int) (hl : zs.length < 1000000) : k86 (ri zs) = true ∧ g86 (ri zs) = !bytesB zs := by
  obtain ⟨h1, h2, h3⟩ := idx_loop zs hl
  have a : k149 (ri zs) = true ∧ geI (g149 (ri zs)) 0 = !bytesB zs := by
    unfold k149 g149 T149 y149_0
    rw [hid_eq, hid_eq]
    simp only [okv_ok, okv_br, okv_leaf, val_ok, val_br, val_leaf, h1, h3, Bool.true_and]
    cases bytesB zs
    · exact ⟨rfl, by simpa using h2⟩
    · exact ⟨rfl, rfl⟩
  have b : k86 (ri zs) = true ∧ g86 (ri zs) = !bytesB zs := by
    unfold k86 g86 T86
    rw [hid_eq, hid_eq]
    simp only [okv_ok, okv_leaf, val_ok, val_leaf, a.1, a.2, Bool.true_and, and_self]
  exact b
theorem acc_g (x : GAccess) : g89 x = !accB x := by
  simp [g89, hid_eq, T89, (acc_i x).2]
theorem acc_k (x : GAccess) : k89 x = true := by
  simp [k89, hid_eq, T89, (acc_i x).1]
theorem idxA_loop (l : List GAccess) (hl : l.length < 1000000) : i147_0 (V147_0.mk (l.map GAccess.row) (lenI (l.map GAccess.row)) 0) = true ∧ 0 ≤ (w147_0 (V147_0.mk (l.map GAccess.row) (lenI (l.map GAccess.row)) 0)).s8 ∧ (ltI (w147_0 (V147_0.mk (l.map GAccess.row) (lenI (l.map GAccess.row)) 0)).s8 (w147_0 (V147_0.mk (l.map GAccess.row) (lenI (l.map GAccess.row)) 0)).s7 = !l.all accB) := by
  unfold i147_0 w147_0
  refine loop_w (Post := fun w => 0 ≤ w.s8 ∧ ltI w.s8 w.s7 = !l.all accB) (loop_sat (fun n v => ∃ i : Nat, v = V147_0.mk (l.map GAccess.row) (lenI (l.map GAccess.row)) i ∧ i ≤ l.length ∧ n = l.length - i ∧ ∀ j (hj : j < l.length), j < i → accB l[j] = true) _ ?_ 2097152 l.length _ ⟨0, rfl, by omega, by omega, fun j _ h => absurd h (by omega)⟩ (by omega))
  rintro n v ⟨i, rfl, hi, rfl, hall⟩
  unfold N147_0
  simp only [sat_ok', sat_br, sat_leaf, lenI_eq, List.length_map, ltI_iff, ltI_f, true_and, Int.toNat_natCast]
  constructor
  · intro h
    have hi' : i < l.length := by omega
    obtain ⟨p1, p2⟩ := acc_in hi'
    rw [p1, p2, acc_k, acc_g]
    refine ⟨rfl, fun hz => ?_, fun hz => ?_⟩
    · rw [all_f hi' (by simpa using hz)]
      exact ⟨by omega, by simpa [ltI] using h⟩
    · refine ⟨_, ?_, i + 1, ?_, by omega, rfl, ?_⟩
      · omega
      · rw [addI_eq (by omega)]; rfl
      · intro j hj hji
        by_cases e : j = i
        · subst e; simpa using hz
        · exact hall j hj (by omega)
  · intro h
    rw [all_t fun j hj => hall j hj (by omega)]
    exact ⟨by omega, by simpa [ltI] using h⟩
theorem idxA_t (l : List GAccess) (hl : l.length < 1000000) : k88 (l.map GAccess.row) = true ∧ g88 (l.map GAccess.row) = !l.all accB := by
  obtain ⟨h1, h2, h3⟩ := idxA_loop l hl
  have a : k147 (l.map GAccess.row) = true ∧ geI (g147 (l.map GAccess.row)) 0 = !l.all accB := by
    unfold k147 g147 T147 y147_0
    rw [hid_eq, hid_eq]
    simp only [okv_ok, okv_br, okv_leaf, val_ok, val_br, val_leaf, h1, h3, Bool.true_and]
    cases l.all accB
    · exact ⟨rfl, by simpa using h2⟩
    · exact ⟨rfl, rfl⟩
  have b : k88 (l.map GAccess.row) = true ∧ g88 (l.map GAccess.row) = !l.all accB := by
    unfold k88 g88 T88
    rw [hid_eq, hid_eq]
    simp only [okv_ok, okv_leaf, val_ok, val_leaf, a.1, a.2, Bool.true_and, and_self]
  exact b
def goodB (zs : List Int) (l : List GAccess) : Bool := eqI (zs.length : Int) 512 && (leI (l.length : Int) 400 && (bytesB zs && l.all accB))
theorem good_i (zs : List Int) (l : List GAccess) (hz : zs.length < 1000000) (hl : l.length < 1000000) : k21 ⟨ri zs, l.map GAccess.row⟩ = true ∧ g21 ⟨ri zs, l.map GAccess.row⟩ = goodB zs l := by
  refine sat_hid (t := T21 ⟨ri zs, l.map GAccess.row⟩) (P := fun r => r = goodB zs l) ?_
  obtain ⟨a1, a2⟩ := idx_t zs hz
  obtain ⟨b1, b2⟩ := idxA_t l hl
  unfold T21 goodB
  simp only [sat_ok', sat_leaf, y21_1, y21_0, Bool.cond_self, a1, a2, b1, b2, lenI_eq, ri_len, List.length_map, Bool.and_true, Bool.true_or, true_and]
  cases eqI (zs.length : Int) 512 <;> cases leI (l.length : Int) 400 <;> cases bytesB zs <;> cases l.all accB <;> rfl
theorem own_i {b : GBus} (h1 : b.Bytes.length ≤ 2000) (h2 : b.Log.length ≤ 2000) : k96 b = true ∧ g96 b = b := by
  refine sat_hid (t := T96 b) (P := fun r => r = b) ?_
  obtain ⟨a1, a2, a3, a4, a5, a6, a7, a8, a9⟩ := roomB h1
  obtain ⟨b1, b2, b3, b4, b5, b6, b7, b8, b9⟩ := roomB h2
  unfold T96
  simp only [sat_ok', sat_leaf, y96_1, y96_0, eqN_self, same_s, sameR_s, Bool.and_true, true_and, (z_len).1, (z_len).2, a1, a4, a6, b2, b5, b6]
theorem own_s {b : GBus} (h1 : b.Bytes.length ≤ 2000) (h2 : b.Log.length ≤ 2000) : k100 b = true ∧ g100 b = b := by
  refine sat_hid (t := T100 b) (P := fun r => r = b) ?_
  obtain ⟨a1, a2, a3, a4, a5, a6, a7, a8, a9⟩ := roomB h1
  obtain ⟨b1, b2, b3, b4, b5, b6, b7, b8, b9⟩ := roomB h2
  unfold T100
  simp only [sat_ok', sat_leaf, y100_5, y100_4, y100_3, y100_2, y100_1, y100_0, eqN_self, same_s, sameR_s, Bool.and_true, true_and, (z_len).1, (z_len).2, a1, a4, a6, b2, b5, b6]
/-! A touch of any bus. -/
def tOk (k s a v : Int) (zs : List Int) (l : List GAccess) : Bool := goodB zs l && (inB k 1 3 && (inB a 0 65535 && (valB s v && (eqI k 2 || eqI v 0))))
def tR (k s a v : Int) (zs : List Int) (l : List GAccess) : GBus × Int × Int × Bool := bif tOk k s a v zs l then (⟨ri (tB k s a v zs), (tL k s a v zs l).map GAccess.row⟩, (bif eqI k 2 then 0 else tV k s a v zs), codeO k s a, true) else (⟨[], []⟩, 0, 0, false)
theorem tOk_of {k s a v : Int} {zs : List Int} {l : List GAccess} (h : tOk k s a v zs l = true) : TouchOk s v zs l ∧ inB a 0 65535 = true ∧ (eqI k 2 = false → v = 0) ∧ goodB zs l = true ∧ inB k 1 3 = true := by
  unfold tOk goodB at h
  simp only [Bool.and_eq_true, Bool.or_eq_true, eqI_iff, leI_iff] at h
  obtain ⟨⟨h1, h2, h3, h4⟩, h5, h6, h7, h8⟩ := h
  refine ⟨⟨?_, h7, by omega, h3, by omega⟩, h6, fun e => by rw [eqI_f] at e; omega, by unfold goodB; simp [h1, h2, h3, h4], h5⟩
  unfold valB at h7
  cases e1 : eqI s 1
  · cases e2 : eqI s 2
    · rw [e1, e2] at h7; simp at h7
    · exact Or.inr (eqI_iff.1 e2)
  · exact Or.inl (eqI_iff.1 e1)
theorem tB_len (k s a v : Int) (zs : List Int) : (tB k s a v zs).length = zs.length := by
  unfold tB
  cases eqI (codeO k s a) 0 && eqI k 2
  · rfl
  · rw [cond_true]
    match s.toNat with
    | 0 => rfl
    | 1 => simp [wk]
    | n + 2 => simp [wk]
theorem tL_len (k s a v : Int) (zs : List Int) (l : List GAccess) : (tL k s a v zs l).length ≤ l.length + 1 := by
  unfold tL
  cases ltI (l.length : Int) 400 && !(eqI k 3 && eqI (codeO k s a) 0)
  · simp
  · simp
theorem tch_i (k s a v : Int) (zs : List Int) (l : List GAccess) (hz : zs.length < 1000) (hl : l.length ≤ 1000) : k23 ⟨ri zs, l.map GAccess.row⟩ k s a v = true ∧ g23 ⟨ri zs, l.map GAccess.row⟩ k s a v = tR k s a v zs l := by
  refine sat_hid (t := T23 ⟨ri zs, l.map GAccess.row⟩ k s a v) (P := fun r => r = tR k s a v zs l) ?_
  obtain ⟨a1, a2⟩ := good_i zs l (by omega) (by omega)
  obtain ⟨o1, o2⟩ := own_i (b := ⟨ri zs, l.map GAccess.row⟩) (by simp only [ri_len]; omega) (by simp only [List.length_map]; omega)
  obtain ⟨e1, e2, e3, e4, e5, e6, e7, e8, e9⟩ := roomB (n := zs.length) (by omega)
  obtain ⟨f1, f2, f3, f4, f5, f6, f7, f8, f9⟩ := roomB (n := l.length) (by omega)
  have n2 : neI k 2 = !eqI k 2 := rfl
  have n0 : neI v 0 = !eqI v 0 := rfl
  unfold T23
  simp only [sat_ok', sat_br, sat_leaf, y23_7, y23_6, y23_5, y23_4, y23_3, y23_2, y23_1, y23_0, a1, a2, within_g, within_k, (word_i _).1, (word_i _).2, (val_i _ _).1, (val_i _ _).2, o1, o2, ri_len, List.length_map, e1, e3, e4, e6, f2, f3, f5, f6, n2, n0, eqN_self, sameR_s, same_s, Bool.and_true, Bool.true_or, true_and]
  have hc : (bif bif bif bif !(goodB zs l) then true else !(inB k 1 3) then true else !(inB a 0 65535) then true else !(valB s v) then true else bif !(eqI k 2) then !(eqI v 0) else false) = !tOk k s a v zs l := by
    unfold tOk
    cases goodB zs l <;> cases inB k 1 3 <;> cases inB a 0 65535 <;> cases valB s v <;> cases eqI k 2 <;> cases eqI v 0 <;> rfl
  rw [hc]
  unfold tR
  refine ⟨fun h => ?_, fun h => ?_⟩
  · rw [Bool.not_eq_true'] at h; rw [h]; rfl
  · rw [Bool.not_eq_false'] at h
    obtain ⟨q1, q2, q3, -⟩ := tOk_of h
    obtain ⟨p1, p2⟩ := touch_i (k := k) q1 q2 q3
    rw [p1, p2, h]
    exact ⟨rfl, rfl⟩
end Go.Proofs.YtihfaondfmeglaaBus

/- Bus: the plain law. -/
namespace Go.Proofs.YtihfaondfmeglaaBus
open Go Go.Zq
set_option maxHeartbeats 4000000
set_option maxRecDepth 100000

theorem tch_s (k s a v : Int) (zs : List Int) (l : List GAccess) (hz : zs.length ≤ 512) (hl : l.length ≤ 1000) : k24 ⟨ri zs, l.map GAccess.row⟩ k s a v = true ∧ g24 ⟨ri zs, l.map GAccess.row⟩ k s a v = tR k s a v zs l := by
  refine sat_hid (t := T24 ⟨ri zs, l.map GAccess.row⟩ k s a v) (P := fun r => r = tR k s a v zs l) ?_
  obtain ⟨a1, a2⟩ := good_s (b := ⟨ri zs, l.map GAccess.row⟩) (zs := zs) (l := l) ⟨⟨zs, rfl⟩, ⟨l, rfl⟩, by simpa only [ri_len] using hz, by simpa using hl⟩ rfl rfl
  obtain ⟨o1, o2⟩ := own_s (b := ⟨ri zs, l.map GAccess.row⟩) (by simp only [ri_len]; omega) (by simp only [List.length_map]; omega)
  obtain ⟨e1, e2, e3, e4, e5, e6, e7, e8, e9⟩ := roomB (n := zs.length) (by omega)
  obtain ⟨f1, f2, f3, f4, f5, f6, f7, f8, f9⟩ := roomB (n := l.length) (by omega)
  have n2 : neI k 2 = !eqI k 2 := rfl
  have n0 : neI v 0 = !eqI v 0 := rfl
  have a3 : g25 ⟨ri zs, l.map GAccess.row⟩ = goodB zs l := a2
  unfold T24
  simp only [sat_ok', sat_br, sat_leaf, y24_9, y24_8, y24_7, y24_6, y24_5, y24_4, y24_3, y24_2, y24_1, y24_0, a1, a3, l1In_g, l1In_k, (word_s _).1, (word_s _).2, (val_s _ _).1, (val_s _ _).2, o1, o2, ri_len, List.length_map, e1, e3, e4, e6, f2, f3, f5, f6, n2, n0, eqN_self, sameR_s, same_s, Bool.and_true, Bool.true_or, true_and]
  have hc : (bif bif bif bif !(goodB zs l) then true else !(inB k 1 3) then true else !(valB s v) then true else !(inB a 0 65535) then true else bif !(eqI k 2) then !(eqI v 0) else false) = !tOk k s a v zs l := by
    unfold tOk
    cases goodB zs l <;> cases inB k 1 3 <;> cases inB a 0 65535 <;> cases valB s v <;> cases eqI k 2 <;> cases eqI v 0 <;> rfl
  rw [hc]
  unfold tR
  refine ⟨fun h => ?_, fun h => ?_⟩
  · rw [Bool.not_eq_true'] at h; rw [h]; rfl
  · rw [Bool.not_eq_false'] at h
    obtain ⟨q1, q2, q3, -⟩ := tOk_of h
    obtain ⟨p1, p2⟩ := touch_s (k := k) q1 q2
    have t1 := tB_len k s a v zs
    have t2 := tL_len k s a v zs l
    obtain ⟨u1, u2⟩ := own_s (b := ⟨ri (tB k s a v zs), (tL k s a v zs l).map GAccess.row⟩) (by simp only [ri_len]; omega) (by simp only [List.length_map]; omega)
    rw [p1, p2, h, u1, u2]
    exact ⟨rfl, rfl, rfl⟩
theorem tch_sv1 (k s a v : Int) (zs : List Int) (l : List GAccess) (hz : zs.length ≤ 512) (hl : l.length ≤ 1000) : k24v1 ⟨ri zs, l.map GAccess.row⟩ k s a v = true ∧ g24v1 ⟨ri zs, l.map GAccess.row⟩ k s a v = tR k s a v zs l := by
  refine sat_hid (t := T24v1 ⟨ri zs, l.map GAccess.row⟩ k s a v) (P := fun r => r = tR k s a v zs l) ?_
  obtain ⟨a1, a2⟩ := good_sv1 (b := ⟨ri zs, l.map GAccess.row⟩) (zs := zs) (l := l) ⟨⟨zs, rfl⟩, ⟨l, rfl⟩, by simpa only [ri_len] using hz, by simpa using hl⟩ rfl rfl
  obtain ⟨o1, o2⟩ := own_s (b := ⟨ri zs, l.map GAccess.row⟩) (by simp only [ri_len]; omega) (by simp only [List.length_map]; omega)
  obtain ⟨e1, e2, e3, e4, e5, e6, e7, e8, e9⟩ := roomB (n := zs.length) (by omega)
  obtain ⟨f1, f2, f3, f4, f5, f6, f7, f8, f9⟩ := roomB (n := l.length) (by omega)
  have n2 : neI k 2 = !eqI k 2 := rfl
  have n0 : neI v 0 = !eqI v 0 := rfl
  have a3 : g25v1 ⟨ri zs, l.map GAccess.row⟩ = goodB zs l := a2
  unfold T24v1
  simp only [sat_ok', sat_br, sat_leaf, y24v1_10, y24v1_9, y24v1_8, y24v1_7, y24v1_6, y24v1_5, y24v1_4, y24v1_3, y24v1_2, y24v1_1, y24v1_0, a1, a3, l1In_g, l1In_k, (word_s _).1, (word_s _).2, (val_s _ _).1, (val_s _ _).2, o1, o2, ri_len, List.length_map, e1, e3, e4, e6, f2, f3, f5, f6, n2, n0, eqN_self, sameR_s, same_s, Bool.and_true, Bool.true_or, true_and]
  have hc : (bif bif bif bif !(goodB zs l) then true else !(inB k 1 3) then true else !(valB s v) then true else !(inB a 0 65535) then true else bif !(eqI k 2) then !(eqI v 0) else false) = !tOk k s a v zs l := by
    unfold tOk
    cases goodB zs l <;> cases inB k 1 3 <;> cases inB a 0 65535 <;> cases valB s v <;> cases eqI k 2 <;> cases eqI v 0 <;> rfl
  rw [hc]
  unfold tR
  refine ⟨fun h => ?_, fun h => ?_⟩
  · rw [Bool.not_eq_true'] at h; rw [h]; rfl
  · rw [Bool.not_eq_false'] at h
    obtain ⟨q1, q2, q3, -⟩ := tOk_of h
    obtain ⟨p1, p2⟩ := touch_s (k := k) q1 q2
    have t1 := tB_len k s a v zs
    have t2 := tL_len k s a v zs l
    obtain ⟨u1, u2⟩ := own_s (b := ⟨ri (tB k s a v zs), (tL k s a v zs l).map GAccess.row⟩) (by simp only [ri_len]; omega) (by simp only [List.length_map]; omega)
    rw [p1, p2, h, u1, u2]
    exact ⟨rfl, rfl, rfl⟩
end Go.Proofs.YtihfaondfmeglaaBus

/- Bus: the plain law. -/
namespace Go.Proofs.YtihfaondfmeglaaBus
open Go Go.Zq
set_option maxHeartbeats 4000000
set_option maxRecDepth 100000

/-! Draws of buses and touches. -/
theorem amongC {B : Int} {c : Gl1Cur} (r : List Int) (h1 : CO B c) (h2 : B < 2500000000000000000) (h3 : 1 ≤ r.length) : k91 (ri r) c = true ∧ CO (B + 2) (g91 (ri r) c).1 := by
  obtain ⟨a, b, -⟩ := among_d (r := ri r) ⟨r, rfl⟩ (by rw [ri_len]; exact h3) h1 (by omega)
  exact ⟨a, b⟩
theorem addr_d {B : Int} {c : Gl1Cur} (h : CO B c) (hB : B < 2500000000000000000) : k79 c = true ∧ CO (B + 2) (g79 c).1 := by
  refine sat_hid (t := T79 c) (P := fun r => CO (B + 2) r.1) ?_
  obtain ⟨a1, a2⟩ := amongC [0, 1, 2, 100, 383, 384, 446, 447, 448, 494, 495, 496, 510, 511, 512, 65535, -1, 65536, 20, 30] h hB (by decide)
  unfold T79
  simp only [sat_ok', sat_leaf, Bool.and_true, true_and]
  exact ⟨a1, a2⟩
theorem size_d {B : Int} {c : Gl1Cur} (h : CO B c) (hB : B < 2500000000000000000) : k92 c = true ∧ CO (B + 2) (g92 c).1 := by
  refine sat_hid (t := T92 c) (P := fun r => CO (B + 2) r.1) ?_
  obtain ⟨a1, a2⟩ := amongC [1, 2, 2, 1, 1, 2, 2, 2, 0, 3] h hB (by decide)
  unfold T92
  simp only [sat_ok', sat_leaf, Bool.and_true, true_and]
  exact ⟨a1, a2⟩
theorem value_d {B : Int} {c : Gl1Cur} (h : CO B c) (hB : B < 2000000000000000000) : k150 c = true ∧ CO (B + 8) (g150 c).1 := by
  refine sat_hid (t := T150 c) (P := fun r => CO (B + 8) r.1) ?_
  obtain ⟨a1, a2⟩ := one_d 2 h (by omega)
  obtain ⟨b1, b2⟩ := amongC [0, 1, 127, 128, 255, 256, 32767, 32768, 65535, 65536, -1] a2 (by omega) (by decide)
  obtain ⟨d1, d2, -⟩ := pick_d 256 a2 (by omega)
  obtain ⟨e1, e2, -⟩ := pick_d 2 d2 (by omega)
  obtain ⟨f1, f2, -⟩ := pick_d 256 e2 (by omega)
  unfold T150
  simp only [sat_ok', sat_br, sat_leaf, a1, d1, e1, Bool.and_true, true_and]
  refine ⟨fun _ => ⟨b1, b2.mono (by omega)⟩, fun _ => ⟨?_, f2.mono (by omega)⟩⟩
  rw [Bool.true_and]; exact f1
theorem CO_if {B : Int} {p : Bool} {c d : Gl1Cur} (h : CO B c) (k : CO B d) : CO B (Gl1Cur.mk (bif p then c.fcode else d.fcode) (bif p then c.fat else d.fat) (bif p then c.fseed else d.fseed)) := by
  cases p
  · exact k
  · exact h
theorem fit_d {B : Int} {c : Gl1Cur} (n : Int) (h : CO B c) (hB : B < 2000000000000000000) : k93 n c = true ∧ CO (B + 10) (g93 n c).1 := by
  refine sat_hid (t := T93 n c) (P := fun r => CO (B + 10) r.1) ?_
  obtain ⟨a1, a2⟩ := value_d h hB
  obtain ⟨b1, b2⟩ := one_d 20 a2 (by omega)
  unfold T93
  simp only [sat_ok', sat_br, sat_leaf, a1, b1, Bool.and_true, Bool.true_or, true_and]
  exact CO_if (b2.mono (by omega)) (a2.mono (by omega))
theorem tL_le {k s a v : Int} {zs : List Int} {l : List GAccess} (h : l.length ≤ 400) : (tL k s a v zs l).length ≤ 400 := by
  unfold tL
  cases hc : ltI (l.length : Int) 400
  · exact h
  · rw [ltI_iff] at hc
    cases eqI k 3 && eqI (codeO k s a) 0
    · simp; omega
    · exact h
theorem bus_loop (n : Nat) (c : Gl1Cur) (b : GBus) (ys : List Int) {B : Int} (h : CO B c) (hB : B + 10 * n < 1000000000000000000) (hn : n ≤ 100) (hy : ys.length = 512) : i72_0 (V72_0.mk c b ⟨ri ys, []⟩ (n : Int)) = true ∧ (CO (B + 10 * n) (w72_0 (V72_0.mk c b ⟨ri ys, []⟩ (n : Int))).b0 ∧ ∃ (zs : List Int) (l : List GAccess), (w72_0 (V72_0.mk c b ⟨ri ys, []⟩ (n : Int))).b2 = ⟨ri zs, l.map GAccess.row⟩ ∧ zs.length = 512 ∧ l.length ≤ 400) := by
  unfold i72_0 w72_0
  refine loop_w (Post := fun w : V72_0 => CO (B + 10 * n) w.b0 ∧ ∃ (zs : List Int) (l : List GAccess), w.b2 = ⟨ri zs, l.map GAccess.row⟩ ∧ zs.length = 512 ∧ l.length ≤ 400) (loop_sat (fun (m : Nat) (v : V72_0) => CO (B + 10 * (n - m)) v.b0 ∧ v.s5 = (m : Int) ∧ m ≤ n ∧ ∃ (zs : List Int) (l : List GAccess), v.b2 = ⟨ri zs, l.map GAccess.row⟩ ∧ zs.length = 512 ∧ l.length ≤ 400) _ ?_ 2097152 n _ ⟨h.mono (by omega), rfl, by omega, ys, [], rfl, hy, by decide⟩ (by omega))
  rintro m v ⟨h1, h2, h3, zs, l, h4, h5, h6⟩
  obtain ⟨p1, p2, -⟩ := pick_d 2 h1 (by omega)
  obtain ⟨q1, q2, -⟩ := pick_d 2 p2 (by omega)
  obtain ⟨r1, r2⟩ := addr_d q2 (by omega)
  have t := tch_s (addI 1 (g73 2 v.b0).2) (addI 1 (g73 2 (g73 2 v.b0).1).2) (g79 (g73 2 (g73 2 v.b0).1).1).2 0 zs l (by omega) (by omega)
  obtain ⟨t1, t2⟩ := t
  unfold N72_0
  simp only [sat_ok', sat_br, sat_leaf, y72_0_l_14, y72_0_l_13, y72_0_l_12, y72_0_l_11, y72_0_l_10, y72_0_l_9, y72_0_l_8, y72_0_l_7, y72_0_l_6, y72_0_l_5, y72_0_l_4, y72_0_l_3, y72_0_l_2, y72_0_l_1, y72_0_l_0, h2, h4, p1, q1, r1, t1, t2, eqN_self, sameR_s, same_s, gtI_iff, gtI_f, Bool.and_true, true_and]
  refine ⟨fun hm => ⟨fun ht => ⟨m - 1, by omega, r2.mono (by omega), ?_, by omega, ?_⟩, fun ht => ⟨m - 1, by omega, r2.mono (by omega), ?_, by omega, zs, l, rfl, h5, h6⟩⟩, fun hm => ⟨h1.mono (by omega), zs, l, rfl, h5, h6⟩⟩
  · rw [subI_eq (by omega)]; omega
  · unfold tR at ht ⊢
    cases ho : tOk (addI 1 (g73 2 v.b0).2) (addI 1 (g73 2 (g73 2 v.b0).1).2) (g79 (g73 2 (g73 2 v.b0).1).1).2 0 zs l
    · rw [ho] at ht; simp at ht
    · exact ⟨_, _, rfl, by rw [tB_len]; exact h5, tL_le h6⟩
  · rw [subI_eq (by omega)]; omega
end Go.Proofs.YtihfaondfmeglaaBus

/- Bus: the plain law. -/
namespace Go.Proofs.YtihfaondfmeglaaBus
open Go Go.Zq
set_option maxHeartbeats 4000000
set_option maxRecDepth 100000

/-- A drawn bus. -/
def BB (b : GBus) : Prop := ∃ (zs : List Int) (l : List GAccess), b = ⟨ri zs, l.map GAccess.row⟩ ∧ zs.length ≤ 512 ∧ l.length ≤ 400
theorem ri_take {zs : List Int} {n : Nat} : (ri zs).take n = ri (zs.take n) := by
  simp only [ri, List.map_take]
theorem bus_d {B : Int} {c : Gl1Cur} (h : CO B c) (hB : B < 100000000000000000) : k72 c = true ∧ (CO (B + 1000) (g72 c).1 ∧ BB (g72 c).2) := by
  refine sat_hid (t := T72 c) (P := fun r => CO (B + 1000) r.1 ∧ BB r.2) ?_
  obtain ⟨a1, a2, a3, a4, -⟩ := pick_d 40 h (by omega)
  have a4 := a4 (by omega)
  obtain ⟨m, hm⟩ : ∃ m : Nat, (g73 40 c).2 = (m : Int) := ⟨_, (Int.toNat_of_nonneg a3).symm⟩
  rw [hm] at a4
  obtain ⟨b1, b2, xs, b3, b4, b5⟩ := bytes4_d m _ a2 (by omega) (by omega)
  obtain ⟨d1, d2, d3, d4, -⟩ := pick_d 20 b2 (by omega)
  have d4 := d4 (by omega)
  obtain ⟨n, hn⟩ : ∃ n : Nat, (g73 20 (g82 (m : Int) (g73 40 c).1).1).2 = (n : Int) := ⟨_, (Int.toNat_of_nonneg d3).symm⟩
  rw [hn] at d4
  obtain ⟨e1, e2, ys, e3, e4, e5⟩ := bytes4_d n _ d2 (by omega) (by omega)
  obtain ⟨f1, ⟨zs, f2, f3⟩, f4⟩ := new_t xs ys (by omega) (by omega) b5 e5
  obtain ⟨g1, g2, g3, g4, -⟩ := pick_d 6 e2 (by omega)
  have g4 := g4 (by omega)
  obtain ⟨j, hj⟩ : ∃ j : Nat, (g73 6 (g82 (n : Int) (g73 20 (g82 (m : Int) (g73 40 c).1).1).1).1).2 = (j : Int) := ⟨_, (Int.toNat_of_nonneg g3).symm⟩
  rw [hj] at g4
  have fb : (g18 (ri xs) (ri ys)).1 = ⟨ri zs, []⟩ := by
    rw [← f2, ← f4]
  have y0 : y72_0 c = g82 (m : Int) (g73 40 c).1 := by unfold y72_0; rw [hm]
  have y1 : y72_1 c = g82 (n : Int) (g73 20 (g82 (m : Int) (g73 40 c).1).1).1 := by unfold y72_1; rw [y0, hn]
  obtain ⟨w1, w2, vs, l, w3, w4, w5⟩ := bus_loop j (g73 6 (g82 (n : Int) (g73 20 (g82 (m : Int) (g73 40 c).1).1).1).1).1 ⟨[], []⟩ zs g2 (by omega) (by omega) f3
  have y5 : y72_5 c = w72_0 (V72_0.mk (g73 6 (g82 (n : Int) (g73 20 (g82 (m : Int) (g73 40 c).1).1).1).1).1 ⟨[], []⟩ ⟨ri zs, []⟩ (j : Int)) := by
    unfold y72_5; rw [y1, y0, b3, e3, fb, hj]
  have y2 : y72_2 c = 512 := by unfold y72_2; rw [y0, y1, b3, e3, fb]; simpa [ri_len] using f3
  have y3 : y72_3 c = 0 := by unfold y72_3; rw [y0, y1, b3, e3, fb]; rfl
  obtain ⟨p1, p2, -⟩ := pick_d 40 w2 (by omega)
  rw [← y5] at w2 w3 p1 p2
  have tk : List.take vs.length vs = vs := List.take_length
  have tl : List.take l.length (l.map GAccess.row) = l.map GAccess.row := List.take_of_length_le (by simp)
  have ts : List.take vs.length (vs.set 3 256) = vs.set 3 256 := List.take_of_length_le (by simp)
  have l3 : ltI 3 (vs.length : Int) = true := by simp [w4]
  have l5 : leI 500 (vs.length : Int) = true := by simp [w4]
  have b3' : blt 3 vs.length = true := by simp [w4]
  have l5' : leN 500 vs.length = true := by simp [w4]
  have r3 : beqN (rlen (ri vs) 3) 1 = true := by rw [ri_rlen (by omega)]; rfl
  have t5 : eqN 500 (List.take 500 vs).length = true := by simp [w4]
  have z0 : eqN 512 512 = true := rfl
  have z1 : leN (0 + vs.length) vs.length = true := by simp
  have z2 : leN (0 + l.length) l.length = true := by simp
  unfold T72
  simp only [sat_ok', sat_br, sat_leaf, a1, hm, y0, y1, b1, b3, d1, e1, hn, e3, f1, g1, hj, fb, w1, y72_4, y2, y3, p1, eqN_self, Bool.and_true, true_and]
  simp only [y72_14, y72_13, y72_12, y72_11, y72_10, y72_9, y72_8, y72_7, y72_6, w3, l3, l5, b3', l5', r3, t5, z0, z1, z2, lenI_eq, ri_len, ri_set, ri_take, tk, tl, ts, List.length_set, List.length_map, eqN_self, Bool.and_true, true_and]
  refine ⟨fun _ => ⟨p2.mono (by omega), _, l, rfl, by rw [List.length_set]; omega, w5⟩, fun _ => ⟨fun _ => ⟨p2.mono (by omega), _, l, rfl, by rw [List.length_take]; omega, w5⟩, fun _ => ⟨p2.mono (by omega), vs, l, rfl, by omega, w5⟩⟩⟩
/-- A drawn touch. -/
theorem dtouch_d {x : List Row} (h : bytesOk x = true) : k22 x = true ∧ BB (g22 x).1 := by
  refine sat_hid (t := T22 x) (P := fun r => BB r.1) ?_
  have h0 : CO 0 (Gl1Cur.mk x 0 0) := ⟨h, Int.le_refl 0, Int.le_refl 0⟩
  obtain ⟨a1, a2, zs, l, a3, a4, a5⟩ := bus_d h0 (by decide)
  obtain ⟨b1, b2⟩ := amongC [1, 2, 2, 3, 4] a2 (by decide) (by decide)
  have b1' : k91 [rowI 1, rowI 2, rowI 2, rowI 3, rowI 4] (g72 (Gl1Cur.mk x 0 0)).1 = true := b1
  have b2' : CO (0 + 1000 + 2) (y22_0 x).1 := b2
  obtain ⟨c1, c2⟩ := size_d b2' (by decide)
  obtain ⟨d1, d2⟩ := one_d 20 c2 (by decide)
  have e2 : CO 2000 (y22_2 x) := CO_if (d2.mono (by decide)) (c2.mono (by decide))
  obtain ⟨f1, f2⟩ := fit_d (g92 (y22_0 x).1).2 e2 (by decide)
  have f2' : CO (2000 + 10) (y22_3 x).1 := f2
  obtain ⟨g1, g2⟩ := addr_d f2' (by decide)
  obtain ⟨i1, i2⟩ := addr_d e2 (by decide)
  have tk : ∀ {r : List Row}, List.take r.length r = r := fun {r} => List.take_length
  have z1 : leN (0 + zs.length) zs.length = true := by simp
  have z2 : leN (0 + l.length) l.length = true := by simp
  have tz : List.take zs.length zs = zs := List.take_length
  have tl : List.take l.length (l.map GAccess.row) = l.map GAccess.row := List.take_of_length_le (by simp)
  unfold T22
  simp only [sat_ok', sat_br, sat_leaf, y22_20, y22_19, y22_18, y22_17, y22_16, y22_15, y22_14, y22_13, y22_12, y22_11, y22_10, y22_9, y22_8, y22_7, y22_6, y22_5, y22_4, Bool.cond_self, a1, a3, b1', c1, y22_1, d1, f1, g1, i1, z1, z2, lenI_eq, ri_len, ri_take, tz, tl, List.length_map, eqN_self, same_s, sameR_s, Bool.and_true, Bool.true_or, true_and]
  exact ⟨fun _ => ⟨zs, l, rfl, a4, a5⟩, fun _ => ⟨zs, l, rfl, a4, a5⟩⟩
theorem dpeek_d {x : List Row} (h : bytesOk x = true) : k26 x = true ∧ BB (g26 x).1 := by
  refine sat_hid (t := T26 x) (P := fun r => BB r.1) ?_
  have h0 : CO 0 (Gl1Cur.mk x 0 0) := ⟨h, Int.le_refl 0, Int.le_refl 0⟩
  obtain ⟨a1, a2, a3⟩ := bus_d h0 (by decide)
  obtain ⟨b1, b2⟩ := addr_d a2 (by decide)
  unfold T26
  simp only [sat_ok', sat_leaf, y26_2, y26_1, y26_0, a1, b1, eqN_self, Bool.and_true, true_and]
  exact a3
theorem dkind_d {x : List Row} (h : bytesOk x = true) : k29 x = true := by
  have h0 : CO 0 (Gl1Cur.mk x 0 0) := ⟨h, Int.le_refl 0, Int.le_refl 0⟩
  obtain ⟨b1, b2⟩ := addr_d h0 (by decide)
  refine (sat_hid (t := T29 x) (P := fun _ => True) ?_).1
  unfold T29
  simp only [sat_ok', sat_leaf, b1, Bool.and_true, true_and]
/-! Peeks and kinds. -/
theorem kindof_i (a : Int) : k30 a = true ∧ g30 a = (bif inB a 0 65535 then (kindO a, true) else (0, false)) := by
  refine sat_hid (t := T30 a) (P := fun r => r = (bif inB a 0 65535 then (kindO a, true) else (0, false))) ?_
  unfold T30
  simp only [sat_ok', sat_br, sat_leaf, (word_i _).1, (word_i _).2, (kind_i _).1, (kind_i _).2, Bool.and_true, true_and]
  cases inB a 0 65535 <;> simp
theorem kindof_s (a : Int) : k31 a = true ∧ g31 a = (bif inB a 0 65535 then (kindO a, true) else (0, false)) := by
  refine sat_hid (t := T31 a) (P := fun r => r = (bif inB a 0 65535 then (kindO a, true) else (0, false))) ?_
  unfold T31
  simp only [sat_ok', sat_br, sat_leaf, (word_s _).1, (word_s _).2, (kind_s _).1, (kind_s _).2, Bool.and_true, true_and]
  cases inB a 0 65535 <;> simp
def pR (a : Int) (zs : List Int) (l : List GAccess) : Int × Bool := bif goodB zs l && (inB a 0 65535 && eqI (codeO 1 2 a) 0) then (rk a.toNat zs 2, true) else (0, false)
theorem good_touch {zs : List Int} {l : List GAccess} (h : goodB zs l = true) : TouchOk 2 0 zs l := by
  unfold goodB at h
  simp only [Bool.and_eq_true, eqI_iff, leI_iff] at h
  obtain ⟨h1, h2, h3, h4⟩ := h
  exact ⟨Or.inr rfl, by decide, by omega, h3, by omega⟩
theorem read2 {m : Nat} {zs : List Int} {l : List GAccess} (h : TouchOk 2 0 zs l) (hc : codeO 1 2 m = 0) : inRow [.int .i64] (ri zs) (m : Int) = true ∧ inRow [.int .i64] (ri zs) (addI (m : Int) 1) = true ∧ orI (shlI (intAt (ri zs) m 0) 8) (intAt (ri zs) (Int.toNat (addI (m : Int) 1)) 0) = rk m zs 2 := by
  obtain ⟨-, q1, q2, -⟩ := code_0 hc
  have hz := h.hz
  have p : addI (m : Int) 1 = ((m + 1 : Nat) : Int) := by rw [addI_eq (by omega)]; omega
  have ha : m < zs.length := by omega
  have ha2 : m + 1 < zs.length := by omega
  have b1 := byte_at h.hb ha
  have b2 := byte_at h.hb ha2
  rw [p, Int.toNat_natCast, ri_int ha, ri_int ha2, shl8 b1.1 (by omega), or_add b1.1 (by omega) b2.1 b2.2]
  refine ⟨ri_inr ha, ri_inr ha2, ?_⟩
  simp only [rk]
  rw [getD_lt ha, getD_lt ha2]
theorem peek_i (a : Int) (zs : List Int) (l : List GAccess) (hz : zs.length ≤ 512) (hl : l.length ≤ 1000) : k27 ⟨ri zs, l.map GAccess.row⟩ a = true ∧ g27 ⟨ri zs, l.map GAccess.row⟩ a = pR a zs l := by
  refine sat_hid (t := T27 ⟨ri zs, l.map GAccess.row⟩ a) (P := fun r => r = pR a zs l) ?_
  obtain ⟨a1, a2⟩ := good_i zs l (by omega) (by omega)
  unfold T27 pR
  cases hg : goodB zs l
  · simp only [sat_ok', sat_br, sat_leaf, y27_0, a1, a2, hg, (word_i _).1, Bool.not_false, Bool.false_and, cond_true, cond_false, Bool.or_true, Bool.and_true, true_and, Bool.true_eq_false, false_implies, forall_const, and_true]
  · cases ha : inB a 0 65535
    · simp only [sat_ok', sat_br, sat_leaf, y27_0, a1, a2, hg, ha, (word_i _).1, (word_i _).2, Bool.not_true, Bool.not_false, Bool.false_and, Bool.and_false, cond_true, cond_false, Bool.true_or, Bool.or_true, Bool.and_true, true_and, Bool.true_eq_false, false_implies, forall_const, and_true]
    · obtain ⟨c1, c2⟩ := code_i 1 2 a ha (by decide)
      have n0 : neI (codeO 1 2 a) 0 = !eqI (codeO 1 2 a) 0 := rfl
      cases hc : eqI (codeO 1 2 a) 0
      · simp only [sat_ok', sat_br, sat_leaf, y27_0, a1, a2, hg, ha, c1, c2, n0, hc, (word_i _).1, (word_i _).2, Bool.not_true, Bool.not_false, Bool.false_and, Bool.and_false, cond_true, cond_false, Bool.true_or, Bool.or_true, Bool.and_true, true_and, Bool.true_eq_false, false_implies, forall_const, and_true]
      · obtain ⟨m, rfl⟩ : ∃ m : Nat, a = (m : Int) := ⟨a.toNat, by rw [inB_iff] at ha; omega⟩
        obtain ⟨r1, r2, r3⟩ := read2 (good_touch hg) (eqI_iff.1 hc)
        have at2 : k104v1 2 (m : Int) ⟨ri zs, l.map GAccess.row⟩ = true ∧ g104v1 2 (m : Int) ⟨ri zs, l.map GAccess.row⟩ = rk m zs 2 := by
          refine sat_hid (t := T104v1 2 (m : Int) ⟨ri zs, l.map GAccess.row⟩) (P := fun r => r = rk m zs 2) ?_
          unfold T104v1
          simp only [sat_ok', sat_br, sat_leaf, show eqI 2 1 = false from rfl, r1, r2, r3, Int.toNat_natCast, Bool.and_true, true_and, Bool.false_eq_true, false_implies, forall_const]
        simp only [sat_ok', sat_br, sat_leaf, y27_0, a1, a2, hg, ha, c1, c2, n0, hc, at2.1, at2.2, (word_i _).1, (word_i _).2, Int.toNat_natCast, Bool.not_true, Bool.not_false, Bool.false_and, Bool.and_false, cond_true, cond_false, Bool.true_or, Bool.or_true, Bool.and_true, true_and, Bool.false_eq_true, false_implies, forall_const]
theorem peek_s (a : Int) (zs : List Int) (l : List GAccess) (hz : zs.length ≤ 512) (hl : l.length ≤ 1000) : k28 ⟨ri zs, l.map GAccess.row⟩ a = true ∧ g28 ⟨ri zs, l.map GAccess.row⟩ a = pR a zs l := by
  refine sat_hid (t := T28 ⟨ri zs, l.map GAccess.row⟩ a) (P := fun r => r = pR a zs l) ?_
  obtain ⟨a1, a3⟩ := good_sv1 (b := ⟨ri zs, l.map GAccess.row⟩) (zs := zs) (l := l) ⟨⟨zs, rfl⟩, ⟨l, rfl⟩, by simpa only [ri_len] using hz, by simpa using hl⟩ rfl rfl
  have a2 : g25v1 ⟨ri zs, l.map GAccess.row⟩ = goodB zs l := a3
  unfold T28 pR
  cases hg : goodB zs l
  · simp only [sat_ok', sat_br, sat_leaf, y28_0, a1, a2, hg, (word_s _).1, Bool.not_false, Bool.false_and, cond_true, cond_false, Bool.or_true, Bool.and_true, true_and, Bool.true_eq_false, false_implies, forall_const, and_true]
  · cases ha : inB a 0 65535
    · simp only [sat_ok', sat_br, sat_leaf, y28_0, a1, a2, hg, ha, (word_s _).1, (word_s _).2, Bool.not_true, Bool.not_false, Bool.false_and, Bool.and_false, cond_true, cond_false, Bool.true_or, Bool.or_true, Bool.and_true, true_and, Bool.true_eq_false, false_implies, forall_const, and_true]
    · obtain ⟨c1, c2⟩ := code_s 1 2 a ha (by decide)
      have n0 : neI (codeO 1 2 a) 0 = !eqI (codeO 1 2 a) 0 := rfl
      cases hc : eqI (codeO 1 2 a) 0
      · simp only [sat_ok', sat_br, sat_leaf, y28_0, a1, a2, hg, ha, c1, c2, n0, hc, (word_s _).1, (word_s _).2, Bool.not_true, Bool.not_false, Bool.false_and, Bool.and_false, cond_true, cond_false, Bool.true_or, Bool.or_true, Bool.and_true, true_and, Bool.true_eq_false, false_implies, forall_const, and_true]
      · obtain ⟨m, rfl⟩ : ∃ m : Nat, a = (m : Int) := ⟨a.toNat, by rw [inB_iff] at ha; omega⟩
        obtain ⟨r1, r2, r3⟩ := read2 (good_touch hg) (eqI_iff.1 hc)
        simp only [sat_ok', sat_br, sat_leaf, y28_0, a1, a2, hg, ha, c1, c2, n0, hc, r1, r2, r3, (word_s _).1, (word_s _).2, Int.toNat_natCast, Bool.not_true, Bool.not_false, Bool.false_and, Bool.and_false, cond_true, cond_false, Bool.true_or, Bool.or_true, Bool.and_true, true_and, Bool.false_eq_true, false_implies, forall_const]
end Go.Proofs.YtihfaondfmeglaaBus

/- Bus: the plain law. -/
namespace Go.Proofs.YtihfaondfmeglaaBus
open Go Go.Zq
set_option maxHeartbeats 4000000
set_option maxRecDepth 100000

/-! Equal buses. -/
theorem sameA_s (l : List GAccess) (hl : l.length < 1000000) : k12 (l.map GAccess.row) (l.map GAccess.row) = true ∧ g12 (l.map GAccess.row) (l.map GAccess.row) = true := by
  refine sat_hid (t := T12 (l.map GAccess.row) (l.map GAccess.row)) (P := fun r => r = true) ?_
  obtain ⟨a1, a2⟩ := loop_st (N := N12_0) (fun i => V12_0.mk (l.map GAccess.row) (l.map GAccess.row) (l.length : Int) i) l.length hl (fun i hi => by
    obtain ⟨p1, -⟩ := acc_in hi
    have p4 : addI ((i : Nat) : Int) 1 = ((i + 1 : Nat) : Int) := by rw [addI_eq (by omega)]; omega
    have p3 : ltI ((i : Nat) : Int) (l.length : Int) = true := by rw [ltI_iff]; omega
    have eI : ∀ x, eqI x x = true := fun x => by simp
    unfold N12_0
    simp only [sat_ok', sat_br, sat_leaf, p1, p3, p4, eI, Bool.not_true, Bool.and_true, true_and, Bool.true_eq_false, Bool.false_eq_true, false_implies, implies_true, forall_const, and_true]) (by
    have p3 : ltI (l.length : Int) (l.length : Int) = false := by simp
    unfold N12_0
    simp only [sat_ok', sat_br, sat_leaf, p3, true_and, Bool.false_eq_true, false_implies, implies_true])
  have b1 : i12_0 (V12_0.mk (l.map GAccess.row) (l.map GAccess.row) (l.length : Int) 0) = true := a1
  have b2 : w12_0 (V12_0.mk (l.map GAccess.row) (l.map GAccess.row) (l.length : Int) 0) = V12_0.mk (l.map GAccess.row) (l.map GAccess.row) (l.length : Int) l.length := a2
  have e1 : ∀ x, neI x x = false := fun x => by simp
  have e2 : ∀ x, ltI x x = false := fun x => by simp
  unfold T12
  simp only [sat_ok', sat_br, sat_leaf, y12_0, lenI_eq, List.length_map, b1, b2, e1, e2, true_and, Bool.false_eq_true, false_implies, implies_true, forall_const]
theorem sameB_s (zs : List Int) (l : List GAccess) (hz : zs.length < 1000000) (hl : l.length < 1000000) : k19 ⟨ri zs, l.map GAccess.row⟩ ⟨ri zs, l.map GAccess.row⟩ = true ∧ g19 ⟨ri zs, l.map GAccess.row⟩ ⟨ri zs, l.map GAccess.row⟩ = true := by
  refine sat_hid (t := T19 ⟨ri zs, l.map GAccess.row⟩ ⟨ri zs, l.map GAccess.row⟩) (P := fun r => r = true) ?_
  obtain ⟨a1, a2⟩ := sameInts_t zs zs hz
  obtain ⟨b1, b2⟩ := sameA_s l hl
  unfold T19
  simp only [sat_ok', sat_leaf, a1, a2, b1, b2, decide_true, Bool.true_or, Bool.and_true, true_and, cond_true]
/-! What a touch keeps. -/
theorem rk_val {s v : Int} {a : Nat} {zs : List Int} {l : List GAccess} (h : TouchOk s v zs l) : valB s (rk a zs s.toNat) = true := by
  have at0 : ∀ i, 0 ≤ zs.getD i 0 ∧ zs.getD i 0 < 256 := fun i => by
    by_cases hi : i < zs.length
    · rw [getD_lt hi]; exact byte_at h.hb hi
    · have : zs.getD i 0 = 0 := by simp [List.getD_eq_getElem?_getD, List.getElem?_eq_none (Nat.le_of_not_lt hi)]
      omega
  have b1 := at0 a
  have b2 := at0 (a + 1)
  unfold valB
  rcases h.hs with rfl | rfl
  · rw [show eqI 1 1 = true from rfl, cond_true, inB_iff, show Int.toNat 1 = 1 from rfl]; simp only [rk]; omega
  · rw [show eqI 2 1 = false from rfl, show eqI 2 2 = true from rfl, cond_true, cond_false, inB_iff, show Int.toNat 2 = 2 from rfl]; simp only [rk]; omega
theorem bytes_set {zs : List Int} {i : Nat} {x : Int} (h : bytesB zs = true) (hx : inB x 0 255 = true) : bytesB (zs.set i x) = true := by
  apply bytesB_t
  intro j hj
  rw [List.length_set] at hj
  rw [List.getElem_set]
  split
  · exact hx
  · exact all_at (p := fun z => inB z 0 255) h hj
theorem touch_good {k s a v : Int} {zs : List Int} {l : List GAccess} (h : tOk k s a v zs l = true) : goodB (tB k s a v zs) (tL k s a v zs l) = true := by
  obtain ⟨q, q2, q3, q4, q5⟩ := tOk_of h
  obtain ⟨v0, v1, v2⟩ := val_rng q.hs q.hv
  have hl : l.all accB = true := by
    unfold goodB at q4
    simp only [Bool.and_eq_true] at q4
    exact q4.2.2.2
  unfold goodB
  simp only [Bool.and_eq_true, eqI_iff, leI_iff]
  refine ⟨by rw [tB_len, q.hz]; rfl, by have := tL_le (k := k) (s := s) (a := a) (v := v) (zs := zs) q.hl; omega, ?_, ?_⟩
  · unfold tB
    cases eqI (codeO k s a) 0 && eqI k 2
    · exact q.hb
    · rw [cond_true]
      rcases q.hs with rfl | rfl
      · have := v2 rfl
        rw [show Int.toNat 1 = 1 from rfl]
        simp only [wk, show eqI 1 1 = true from rfl, cond_true]
        exact bytes_set q.hb (by rw [inB_iff]; omega)
      · rw [show Int.toNat 2 = 2 from rfl]
        simp only [wk]
        exact bytes_set (bytes_set q.hb (by rw [inB_iff]; omega)) (by rw [inB_iff]; omega)
  · unfold tL
    cases hc : ltI (l.length : Int) 400 && !(eqI k 3 && eqI (codeO k s a) 0)
    · exact hl
    · rw [cond_true, List.all_append, hl]
      rw [Bool.and_eq_true, Bool.not_eq_true'] at hc
      simp only [List.all_cons, List.all_nil, Bool.and_true, Bool.true_and]
      have hv : valB s (tV k s a v zs) = true := by
        unfold tV
        cases eqI k 2
        · cases eqI (codeO k s a) 0
          · have z1 : valB 1 0 = true := by decide
            have z2 : valB 2 0 = true := by decide
            rcases q.hs with rfl | rfl
            · exact z1
            · exact z2
          · exact rk_val q
        · exact q.hv
      unfold accB
      simp only [q5, q2, hv, code_rng, hc.2, Bool.not_false, Bool.and_true]
theorem wk_at {s v : Int} {a : Nat} {zs : List Int} {l : List GAccess} {j : Nat} (h : TouchOk s v zs l) (hj : j < zs.length) (h1 : ¬ (a ≤ j ∧ (j : Int) < a + s)) : (wk s v a zs s.toNat).getD j 0 = zs.getD j 0 := by
  rcases h.hs with rfl | rfl
  · rw [show Int.toNat 1 = 1 from rfl]
    simp only [wk]
    rw [List.getD_eq_getElem?_getD, List.getD_eq_getElem?_getD, List.getElem?_set_ne (by omega)]
  · rw [show Int.toNat 2 = 2 from rfl]
    simp only [wk]
    rw [List.getD_eq_getElem?_getD, List.getD_eq_getElem?_getD, List.getElem?_set_ne (by omega), List.getElem?_set_ne (by omega)]
theorem wk_rk {s v : Int} {a : Nat} {zs : List Int} {l : List GAccess} (h : TouchOk s v zs l) (hc : codeO 2 s a = 0) : rk a (wk s v a zs s.toNat) s.toNat = v := by
  obtain ⟨-, q1, q2, q3⟩ := code_0 hc
  obtain ⟨v0, v1, v2⟩ := val_rng h.hs h.hv
  have hz := h.hz
  rcases h.hs with rfl | rfl
  · have := v2 rfl
    rw [show Int.toNat 1 = 1 from rfl]
    simp only [wk, rk, show eqI 1 1 = true from rfl, cond_true]
    rw [getD_lt (by rw [List.length_set]; omega), List.getElem_set_self]
    omega
  · rw [show Int.toNat 2 = 2 from rfl]
    simp only [wk, rk]
    rw [getD_lt (by simp only [List.length_set]; omega), getD_lt (by simp only [List.length_set]; omega), List.getElem_set_self, List.getElem_set_ne (by omega), List.getElem_set_self]
    omega
end Go.Proofs.YtihfaondfmeglaaBus

/- Bus: the plain law. -/
namespace Go.Proofs.YtihfaondfmeglaaBus
open Go Go.Zq
set_option maxHeartbeats 4000000
set_option maxRecDepth 100000

theorem tB_diff {k s a v : Int} {zs : List Int} {l : List GAccess} (h : TouchOk s v zs l) (ha : inB a 0 65535 = true) {i : Nat} (hi : i < zs.length) (hd : (tB k s a v zs).getD i 0 ≠ zs.getD i 0) : k = 2 ∧ codeO k s a = 0 ∧ a ≤ i ∧ (i : Int) < a + s ∧ ((i : Int) < 384 ∨ 496 ≤ (i : Int)) := by
  obtain ⟨m, rfl⟩ : ∃ m : Nat, a = (m : Int) := ⟨a.toNat, by rw [inB_iff] at ha; omega⟩
  unfold tB at hd
  cases hc : eqI (codeO k s m) 0 && eqI k 2
  · rw [hc] at hd; exact absurd rfl hd
  · rw [hc, cond_true, Int.toNat_natCast] at hd
    rw [Bool.and_eq_true, eqI_iff, eqI_iff] at hc
    obtain ⟨c1, rfl⟩ := hc
    obtain ⟨-, q1, q2, q3⟩ := code_0 c1
    have q3 := q3 rfl
    have : m ≤ i ∧ (i : Int) < m + s := Classical.byContradiction fun hn => hd (wk_at h hi hn)
    refine ⟨rfl, c1, by omega, this.2, ?_⟩
    rcases h.hs with rfl | rfl <;> omega
theorem law_loop {k s a v : Int} {zs : List Int} {l l' : List GAccess} (x1 : List Row) (z : Int) (h : TouchOk s v zs l) (ha : inB a 0 65535 = true) : i4_0 (V4_0.mk ⟨ri zs, l.map GAccess.row⟩ ⟨ri (tB k s a v zs), l'.map GAccess.row⟩ x1 k s a z (codeO k s a) (zs.length : Int) 0) = true ∧ w4_0 (V4_0.mk ⟨ri zs, l.map GAccess.row⟩ ⟨ri (tB k s a v zs), l'.map GAccess.row⟩ x1 k s a z (codeO k s a) (zs.length : Int) 0) = V4_0.mk ⟨ri zs, l.map GAccess.row⟩ ⟨ri (tB k s a v zs), l'.map GAccess.row⟩ x1 k s a z (codeO k s a) (zs.length : Int) (zs.length : Int) := by
  have hz := h.hz
  refine loop_st (N := N4_0) (fun i => V4_0.mk ⟨ri zs, l.map GAccess.row⟩ ⟨ri (tB k s a v zs), l'.map GAccess.row⟩ x1 k s a z (codeO k s a) (zs.length : Int) i) zs.length (by omega) (fun i hi => ?_) ?_
  · have p4 : addI ((i : Nat) : Int) 1 = ((i + 1 : Nat) : Int) := by rw [addI_eq (by omega)]; omega
    have p3 : ltI ((i : Nat) : Int) (zs.length : Int) = true := by rw [ltI_iff]; omega
    have hi' : i < (tB k s a v zs).length := by rw [tB_len]; exact hi
    have hc : (bif neI (tB k s a v zs)[i] zs[i] then (bif (bif (bif (bif (neI k 2) then true else (neI (codeO k s a) 0)) then true else (ltI i a)) then true else (geI i (addI a s))) then true else (bif (geI i 384) then (ltI i 496) else false)) else false) = false := by
      cases hn : neI (tB k s a v zs)[i] zs[i]
      · rfl
      · rw [neI_iff, ← getD_lt hi, ← getD_lt hi'] at hn
        obtain ⟨d1, d2, d3, d4, d5⟩ := tB_diff h ha hi hn
        rw [inB_iff] at ha
        have : addI a s = a + s := addI_eq (by rcases h.hs with rfl | rfl <;> omega)
        have e1 : neI k 2 = false := by simpa using d1
        have e2 : neI (codeO k s a) 0 = false := by simpa using d2
        have e3 : ltI i a = false := by simpa using d3
        have e4 : geI i (addI a s) = false := by rw [this]; simpa using d4
        rw [e1, e2, e3, e4]
        simp only [cond_false, cond_true]
        cases e5 : geI (i : Int) 384
        · rfl
        · rw [geI_iff] at e5
          simp; omega
    unfold N4_0
    simp only [sat_ok', sat_br, sat_leaf, p3, p4, ri_inr hi, ri_inr hi', Int.toNat_natCast, ri_int hi, ri_int hi', hc, Bool.and_true, true_and, Bool.true_eq_false, Bool.false_eq_true, false_implies, implies_true, forall_const, and_true]
  · have p3 : ltI (zs.length : Int) (zs.length : Int) = false := by simp
    unfold N4_0
    simp only [sat_ok', sat_br, sat_leaf, p3, true_and, Bool.false_eq_true, false_implies, implies_true]
/-- The law's second half. -/
theorem tail_l {x1 : List Row} (h1 : bytesOk x1 = true) : k26 x1 = true ∧ k27 (g26 x1).1 (g26 x1).2 = true ∧ k28 (g26 x1).1 (g26 x1).2 = true ∧ g28 (g26 x1).1 (g26 x1).2 = g27 (g26 x1).1 (g26 x1).2 ∧ k29 x1 = true ∧ k30 (g29 x1) = true ∧ k31 (g29 x1) = true ∧ g31 (g29 x1) = g30 (g29 x1) := by
  obtain ⟨a1, zs, l, a2, a3, a4⟩ := dpeek_d h1
  obtain ⟨b1, b2⟩ := peek_i (g26 x1).2 zs l a3 (by omega)
  obtain ⟨c1, c2⟩ := peek_s (g26 x1).2 zs l a3 (by omega)
  rw [a2]
  exact ⟨a1, b1, c1, c2.trans b2.symm, dkind_d h1, (kindof_i _).1, (kindof_s _).1, (kindof_s _).2.trans (kindof_i _).2.symm⟩
theorem tL_take {k s a v : Int} {zs : List Int} {l : List GAccess} : List.take l.length ((tL k s a v zs l).map GAccess.row) = l.map GAccess.row := by
  unfold tL
  cases ltI (l.length : Int) 400 && !(eqI k 3 && eqI (codeO k s a) 0)
  · exact List.take_of_length_le (by simp)
  · rw [cond_true, List.map_append, List.take_left' (by simp)]
theorem tL_ge {k s a v : Int} {zs : List Int} {l : List GAccess} : l.length ≤ (tL k s a v zs l).length := by
  unfold tL
  cases ltI (l.length : Int) 400 && !(eqI k 3 && eqI (codeO k s a) 0)
  · exact Nat.le_refl _
  · simp
theorem back {s a v : Int} {zs : List Int} {l : List GAccess} (h : tOk 2 s a v zs l = true) (hc : codeO 2 s a = 0) : k23 ⟨ri (tB 2 s a v zs), (tL 2 s a v zs l).map GAccess.row⟩ 1 s a 0 = true ∧ (g23 ⟨ri (tB 2 s a v zs), (tL 2 s a v zs l).map GAccess.row⟩ 1 s a 0).2.2.2 = true ∧ (g23 ⟨ri (tB 2 s a v zs), (tL 2 s a v zs l).map GAccess.row⟩ 1 s a 0).2.2.1 = 0 ∧ (g23 ⟨ri (tB 2 s a v zs), (tL 2 s a v zs l).map GAccess.row⟩ 1 s a 0).2.1 = v := by
  obtain ⟨q, q2, q3, q4, q5⟩ := tOk_of h
  have hg := touch_good h
  have c1 := (code_0 hc).1
  have hz := q.hz
  have hl := q.hl
  obtain ⟨t1, t2⟩ := tch_i 1 s a 0 (tB 2 s a v zs) (tL 2 s a v zs l) (by rw [tB_len]; omega) (by have := tL_len 2 s a v zs l; omega)
  have hv : valB s 0 = true := by
    have z1 : valB 1 0 = true := by decide
    have z2 : valB 2 0 = true := by decide
    rcases q.hs with rfl | rfl
    · exact z1
    · exact z2
  have ho : tOk 1 s a 0 (tB 2 s a v zs) (tL 2 s a v zs l) = true := by
    unfold tOk
    rw [hg, q2, hv]; rfl
  have hr : rk a.toNat (tB 2 s a v zs) s.toNat = v := by
    have e22 : eqI 2 2 = true := rfl
    obtain ⟨m, rfl⟩ : ∃ m : Nat, a = (m : Int) := ⟨a.toNat, by rw [inB_iff] at q2; omega⟩
    unfold tB
    rw [hc, show eqI 0 0 = true from rfl, e22, Int.toNat_natCast]
    exact wk_rk q hc
  rw [t2]
  unfold tR tV
  rw [ho, c1, show eqI 1 2 = false from rfl, show eqI 0 0 = true from rfl]
  exact ⟨t1, rfl, rfl, hr⟩
theorem okL (x0 x1 : List Row) (h0 : bytesOk x0 = true) (h1 : bytesOk x1 = true) : k4 x0 x1 = true ∧ g4 x0 x1 = true := by
  refine sat_hid (t := T4 x0 x1) (P := fun q => q = true) ?_
  obtain ⟨d1, zs, l, d2, d3, d4⟩ := dtouch_d h0
  obtain ⟨b, k, s, a, v, e⟩ : ∃ b k s a v, g22 x0 = (b, k, s, a, v) := ⟨_, _, _, _, _, rfl⟩
  rw [e] at d2
  dsimp only at d2
  subst d2
  obtain ⟨t1, t2, t3, t4, t5, t6, t7, t8⟩ := tail_l h1
  obtain ⟨i1, i2⟩ := tch_i k s a v zs l (by omega) (by omega)
  obtain ⟨s1, s2⟩ := tch_sv1 k s a v zs l (by omega) (by omega)
  obtain ⟨g1, g2⟩ := good_i zs l (by omega) (by omega)
  obtain ⟨j1, j3⟩ := good_sv1 (b := ⟨ri zs, l.map GAccess.row⟩) (zs := zs) (l := l) ⟨⟨zs, rfl⟩, ⟨l, rfl⟩, by simpa only [ri_len] using d3, by simp; omega⟩ rfl rfl
  have j2 : g25v1 ⟨ri zs, l.map GAccess.row⟩ = goodB zs l := j3
  have eI : ∀ x, neI x x = false := fun x => by simp
  have eJ : ∀ x, eqI x x = true := fun x => by simp
  have eB : ∀ x, eqB x x = true := fun x => by simp
  have eL : ∀ x, ltI x x = false := fun x => by simp
  unfold T4
  cases hok : tOk k s a v zs l
  · have hR : tR k s a v zs l = (⟨[], []⟩, 0, 0, false) := by unfold tR; rw [hok]; rfl
    rw [hR] at i2 s2
    obtain ⟨m1, m2⟩ : k19 ⟨[], []⟩ ⟨[], []⟩ = true ∧ g19 ⟨[], []⟩ ⟨[], []⟩ = true := sameB_s [] [] (by decide) (by decide)
    simp only [sat_ok', sat_br, sat_leaf, y4_16, y4_15, y4_14, y4_13, y4_12, y4_11, y4_10, y4_9, y4_8, y4_7, y4_6, y4_5, y4_4, y4_3, y4_2, y4_1, y4_0, e, d1, i1, i2, s1, s2, g1, g2, j1, j2, m1, m2, t1, t2, t3, t4, t5, t6, t7, t8, eI, eJ, eB, cond_true, cond_false, Bool.not_true, Bool.not_false, Bool.and_true, Bool.true_and, Bool.true_or, Bool.or_true, Bool.or_false, true_and, and_true, implies_true, Bool.false_eq_true, Bool.true_eq_false, false_implies]
  · obtain ⟨q, q2, q3, q4, q5⟩ := tOk_of hok
    have hg := touch_good hok
    have hR : tR k s a v zs l = (⟨ri (tB k s a v zs), (tL k s a v zs l).map GAccess.row⟩, (bif eqI k 2 then 0 else tV k s a v zs), codeO k s a, true) := by unfold tR; rw [hok]; rfl
    rw [hR] at i2 s2
    have b1 : (tB k s a v zs).length = zs.length := tB_len k s a v zs
    have b2 := tL_len k s a v zs l
    have b3 := tL_ge (k := k) (s := s) (a := a) (v := v) (zs := zs) (l := l)
    obtain ⟨m1, m2⟩ := sameB_s (tB k s a v zs) (tL k s a v zs l) (by omega) (by omega)
    obtain ⟨n1, n2⟩ := good_i (tB k s a v zs) (tL k s a v zs l) (by omega) (by omega)
    rw [hg] at n2
    obtain ⟨o1, o2⟩ := sameA_s l (by omega)
    obtain ⟨w1, w2⟩ := law_loop (l := l) (l' := tL k s a v zs l) (k := k) x1 v q q2
    have u1 : ltI ((tL k s a v zs l).length : Int) (l.length : Int) = false := by simp; omega
    have u2 : gtI ((tL k s a v zs l).length : Int) (addI (l.length : Int) 1) = false := by rw [addI_eq (by omega)]; simp; omega
    have u3 : leI 0 (l.length : Int) = true := by simp
    have u4 : leI (l.length : Int) ((tL k s a v zs l).length : Int) = true := by simp; omega
    simp only [sat_ok', sat_br, sat_leaf, y4_16, y4_15, y4_14, y4_13, y4_12, y4_11, y4_10, y4_9, y4_8, y4_7, y4_6, y4_5, y4_4, y4_3, y4_2, y4_1, y4_0, e, d1, i1, i2, s1, s2, g1, g2, j1, j2, m1, m2, n1, n2, o1, o2, lenI_eq, ri_len, List.length_map, Int.toNat_natCast, tL_take, u1, u2, u3, u4, w1, w2, t1, t2, t3, t4, t5, t6, t7, t8, eI, eJ, eB, eL, cond_true, cond_false, Bool.not_true, Bool.not_false, Bool.and_true, Bool.true_and, Bool.true_or, Bool.or_true, Bool.or_false, true_and, and_true, implies_true, Bool.false_eq_true, Bool.true_eq_false, false_implies]
    intros; rename_i hk
    cases hk2 : eqI k 2
    · rw [hk2] at hk; simp at hk
    · cases hc : eqI (codeO k s a) 0
      · rw [hc] at hk; simp at hk
      · obtain rfl := eqI_iff.1 hk2
        obtain ⟨r1, r2, r3, r4⟩ := back hok (eqI_iff.1 hc)
        rw [r1, r2, r3, r4, eI, eI]
        simp
end Go.Proofs.YtihfaondfmeglaaBus
