/- Logs: the plain law. -/
import Derived.Test.YtihfaondfmeglaaZqLogsQ
import Derived.Test.YtihfaondfmeglaaZmd
set_option linter.unusedVariables false
set_option linter.unusedSimpArgs false
namespace Go.Proofs.YtihfaondfmeglaaLogs
open Go Go.Zq
set_option maxHeartbeats 4000000
set_option maxRecDepth 100000

/-! Bounds, lists of bytes, equal lists. -/
@[simp] theorem within_g (x a b : Int) : g74 x a b = inB x a b := by
  simp only [g74, hid_eq, T74, val_ok, val_leaf, geI, leI, inB, ge_iff_le]
  cases decide (a ≤ x) <;> rfl
@[simp] theorem within_k (x a b : Int) : k74 x a b = true := by
  simp [k74, hid_eq, T74]
@[simp] theorem l1In_g (x a b : Int) : g78 x a b = inB x a b := by
  simp only [g78, hid_eq, T78, val_ok, val_leaf, geI, leI, inB, ge_iff_le]
  cases decide (a ≤ x) <;> rfl
@[simp] theorem l1In_k (x a b : Int) : k78 x a b = true := by
  simp [k78, hid_eq, T78]
theorem bytesB_f {zs : List Int} {i : Nat} (h : i < zs.length) (hz : inB zs[i] 0 255 = false) : bytesB zs = false := by
  unfold bytesB
  rw [List.all_eq_false]
  exact ⟨zs[i], List.getElem_mem h, by simp [hz]⟩
theorem bytesB_t {zs : List Int} (h : ∀ j (hj : j < zs.length), inB zs[j] 0 255 = true) : bytesB zs = true := by
  unfold bytesB
  rw [List.all_eq_true]
  intro z hz
  obtain ⟨j, hj, rfl⟩ := List.getElem_of_mem hz
  exact h j hj
theorem l4_loop (zs : List Int) (hl : zs.length < 1000000) : i85_0 (V85_0.mk (ri zs) (lenI (ri zs)) 0) = true ∧ (ltI (w85_0 (V85_0.mk (ri zs) (lenI (ri zs)) 0)).s7 (w85_0 (V85_0.mk (ri zs) (lenI (ri zs)) 0)).s6 = !bytesB zs) := by
  unfold i85_0 w85_0
  refine loop_w (Post := fun w => ltI w.s7 w.s6 = !bytesB zs) (loop_sat (fun n v => ∃ i : Nat, v = V85_0.mk (ri zs) (lenI (ri zs)) i ∧ i ≤ zs.length ∧ n = zs.length - i ∧ ∀ j (hj : j < zs.length), j < i → inB zs[j] 0 255 = true) _ ?_ 2097152 zs.length _ ⟨0, rfl, by omega, by omega, fun j _ h => absurd h (by omega)⟩ (by omega))
  rintro n v ⟨i, rfl, hi, rfl, hall⟩
  unfold N85_0
  simp only [sat_ok', sat_br, sat_leaf, lenI_eq, ri_len, ltI_iff, ltI_f, true_and, Int.toNat_natCast]
  constructor
  · intro h
    have hi' : i < zs.length := by omega
    rw [ri_inr hi', ri_int hi', l1In_g, l1In_k]
    refine ⟨rfl, rfl, fun hz => ?_, fun hz => ?_⟩
    · rw [bytesB_f hi' (by simpa using hz)]
      simpa [ltI] using h
    · refine ⟨_, ?_, i + 1, ?_, by omega, rfl, ?_⟩
      · omega
      · rw [addI_eq (by omega)]; rfl
      · intro j hj hji
        by_cases e : j = i
        · subst e; simpa using hz
        · exact hall j hj (by omega)
  · intro h
    rw [bytesB_t fun j hj => hall j hj (by omega)]
    simpa [ltI] using h
theorem l4Bytes_t (zs : List Int) (hl : zs.length < 1000000) : k85 (ri zs) = true ∧ g85 (ri zs) = bytesB zs := by
  obtain ⟨h1, h2⟩ := l4_loop zs hl
  unfold k85 g85 T85 y85_0
  rw [hid_eq, hid_eq]
  simp only [okv_ok, okv_br, okv_leaf, val_ok, val_br, val_leaf, h1, h2, Bool.true_and]
  cases bytesB zs <;> exact ⟨rfl, rfl⟩
theorem same_loop (xs ys : List Int) (hl : xs.length < 1000000) (he : xs.length = ys.length) : i20_0 (V20_0.mk (ri xs) (ri ys) (lenI (ri xs)) 0) = true ∧ (ltI (w20_0 (V20_0.mk (ri xs) (ri ys) (lenI (ri xs)) 0)).s13 (w20_0 (V20_0.mk (ri xs) (ri ys) (lenI (ri xs)) 0)).s12 = !decide (xs = ys)) := by
  unfold i20_0 w20_0
  refine loop_w (Post := fun w => ltI w.s13 w.s12 = !decide (xs = ys)) (loop_sat (fun n v => ∃ i : Nat, v = V20_0.mk (ri xs) (ri ys) (lenI (ri xs)) i ∧ i ≤ xs.length ∧ n = xs.length - i ∧ ∀ j (hj : j < xs.length), j < i → xs[j] = ys[j]) _ ?_ 2097152 xs.length _ ⟨0, rfl, by omega, by omega, fun j _ h => absurd h (by omega)⟩ (by omega))
  rintro n v ⟨i, rfl, hi, rfl, hall⟩
  unfold N20_0
  simp only [sat_ok', sat_br, sat_leaf, lenI_eq, ri_len, ltI_iff, ltI_f, true_and, Int.toNat_natCast]
  constructor
  · intro h
    have hi' : i < xs.length := by omega
    have hy' : i < ys.length := by omega
    rw [ri_inr hi', ri_int hi', ri_inr hy', ri_int hy']
    refine ⟨rfl, fun hz => ?_, fun hz => ?_⟩
    · have : xs ≠ ys := fun e => by subst e; simp at hz
      rw [decide_eq_false this]
      simpa [ltI] using h
    · refine ⟨_, ?_, i + 1, ?_, by omega, rfl, ?_⟩
      · omega
      · rw [addI_eq (by omega)]; rfl
      · intro j hj hji
        by_cases e : j = i
        · subst e; simpa using hz
        · exact hall j hj (by omega)
  · intro h
    rw [decide_eq_true (List.ext_getElem he fun j h1 h2 => hall j h1 (by omega))]
    simpa [ltI] using h
theorem sameInts_t (xs ys : List Int) (hl : xs.length < 1000000) : k20 (ri xs) (ri ys) = true ∧ g20 (ri xs) (ri ys) = decide (xs = ys) := by
  unfold k20 g20 T20 y20_0
  rw [hid_eq, hid_eq]
  by_cases he : xs.length = ys.length
  · obtain ⟨h1, h2⟩ := same_loop xs ys hl he
    have e : neI (lenI (ri xs)) (lenI (ri ys)) = false := by simp [he, ri_len]
    simp only [okv_ok, okv_br, okv_leaf, val_ok, val_br, val_leaf, h1, h2, e, Bool.true_and, cond_false]
    cases decide (xs = ys) <;> exact ⟨rfl, rfl⟩
  · have e : neI (lenI (ri xs)) (lenI (ri ys)) = true := by simp [ri_len]; omega
    have : xs ≠ ys := fun e => he (by rw [e])
    simp only [okv_ok, okv_br, okv_leaf, val_ok, val_br, val_leaf, e, decide_eq_false this, Bool.true_and, cond_true, and_self]
/-! The reader of bytes. -/
def CO (B : Int) (c : Gl1Cur) : Prop := CurOk B c.fcode c.fat
theorem CO.mono {B C : Int} {c : Gl1Cur} (h : CO B c) (hB : B ≤ C) : CO C c := CurOk.mono h hB
theorem far_g (s : Int) : 0 ≤ wrapK .i64 (andK .u64 (shrK .u64 s 40) 255) ∧ wrapK .i64 (andK .u64 (shrK .u64 s 40) 255) < 256 := by
  have e : shrK .u64 s 40 = Int.fdiv s 1099511627776 := by
    unfold shrK
    rw [show ((2 : Int) ^ min (Int.toNat 40) IntKind.u64.bits) = 1099511627776 from by decide]
  unfold wrapK andK
  rw [e]
  exact far_rng s
theorem next_d {B : Int} {c : Gl1Cur} (h : CO B c) (hB : B < 4000000000000000000) : k146 c = true ∧ (CO (B + 1) (g146 c).1 ∧ 0 ≤ (g146 c).2 ∧ (g146 c).2 < 256) := by
  refine sat_hid (t := T146 c) (P := fun r => CO (B + 1) r.1 ∧ 0 ≤ r.2 ∧ r.2 < 256) ?_
  obtain ⟨h1, h2, h3⟩ := h
  have ha : addI c.fat 1 = c.fat + 1 := addI_eq (by omega)
  have hc : CurOk (B + 1) c.fcode (c.fat + 1) := ⟨h1, by omega, by omega⟩
  have hv : 0 ≤ y146_0 c ∧ y146_0 c < 256 := by
    unfold y146_0
    cases hl : ltI c.fat (lenI c.fcode)
    · simp
    · have hl' : c.fat < (c.fcode.length : Int) := by simpa using hl
      obtain ⟨z, -, e, z0, z1⟩ := row_at h1 (j := c.fat.toNat) (by omega)
      rw [cond_true, e, wrap_id (by omega)]
      exact ⟨z0, z1⟩
  have hr : (inRow [.int .u8] c.fcode c.fat || !(ltI c.fat (lenI c.fcode))) = true := by
    cases hl : ltI c.fat (lenI c.fcode)
    · simp
    · have hl' : c.fat < (c.fcode.length : Int) := by simpa using hl
      rw [inRow_byte h1 h2 hl']
      rfl
  unfold T146
  simp only [sat_ok', sat_br, sat_leaf, hr, ha, Bool.and_true, true_and]
  exact ⟨fun _ => ⟨hc, hv⟩, fun _ => ⟨hc, far_g _⟩⟩
theorem pick_d {B : Int} {c : Gl1Cur} (n : Int) (h : CO B c) (hB : B < 3000000000000000000) : k73 n c = true ∧ (CO (B + 2) (g73 n c).1 ∧ 0 ≤ (g73 n c).2 ∧ (2 ≤ n → (g73 n c).2 < n) ∧ (n ≤ 1 → (g73 n c).2 = 0)) := by
  refine sat_hid (t := T73 n c) (P := fun r => CO (B + 2) r.1 ∧ 0 ≤ r.2 ∧ (2 ≤ n → r.2 < n) ∧ (n ≤ 1 → r.2 = 0)) ?_
  obtain ⟨k1, c1, v0, v1⟩ := next_d h (by omega)
  obtain ⟨k2, c2, w0, w1⟩ := next_d c1 (by omega)
  unfold T73
  simp only [sat_ok', sat_br, sat_leaf, k1, k2, leI_iff, leI_f, gtI_iff, gtI_f, neI_iff, Bool.and_true, true_and]
  refine ⟨fun hn => ⟨h.mono (by omega), by omega, by omega, fun _ => trivial⟩, fun hn => ⟨fun hb => ⟨by omega, c2.mono (by omega), ?_⟩, fun hb => ⟨by omega, c1.mono (by omega), ?_⟩⟩⟩
  · have e : mulI (g146 c).2 256 = (g146 c).2 * 256 := mulI_eq (by omega)
    rw [e, addI_eq (by omega)]
    obtain ⟨r0, r1⟩ := rem_rng (x := (g146 c).2 * 256 + (g146 (g146 c).1).2) (n := n) (by omega) (by omega)
    exact ⟨r0, fun _ => r1, by omega⟩
  · obtain ⟨r0, r1⟩ := rem_rng (x := (g146 c).2) (n := n) (by omega) (by omega)
    exact ⟨r0, fun _ => r1, by omega⟩
theorem one_d {B : Int} {c : Gl1Cur} (n : Int) (h : CO B c) (hB : B < 3000000000000000000) : k83 n c = true ∧ CO (B + 2) (g83 n c).1 := by
  refine sat_hid (t := T83 n c) (P := fun r => CO (B + 2) r.1) ?_
  obtain ⟨k1, c1, -⟩ := pick_d n h hB
  unfold T83
  simp only [sat_ok', sat_leaf, k1, Bool.and_true, true_and]
  exact c1
theorem among_d {B : Int} {c : Gl1Cur} {r : List Row} (hr : Num r) (hl : 1 ≤ r.length) (h : CO B c) (hB : B < 3000000000000000000) : k91 r c = true ∧ (CO (B + 2) (g91 r c).1 ∧ ∃ j, j < r.length ∧ (g91 r c).2 = intAt r j 0) := by
  refine sat_hid (t := T91 r c) (P := fun q => CO (B + 2) q.1 ∧ ∃ j, j < r.length ∧ q.2 = intAt r j 0) ?_
  obtain ⟨k1, c1, v0, v1, v2⟩ := pick_d (lenI r) h hB
  rw [lenI_eq] at k1 c1 v0 v1 v2
  have hj : (g73 (r.length : Int) c).2 < (r.length : Int) := by
    by_cases h2 : r.length = 1
    · rw [v2 (by omega)]; omega
    · exact v1 (by omega)
  unfold T91
  simp only [sat_ok', sat_leaf, lenI_eq, k1, num_in hr v0 hj, Bool.and_true, true_and]
  exact ⟨c1, _, by omega, rfl⟩
end Go.Proofs.YtihfaondfmeglaaLogs

/- Logs: the plain law. -/
namespace Go.Proofs.YtihfaondfmeglaaLogs
open Go Go.Zq
set_option maxHeartbeats 4000000
set_option maxRecDepth 100000

/-! Rows of accesses. -/
def Acc (r : List Row) : Prop := ∃ l : List GAccess, r = l.map GAccess.row
theorem acc_in {l : List GAccess} {i : Nat} (h : i < l.length) : inRow [.int .i64, .int .i64, .int .i64, .int .i64, .int .i64] (l.map GAccess.row) (i : Int) = true ∧ GAccess.at (l.map GAccess.row) i 0 = l[i] := by
  have e : (l.map GAccess.row).getD i [] = GAccess.row l[i] := by simp [List.getD_eq_getElem?_getD, h]
  constructor
  · simp only [inRow, hasRow, Int.toNat_natCast, e, List.length_map]
    have : Nat.blt i l.length = true := by simpa using h
    rw [this]
    rfl
  · unfold GAccess.at intAt cellAt
    rw [e]
    rfl
theorem acc_app {r : List Row} (h : Acc r) (a : GAccess) : Acc (r ++ [GAccess.row a]) := by
  obtain ⟨l, rfl⟩ := h
  exact ⟨l ++ [a], by simp⟩
structure BV (b : GBus) : Prop where
  n : Num b.Bytes
  a : Acc b.Log
  nb : b.Bytes.length ≤ 512
  nl : b.Log.length ≤ 1000
theorem z_len {r : List Row} : eqN (0 + r.length) r.length = true ∧ leN (0 + r.length) r.length = true := by simp
theorem roomB {n : Nat} (h : n ≤ 2000) : leN (mulN n 8) 140737488355328 = true ∧ leN (mulN n 40) 140737488355328 = true ∧ leN n 140737488355328 = true ∧ leN (mulN (0 + n) 8) 140737488355328 = true ∧ leN (mulN (0 + n) 40) 140737488355328 = true ∧ leN (0 + n) 140737488355328 = true ∧ leN (mulN (n + 1) 8) 140737488355328 = true ∧ leN (mulN (n + 1) 40) 140737488355328 = true ∧ leN (n + 1) 140737488355328 = true := by
  simp only [leN_iff, mulN_eq]
  omega
/-! Words and values. -/
theorem word_s (a : Int) : k99 a = true ∧ g99 a = inB a 0 65535 := by
  constructor
  · simp [k99, hid_eq, T99]
  · simp [g99, hid_eq, T99]
theorem word_i (a : Int) : k94 a = true ∧ g94 a = inB a 0 65535 := by
  constructor
  · simp [k94, hid_eq, T94]
  · simp [g94, hid_eq, T94]
/-- A value of a size. -/
def valB (s v : Int) : Bool := bif eqI s 1 then inB v 0 255 else bif eqI s 2 then inB v 0 65535 else false
theorem size_s (s : Int) : k155 s = true ∧ g155 s = (eqI s 1 || eqI s 2) := by
  constructor
  · simp [k155, hid_eq, T155]
  · simp only [g155, hid_eq, T155, val_ok, val_leaf]
    cases eqI s 1 <;> rfl
theorem size_i (s : Int) : k151 s = true ∧ g151 s = (eqI s 1 || eqI s 2) := by
  constructor
  · simp [k151, hid_eq, T151]
  · simp only [g151, hid_eq, T151, val_ok, val_leaf]
    cases eqI s 1 <;> rfl
theorem lim_s1 : k156 1 = true ∧ g156 1 = 256 := by
  refine sat_hid (t := T156 1) (P := fun r => r = 256) ?_
  unfold T156
  simp only [sat_ok', sat_leaf]
  decide +kernel
theorem lim_s2 : k156 2 = true ∧ g156 2 = 65536 := by
  refine sat_hid (t := T156 2) (P := fun r => r = 65536) ?_
  unfold T156
  simp only [sat_ok', sat_leaf]
  decide +kernel
theorem lim_i1 : k152 1 = true ∧ g152 1 = 256 := by
  refine sat_hid (t := T152 1) (P := fun r => r = 256) ?_
  unfold T152
  simp only [sat_ok', sat_leaf]
  decide +kernel
theorem lim_i2 : k152 2 = true ∧ g152 2 = 65536 := by
  refine sat_hid (t := T152 2) (P := fun r => r = 65536) ?_
  unfold T152
  simp only [sat_ok', sat_leaf]
  decide +kernel
theorem val_s (s v : Int) : k98 s v = true ∧ g98 s v = valB s v := by
  refine sat_hid (t := T98 s v) (P := fun r => r = valB s v) ?_
  unfold T98 valB
  rw [(size_s s).1, (size_s s).2]
  by_cases h1 : s = 1
  · subst h1
    rw [lim_s1.1, lim_s1.2, show subI 256 1 = 255 from by decide]
    simp [show eqI 1 1 = true from rfl]
  · by_cases h2 : s = 2
    · subst h2
      rw [lim_s2.1, lim_s2.2, show subI 65536 1 = 65535 from by decide]
      simp [show eqI 2 1 = false from rfl, show eqI 2 2 = true from rfl]
    · have e1 : eqI s 1 = false := by simp [h1]
      have e2 : eqI s 2 = false := by simp [h2]
      simp [e1, e2]
theorem val_i (s v : Int) : k95 s v = true ∧ g95 s v = valB s v := by
  refine sat_hid (t := T95 s v) (P := fun r => r = valB s v) ?_
  unfold T95 valB
  rw [(size_i s).1, (size_i s).2]
  by_cases h1 : s = 1
  · subst h1
    rw [lim_i1.1, lim_i1.2, show subI 256 1 = 255 from by decide]
    simp [show eqI 1 1 = true from rfl]
  · by_cases h2 : s = 2
    · subst h2
      rw [lim_i2.1, lim_i2.2, show subI 65536 1 = 65535 from by decide]
      simp [show eqI 2 1 = false from rfl, show eqI 2 2 = true from rfl]
    · have e1 : eqI s 1 = false := by simp [h1]
      have e2 : eqI s 2 = false := by simp [h2]
      simp [e1, e2]
/-- A good access. -/
def accB (a : GAccess) : Bool := inB a.Kind 1 3 && (inB a.Addr 0 65535 && (valB a.Size a.Value && (inB a.Code 0 3 && !(eqI a.Kind 3 && eqI a.Code 0))))
theorem acc_s (a : GAccess) : k102 a = true ∧ g102 a = accB a := by
  refine sat_hid (t := T102 a) (P := fun r => r = accB a) ?_
  unfold T102 accB
  simp only [sat_ok', sat_br, sat_leaf, y102_1, y102_0, l1In_g, l1In_k, (word_s _).1, (word_s _).2, (val_s _ _).1, (val_s _ _).2, Bool.and_true, Bool.true_or, true_and]
  cases inB a.Kind 1 3 <;> cases valB a.Size a.Value <;> cases inB a.Addr 0 65535 <;> cases inB a.Code 0 3 <;> cases h : eqI a.Kind 3 <;> cases h2 : eqI a.Code 0 <;> simp_all
theorem acc_i (a : GAccess) : k90 a = true ∧ g90 a = accB a := by
  refine sat_hid (t := T90 a) (P := fun r => r = accB a) ?_
  unfold T90 accB
  simp only [sat_ok', sat_leaf, y90_1, y90_0, within_g, within_k, (word_i _).1, (word_i _).2, (val_i _ _).1, (val_i _ _).2, Bool.and_true, Bool.true_or, true_and]
  cases inB a.Kind 1 3 <;> cases valB a.Size a.Value <;> cases inB a.Addr 0 65535 <;> cases inB a.Code 0 3 <;> cases eqI a.Kind 3 <;> cases eqI a.Code 0 <;> rfl
theorem all_at {α : Type} {p : α → Bool} {l : List α} (h : l.all p = true) {j : Nat} (hj : j < l.length) : p l[j] = true := List.all_eq_true.1 h _ (List.getElem_mem hj)
theorem all_f {α : Type} {p : α → Bool} {l : List α} {i : Nat} (h : i < l.length) (hz : p l[i] = false) : l.all p = false := by
  rw [List.all_eq_false]
  exact ⟨l[i], List.getElem_mem h, by simp [hz]⟩
theorem all_t {α : Type} {p : α → Bool} {l : List α} (h : ∀ j (hj : j < l.length), p l[j] = true) : l.all p = true := by
  rw [List.all_eq_true]
  intro z hz
  obtain ⟨j, hj, rfl⟩ := List.getElem_of_mem hz
  exact h j hj
end Go.Proofs.YtihfaondfmeglaaLogs

/- Logs: the plain law. -/
namespace Go.Proofs.YtihfaondfmeglaaLogs
open Go Go.Zq
set_option maxHeartbeats 4000000
set_option maxRecDepth 100000

theorem l4_loopv1 (zs : List Int) (hl : zs.length < 1000000) : i85v1_0 (V85v1_0.mk (ri zs) (lenI (ri zs)) 0) = true ∧ (ltI (w85v1_0 (V85v1_0.mk (ri zs) (lenI (ri zs)) 0)).s7 (w85v1_0 (V85v1_0.mk (ri zs) (lenI (ri zs)) 0)).s6 = !bytesB zs) := by
  unfold i85v1_0 w85v1_0
  refine loop_w (Post := fun w => ltI w.s7 w.s6 = !bytesB zs) (loop_sat (fun n v => ∃ i : Nat, v = V85v1_0.mk (ri zs) (lenI (ri zs)) i ∧ i ≤ zs.length ∧ n = zs.length - i ∧ ∀ j (hj : j < zs.length), j < i → inB zs[j] 0 255 = true) _ ?_ 2097152 zs.length _ ⟨0, rfl, by omega, by omega, fun j _ h => absurd h (by omega)⟩ (by omega))
  rintro n v ⟨i, rfl, hi, rfl, hall⟩
  unfold N85v1_0
  simp only [sat_ok', sat_br, sat_leaf, lenI_eq, ri_len, ltI_iff, ltI_f, true_and, Int.toNat_natCast]
  constructor
  · intro h
    have hi' : i < zs.length := by omega
    rw [ri_inr hi', ri_int hi', l1In_g, l1In_k]
    refine ⟨rfl, rfl, fun hz => ?_, fun hz => ?_⟩
    · rw [bytesB_f hi' (by simpa using hz)]
      simpa [ltI] using h
    · refine ⟨_, ?_, i + 1, ?_, by omega, rfl, ?_⟩
      · omega
      · rw [addI_eq (by omega)]; rfl
      · intro j hj hji
        by_cases e : j = i
        · subst e; simpa using hz
        · exact hall j hj (by omega)
  · intro h
    rw [bytesB_t fun j hj => hall j hj (by omega)]
    simpa [ltI] using h
theorem l4Bytes_tv1 (zs : List Int) (hl : zs.length < 1000000) : k85v1 (ri zs) = true ∧ g85v1 (ri zs) = bytesB zs := by
  obtain ⟨h1, h2⟩ := l4_loopv1 zs hl
  unfold k85v1 g85v1 T85v1 y85v1_0
  rw [hid_eq, hid_eq]
  simp only [okv_ok, okv_br, okv_leaf, val_ok, val_br, val_leaf, h1, h2, Bool.true_and]
  cases bytesB zs <;> exact ⟨rfl, rfl⟩
/-! Good buses, by the reference. -/
theorem gs_loop (b : GBus) (l : List GAccess) (hl : l.length ≤ 2000) : i25_0 (V25_0.mk b (l.map GAccess.row) (lenI (l.map GAccess.row)) 0) = true ∧ ((w25_0 (V25_0.mk b (l.map GAccess.row) (lenI (l.map GAccess.row)) 0)).b0 = b ∧ ltI (w25_0 (V25_0.mk b (l.map GAccess.row) (lenI (l.map GAccess.row)) 0)).s8 (w25_0 (V25_0.mk b (l.map GAccess.row) (lenI (l.map GAccess.row)) 0)).s7 = !l.all accB) := by
  unfold i25_0 w25_0
  refine loop_w (Post := fun w : V25_0 => w.b0 = b ∧ ltI w.s8 w.s7 = !l.all accB) (loop_sat (fun (m : Nat) (v : V25_0) => ∃ i : Nat, v = V25_0.mk b (l.map GAccess.row) (lenI (l.map GAccess.row)) i ∧ i + m = l.length ∧ ∀ j (hj : j < l.length), j < i → accB l[j] = true) _ ?_ 2097152 l.length _ ⟨0, rfl, by omega, fun j _ h => absurd h (by omega)⟩ (by omega))
  rintro m v ⟨i, rfl, hi, hall⟩
  unfold N25_0
  simp only [sat_ok', sat_br, sat_leaf, eqN_self, lenI_eq, List.length_map, ltI_iff, ltI_f, Bool.and_true, true_and, Int.toNat_natCast]
  constructor
  · intro h
    have hi' : i < l.length := by omega
    obtain ⟨p1, p2⟩ := acc_in hi'
    rw [p1, p2, (acc_s _).1, (acc_s _).2]
    refine ⟨rfl, rfl, fun hz => ?_, fun hz => ?_⟩
    · rw [all_f hi' (by simpa using hz)]
      simpa [ltI] using h
    · refine ⟨m - 1, by omega, i + 1, ?_, by omega, ?_⟩
      · rw [addI_eq (by omega)]; rfl
      · intro j hj hji
        by_cases e : j = i
        · subst e; simpa using hz
        · exact hall j hj (by omega)
  · intro h
    rw [all_t fun j hj => hall j hj (by omega)]
    simpa [ltI] using h
theorem good_s {b : GBus} (h : BV b) {zs : List Int} {l : List GAccess} (hz : b.Bytes = ri zs) (hl : b.Log = l.map GAccess.row) : k25 b = true ∧ g25 b = (eqI (zs.length : Int) 512 && (leI (l.length : Int) 400 && (bytesB zs && l.all accB))) := by
  refine sat_hid (t := T25 b) (P := fun r => r = (eqI (zs.length : Int) 512 && (leI (l.length : Int) 400 && (bytesB zs && l.all accB)))) ?_
  have n1 := h.nb
  have n2 := h.nl
  rw [hz, ri_len] at n1
  rw [hl, List.length_map] at n2
  obtain ⟨a1, a2, a3⟩ := gs_loop b l (by omega)
  rw [lenI_eq, List.length_map] at a1 a2 a3
  obtain ⟨c1, c2⟩ := l4Bytes_t zs (by omega)
  unfold T25
  simp only [sat_ok', sat_br, sat_leaf, y25_0, eqN_self, hl, Bool.and_true, true_and, a1, a2, a3, hz, c1, c2, lenI_eq, ri_len, List.length_map, Bool.true_or]
  cases l.all accB <;> cases eqI (zs.length : Int) 512 <;> cases leI (l.length : Int) 400 <;> cases bytesB zs <;> simp
/-! Good buses, by the reference. -/
theorem gs_loopv1 (b : GBus) (l : List GAccess) (hl : l.length ≤ 2000) : i25v1_0 (V25v1_0.mk b (l.map GAccess.row) (lenI (l.map GAccess.row)) 0) = true ∧ ((w25v1_0 (V25v1_0.mk b (l.map GAccess.row) (lenI (l.map GAccess.row)) 0)).b0 = b ∧ ltI (w25v1_0 (V25v1_0.mk b (l.map GAccess.row) (lenI (l.map GAccess.row)) 0)).s8 (w25v1_0 (V25v1_0.mk b (l.map GAccess.row) (lenI (l.map GAccess.row)) 0)).s7 = !l.all accB) := by
  unfold i25v1_0 w25v1_0
  refine loop_w (Post := fun w : V25v1_0 => w.b0 = b ∧ ltI w.s8 w.s7 = !l.all accB) (loop_sat (fun (m : Nat) (v : V25v1_0) => ∃ i : Nat, v = V25v1_0.mk b (l.map GAccess.row) (lenI (l.map GAccess.row)) i ∧ i + m = l.length ∧ ∀ j (hj : j < l.length), j < i → accB l[j] = true) _ ?_ 2097152 l.length _ ⟨0, rfl, by omega, fun j _ h => absurd h (by omega)⟩ (by omega))
  rintro m v ⟨i, rfl, hi, hall⟩
  unfold N25v1_0
  simp only [sat_ok', sat_br, sat_leaf, eqN_self, lenI_eq, List.length_map, ltI_iff, ltI_f, Bool.and_true, true_and, Int.toNat_natCast]
  constructor
  · intro h
    have hi' : i < l.length := by omega
    obtain ⟨p1, p2⟩ := acc_in hi'
    rw [p1, p2, (acc_s _).1, (acc_s _).2]
    refine ⟨rfl, rfl, fun hz => ?_, fun hz => ?_⟩
    · rw [all_f hi' (by simpa using hz)]
      simpa [ltI] using h
    · refine ⟨m - 1, by omega, i + 1, ?_, by omega, ?_⟩
      · rw [addI_eq (by omega)]; rfl
      · intro j hj hji
        by_cases e : j = i
        · subst e; simpa using hz
        · exact hall j hj (by omega)
  · intro h
    rw [all_t fun j hj => hall j hj (by omega)]
    simpa [ltI] using h
theorem good_sv1 {b : GBus} (h : BV b) {zs : List Int} {l : List GAccess} (hz : b.Bytes = ri zs) (hl : b.Log = l.map GAccess.row) : k25v1 b = true ∧ g25v1 b = (eqI (zs.length : Int) 512 && (leI (l.length : Int) 400 && (bytesB zs && l.all accB))) := by
  refine sat_hid (t := T25v1 b) (P := fun r => r = (eqI (zs.length : Int) 512 && (leI (l.length : Int) 400 && (bytesB zs && l.all accB)))) ?_
  have n1 := h.nb
  have n2 := h.nl
  rw [hz, ri_len] at n1
  rw [hl, List.length_map] at n2
  obtain ⟨a1, a2, a3⟩ := gs_loopv1 b l (by omega)
  rw [lenI_eq, List.length_map] at a1 a2 a3
  obtain ⟨c1, c2⟩ := l4Bytes_tv1 zs (by omega)
  unfold T25v1
  simp only [sat_ok', sat_br, sat_leaf, y25v1_0, eqN_self, hl, Bool.and_true, true_and, a1, a2, a3, hz, c1, c2, lenI_eq, ri_len, List.length_map, Bool.true_or]
  cases l.all accB <;> cases eqI (zs.length : Int) 512 <;> cases leI (l.length : Int) 400 <;> cases bytesB zs <;> simp
/-! Drawn bytes, new buses. -/
theorem bytes4_d (n : Nat) (c : Gl1Cur) {B : Int} (h : CO B c) (hB : B + 4 * n < 1000000000000000000) (hn : n ≤ 1000) : k82 (n : Int) c = true ∧ (CO (B + 4 * n) (g82 (n : Int) c).1 ∧ ∃ zs : List Int, (g82 (n : Int) c).2 = ri zs ∧ zs.length ≤ n ∧ bytesB zs = true) := by
  have L : i82_0 (V82_0.mk c (n : Int) []) = true ∧ (CO (B + 4 * n) (w82_0 (V82_0.mk c (n : Int) [])).b0 ∧ ∃ zs : List Int, (w82_0 (V82_0.mk c (n : Int) [])).s5 = ri zs ∧ zs.length ≤ n ∧ bytesB zs = true) := by
    unfold i82_0 w82_0
    refine loop_w (Post := fun w : V82_0 => CO (B + 4 * n) w.b0 ∧ ∃ zs : List Int, w.s5 = ri zs ∧ zs.length ≤ n ∧ bytesB zs = true) (loop_sat (fun (m : Nat) (v : V82_0) => CO (B + 4 * (n - m)) v.b0 ∧ v.s1 = (m : Int) ∧ m ≤ n ∧ ∃ zs : List Int, v.s5 = ri zs ∧ zs.length + m ≤ n ∧ bytesB zs = true) _ ?_ 2097152 n _ ⟨h.mono (by omega), rfl, by omega, [], rfl, by simp, rfl⟩ (by omega))
    rintro m v ⟨h1, h2, h3, zs, h4, h5, h6⟩
    obtain ⟨p1, p2, p3, p4, -⟩ := pick_d 256 h1 (by omega)
    have p4 := p4 (by omega)
    obtain ⟨r1, r2, r3, r4, r5, r6, r7, r8, r9⟩ := roomB (n := zs.length) (by omega)
    unfold N82_0
    simp only [sat_ok', sat_br, sat_leaf, y82_0_l_1, y82_0_l_0, h2, h4, ri_len, p1, z_len.1, r7, r9, eqN_self, gtI_iff, gtI_f, Bool.and_true, true_and]
    have e1 : eqN (0 + zs.length) zs.length = true := by simp
    rw [e1]
    refine ⟨fun hm => ⟨rfl, m - 1, by omega, p2.mono (by omega), ?_, by omega, zs ++ [(g73 256 v.b0).2], ?_, by simp; omega, ?_⟩, fun hm => ⟨h1.mono (by omega), zs, rfl, by omega, h6⟩⟩
    · rw [subI_eq (by omega)]; omega
    · exact (ri_append (xs := zs) (ys := [(g73 256 v.b0).2])).symm
    · unfold bytesB at *
      rw [List.all_append, h6]
      simp
      omega
  refine sat_hid (t := T82 (n : Int) c) (P := fun r => CO (B + 4 * n) r.1 ∧ ∃ zs : List Int, r.2 = ri zs ∧ zs.length ≤ n ∧ bytesB zs = true) ?_
  unfold T82
  simp only [sat_ok', sat_leaf, y82_1, y82_0, L.1, eqN_self, Bool.and_true, true_and]
  exact L.2
/-- All cells are numbers, so many. -/
structure B512 (b : GBus) : Prop where
  z : ∃ zs : List Int, b.Bytes = ri zs ∧ zs.length = 512
  l : b.Log = []
theorem new_loop (xs ys : List Int) (b0 b1 : GBus) (hx : xs.length ≤ 384) (h1 : B512 b1) : i18_0 (V18_0.mk b0 b1 (ri ys) (ri xs) (lenI (ri xs)) 0) = true ∧ (B512 (w18_0 (V18_0.mk b0 b1 (ri ys) (ri xs) (lenI (ri xs)) 0)).b1 ∧ (w18_0 (V18_0.mk b0 b1 (ri ys) (ri xs) (lenI (ri xs)) 0)).s1 = ri ys) := by
  unfold i18_0 w18_0
  refine loop_w (Post := fun w : V18_0 => B512 w.b1 ∧ w.s1 = ri ys) (loop_sat (fun (m : Nat) (v : V18_0) => ∃ i : Nat, B512 v.b1 ∧ v.s1 = ri ys ∧ v.s32 = ri xs ∧ v.s33 = (xs.length : Int) ∧ v.s34 = (i : Int) ∧ i + m = xs.length) _ ?_ 2097152 xs.length _ ⟨0, h1, rfl, rfl, by simp [ri_len], rfl, by omega⟩ (by omega))
  rintro m v ⟨i, ⟨⟨zs, hz, hn⟩, hL⟩, h2, h3, h4, h5, h6⟩
  unfold N18_0
  simp only [sat_ok', sat_br, sat_leaf, y18_0_l_5, y18_0_l_4, y18_0_l_3, y18_0_l_2, y18_0_l_1, y18_0_l_0, hz, hL, h2, h3, h4, h5, ri_len, lenI_eq, eqN_self, List.length_set, List.length_nil, ltI_iff, ltI_f, Bool.and_true, true_and, Int.toNat_natCast, Nat.zero_add]
  constructor
  · intro hlt
    have hi : i < xs.length := by omega
    rw [ri_inr hi, ri_int hi, ri_rlen (show i < zs.length by omega)]
    refine ⟨rfl, ?_, m - 1, by omega, i + 1, ⟨⟨zs.set i xs[i], by rw [ri_set], by simpa using hn⟩, rfl⟩, ?_, by omega⟩
    · simp; omega
    · rw [addI_eq (by omega)]; rfl
  · intro hge
    exact ⟨⟨⟨zs, hz, hn⟩, hL⟩, trivial⟩
theorem new_loop1 (xs : List Int) (b0 b1 : GBus) (hx : xs.length ≤ 64) (h1 : B512 b1) : i18_1 (V18_1.mk b0 b1 (ri xs) (lenI (ri xs)) 0) = true ∧ B512 (w18_1 (V18_1.mk b0 b1 (ri xs) (lenI (ri xs)) 0)).b1 := by
  unfold i18_1 w18_1
  refine loop_w (Post := fun w : V18_1 => B512 w.b1) (loop_sat (fun (m : Nat) (v : V18_1) => ∃ i : Nat, B512 v.b1 ∧ v.s45 = ri xs ∧ v.s46 = (xs.length : Int) ∧ v.s47 = (i : Int) ∧ i + m = xs.length) _ ?_ 2097152 xs.length _ ⟨0, h1, rfl, by simp [ri_len], rfl, by omega⟩ (by omega))
  rintro m v ⟨i, ⟨⟨zs, hz, hn⟩, hL⟩, h3, h4, h5, h6⟩
  unfold N18_1
  simp only [sat_ok', sat_br, sat_leaf, y18_1_l_5, y18_1_l_4, y18_1_l_3, y18_1_l_2, y18_1_l_1, y18_1_l_0, hz, hL, h3, h4, h5, ri_len, lenI_eq, eqN_self, List.length_set, List.length_nil, ltI_iff, ltI_f, Bool.and_true, true_and, Int.toNat_natCast, Nat.zero_add]
  constructor
  · intro hlt
    have hi : i < xs.length := by omega
    have ea : addI 384 (i : Int) = ((384 + i : Nat) : Int) := by rw [addI_eq (by omega)]; omega
    rw [ri_inr hi, ri_int hi, ea, Int.toNat_natCast, ri_rlen (show 384 + i < zs.length by omega)]
    refine ⟨rfl, ?_, m - 1, by omega, i + 1, ⟨⟨zs.set (384 + i) xs[i], by rw [ri_set], by simpa using hn⟩, rfl⟩, ?_, by omega⟩
    · simp; omega
    · rw [addI_eq (by omega)]; rfl
  · intro hge
    exact ⟨⟨zs, hz, hn⟩, hL⟩
theorem new_t (xs ys : List Int) (hx : xs.length ≤ 384) (hy : ys.length ≤ 64) (bx : bytesB xs = true) (b_y : bytesB ys = true) : k18 (ri xs) (ri ys) = true ∧ B512 (g18 (ri xs) (ri ys)).1 := by
  refine sat_hid (t := T18 (ri xs) (ri ys)) (P := fun r => B512 r.1) ?_
  obtain ⟨a1, a2⟩ := l4Bytes_t xs (by omega)
  obtain ⟨b1, b2⟩ := l4Bytes_t ys (by omega)
  have e512 : List.replicate 512 (rowI 0) = ri (List.replicate 512 0) := by simp only [ri, List.map_replicate]; rfl
  obtain ⟨c1, c2, c3⟩ := new_loop xs ys ⟨[], []⟩ ⟨List.replicate 512 (rowI 0), []⟩ hx ⟨⟨List.replicate 512 0, e512, by simp⟩, rfl⟩
  obtain ⟨d1, d2⟩ := new_loop1 ys (w18_0 (V18_0.mk ⟨[], []⟩ ⟨List.replicate 512 (rowI 0), []⟩ (ri ys) (ri xs) (lenI (ri xs)) 0)).b0 _ hy c2
  have g1 : gtI (lenI (ri xs)) 384 = false := by simp [ri_len]; omega
  have g2 : gtI (lenI (ri ys)) 64 = false := by simp [ri_len]; omega
  unfold T18
  simp only [sat_ok', sat_br, sat_leaf, y18_8, y18_7, y18_6, y18_5, y18_4, y18_3, y18_2, y18_1, y18_0, a1, a2, b1, b2, bx, b_y, c1, c3, d1, g1, g2, eqN_self, z_len.2, Bool.not_true, cond_false, Bool.and_true, Bool.true_or, true_and, Bool.false_eq_true, false_implies, implies_true]
  exact fun _ => d2
end Go.Proofs.YtihfaondfmeglaaLogs

/- Logs: the plain law. -/
namespace Go.Proofs.YtihfaondfmeglaaLogs
open Go Go.Zq
set_option maxHeartbeats 4000000
set_option maxRecDepth 100000

/-! Accesses of a kind. -/
def kindP (k : Int) (a : GAccess) : Bool := eqI a.Kind k
theorem kd_t (a : GAccess) (k : Int) : k77 a k = true ∧ g77 a k = !kindP k a := by
  refine sat_hid (t := T77 a k) (P := fun r => r = !kindP k a) ?_
  unfold T77
  simp only [sat_ok', sat_leaf, true_and]
  rfl
def IF (k : Int) (l : List GAccess) (z : Int) : Prop := (z = -1 ∧ l.all (kindP k) = true) ∨ ∃ (i : Nat) (hi : i < l.length), z = (i : Int) ∧ kindP k l[i] = false ∧ ∀ j (hj : j < l.length), j < i → kindP k l[j] = true
theorem if_t (k : Int) (l : List GAccess) (hl : l.length ≤ 2000) : k147v1 (l.map GAccess.row) k = true ∧ (g147v1 (l.map GAccess.row) k).1 = k ∧ IF k l (g147v1 (l.map GAccess.row) k).2 := by
  have L : i147v1_0 (V147v1_0.mk k (l.map GAccess.row) (l.length : Int) 0) = true ∧ (w147v1_0 (V147v1_0.mk k (l.map GAccess.row) (l.length : Int) 0)).b0 = k ∧ (w147v1_0 (V147v1_0.mk k (l.map GAccess.row) (l.length : Int) 0)).s7 = (l.length : Int) ∧ ∃ i : Nat, (w147v1_0 (V147v1_0.mk k (l.map GAccess.row) (l.length : Int) 0)).s8 = (i : Int) ∧ (∀ j (hj : j < l.length), j < i → kindP k l[j] = true) ∧ ∀ hi : i < l.length, kindP k l[i] = false := by
    unfold i147v1_0 w147v1_0
    refine loop_w (Post := fun w : V147v1_0 => w.b0 = k ∧ w.s7 = (l.length : Int) ∧ ∃ i : Nat, w.s8 = (i : Int) ∧ (∀ j (hj : j < l.length), j < i → kindP k l[j] = true) ∧ ∀ hi : i < l.length, kindP k l[i] = false) (loop_sat (fun (n : Nat) (v : V147v1_0) => ∃ i : Nat, v = V147v1_0.mk k (l.map GAccess.row) (l.length : Int) i ∧ i + n = l.length ∧ ∀ j (hj : j < l.length), j < i → kindP k l[j] = true) _ ?_ 2097152 l.length _ ⟨0, rfl, by omega, fun j _ h => absurd h (by omega)⟩ (by omega))
    rintro n v ⟨i, rfl, hi, hall⟩
    unfold N147v1_0
    by_cases hlt : i < l.length
    · obtain ⟨p1, p2⟩ := acc_in hlt
      have l1 : ltI (i : Int) (l.length : Int) = true := by rw [ltI_iff]; omega
      have a1 : addI (i : Int) 1 = ((i + 1 : Nat) : Int) := by rw [addI_eq (by omega)]; omega
      simp only [sat_ok', sat_br, sat_leaf, l1, a1, p1, p2, Int.toNat_natCast, (kd_t _ _).1, (kd_t _ _).2, Bool.and_true, true_and, Bool.true_eq_false, false_implies, and_true, forall_const]
      refine ⟨fun hz => ⟨i, rfl, hall, fun _ => by simpa using hz⟩, fun hz => ⟨n - 1, by omega, i + 1, rfl, by omega, fun j hj hji => ?_⟩⟩
      by_cases e : j = i
      · subst e; simpa using hz
      · exact hall j hj (by omega)
    · have l1 : ltI (i : Int) (l.length : Int) = false := by rw [ltI_f]; omega
      simp only [sat_ok', sat_br, sat_leaf, l1, true_and, Bool.false_eq_true, false_implies]
      exact fun _ => ⟨i, rfl, hall, fun h => absurd h hlt⟩
  refine sat_hid (t := T147v1 (l.map GAccess.row) k) (P := fun r => r.1 = k ∧ IF k l r.2) ?_
  obtain ⟨l1, l2, l3, i, l4, l5, l6⟩ := L
  unfold T147v1
  simp only [sat_ok', sat_br, sat_leaf, y147v1_0, lenI_eq, List.length_map, l1, l2, l3, l4, ltI_iff, ltI_f, true_and]
  exact ⟨fun h => Or.inr ⟨i, by omega, rfl, l6 (by omega), l5⟩, fun h => Or.inl ⟨rfl, all_t fun j hj => l5 j hj (by omega)⟩⟩
def filt (k : Int) (l : List GAccess) : List GAccess := l.filter (kindP k)
/-- What the loop keeps: kept ones ahead, the rest behind as it was. -/
structure DF (k : Int) (l m : List GAccess) (p q : Nat) : Prop where
  len : m.length = l.length
  lt : p < q
  le : q ≤ l.length
  hd : m.take p = filt k (l.take q)
  tl : m.drop q = l.drop q
theorem DF.at {k : Int} {l m : List GAccess} {p q : Nat} (h : DF k l m p q) (hq : q < l.length) : m[q]'(by rw [h.len]; exact hq) = l[q] := by
  have e := congrArg (fun r : List GAccess => r[0]?) h.tl
  simp only [List.getElem?_drop, Nat.add_zero] at e
  have hm : q < m.length := by rw [h.len]; exact hq
  rw [List.getElem?_eq_getElem hm, List.getElem?_eq_getElem hq] at e
  exact Option.some.inj e
theorem filt_succ {k : Int} {l : List GAccess} {q : Nat} (hq : q < l.length) : filt k (l.take (q + 1)) = filt k (l.take q) ++ (if kindP k l[q] = true then [l[q]] else []) := by
  unfold filt
  rw [List.take_succ_eq_append_getElem hq, List.filter_append]
  congr 1
  by_cases h : kindP k l[q] = true
  · rw [if_pos h, List.filter_cons_of_pos h]; rfl
  · rw [if_neg h, List.filter_cons_of_neg h]; rfl
theorem DF.keep {k : Int} {l m : List GAccess} {p q : Nat} (h : DF k l m p q) (hq : q < l.length) (hk : kindP k l[q] = true) : DF k l (m.set p l[q]) (p + 1) (q + 1) := by
  have hp : p < m.length := by rw [h.len]; have := h.lt; omega
  refine ⟨by rw [List.length_set]; exact h.len, by have := h.lt; omega, by omega, ?_, ?_⟩
  · rw [filt_succ hq, if_pos hk, List.take_succ_eq_append_getElem (by rw [List.length_set]; exact hp), List.take_set_of_le (Nat.le_refl p), h.hd, List.getElem_set_self]
  · have e := congrArg (List.drop 1) h.tl
    rw [List.drop_drop, List.drop_drop] at e
    rw [List.drop_set_of_lt (by have := h.lt; omega)]
    exact e
theorem DF.skip {k : Int} {l m : List GAccess} {p q : Nat} (h : DF k l m p q) (hq : q < l.length) (hk : kindP k l[q] = false) : DF k l m p (q + 1) := by
  refine ⟨h.len, by have := h.lt; omega, by omega, ?_, ?_⟩
  · rw [filt_succ hq, if_neg (by rw [hk]; decide), List.append_nil]; exact h.hd
  · have e := congrArg (List.drop 1) h.tl
    rw [List.drop_drop, List.drop_drop] at e
    exact e
theorem row_set (m : List GAccess) (p : Nat) (x : GAccess) : (m.map GAccess.row).set p (GAccess.row x) = (m.set p x).map GAccess.row := by rw [List.map_set]
theorem row_rlen {m : List GAccess} {p : Nat} (h : p < m.length) : rlen (m.map GAccess.row) p = 5 := by
  unfold rlen
  have e : (m.map GAccess.row).getD p [] = GAccess.row m[p] := by simp [List.getD_eq_getElem?_getD, h]
  first
    | (rw [e]; rfl)
    | (simp [h]; rfl)
end Go.Proofs.YtihfaondfmeglaaLogs

/- Logs: the plain law. -/
namespace Go.Proofs.YtihfaondfmeglaaLogs
open Go Go.Zq
set_option maxHeartbeats 4000000
set_option maxRecDepth 100000

theorem del_loop (k : Int) (l m0 : List GAccess) (p0 q0 : Nat) (hl : l.length ≤ 2000) (h0 : DF k l m0 p0 q0) : i75_0 (V75_0.mk k (m0.map GAccess.row) p0 q0) = true ∧ ∃ (m : List GAccess) (p : Nat), w75_0 (V75_0.mk k (m0.map GAccess.row) p0 q0) = V75_0.mk k (m.map GAccess.row) p (l.length : Int) ∧ DF k l m p l.length := by
  unfold i75_0 w75_0
  refine loop_w (Post := fun w : V75_0 => ∃ (m : List GAccess) (p : Nat), w = V75_0.mk k (m.map GAccess.row) p (l.length : Int) ∧ DF k l m p l.length) (loop_sat (fun (n : Nat) (v : V75_0) => ∃ (m : List GAccess) (p q : Nat), v = V75_0.mk k (m.map GAccess.row) p q ∧ DF k l m p q ∧ q + n = l.length) _ ?_ 2097152 (l.length - q0) _ ⟨m0, p0, q0, rfl, h0, by have := h0.le; omega⟩ (by omega))
  rintro n v ⟨m, p, q, rfl, h, hn⟩
  have ml := h.len
  have lt := h.lt
  have z1 : leN m.length m.length = true := by simp
  have z2 : leN (0 + m.length) m.length = true := by simp
  unfold N75_0
  by_cases hlt : q < l.length
  · have hq : q < m.length := by omega
    have hp : p < m.length := by omega
    obtain ⟨p1, p2⟩ := acc_in hq
    have p1' : hasRow [.int .i64, .int .i64, .int .i64, .int .i64, .int .i64] (m.map GAccess.row) q 0 = true := by
      have := p1
      simp only [inRow, Bool.and_eq_true, Int.toNat_natCast] at this
      exact this.2.1
    have at1 := h.at hlt
    have l1 : ltI (q : Int) (m.length : Int) = true := by rw [ltI_iff]; omega
    have l2 : ltI (p : Int) (m.length : Int) = true := by rw [ltI_iff]; omega
    have l3 : leI 0 (q : Int) = true := by simp
    have l4 : leI 0 (p : Int) = true := by simp
    have a1 : addI (q : Int) 1 = ((q + 1 : Nat) : Int) := by rw [addI_eq (by omega)]; omega
    have a2 : addI (p : Int) 1 = ((p + 1 : Nat) : Int) := by rw [addI_eq (by omega)]; omega
    have b1 : blt p m.length = true := by simpa using hp
    have b2 : beqN (rlen (m.map GAccess.row) p) 5 = true := by rw [row_rlen hp]; rfl
    simp only [sat_ok', sat_br, sat_leaf, y75_0_l_2, y75_0_l_1, y75_0_l_0, lenI_eq, List.length_map, List.length_set, Nat.zero_add, Int.toNat_natCast, l1, l2, l3, l4, a1, a2, p1', p2, b1, b2, eqN_self, z1, at1, row_set, (kd_t _ _).1, (kd_t _ _).2, Bool.not_not, Bool.and_true, true_and, Bool.true_eq_false, false_implies, and_true, forall_const]
    exact ⟨fun hk => ⟨n - 1, by omega, m.set p l[q], p + 1, q + 1, rfl, h.keep hlt hk, by omega⟩, fun hk => ⟨n - 1, by omega, m, p, q + 1, rfl, h.skip hlt hk, by omega⟩⟩
  · have l1 : ltI (q : Int) (m.length : Int) = false := by rw [ltI_f]; omega
    obtain rfl : q = l.length := by have := h.le; omega
    simp only [sat_ok', sat_br, sat_leaf, lenI_eq, List.length_map, z2, l1, Bool.and_true, true_and, Bool.false_eq_true, false_implies]
    exact fun _ => ⟨m, p, rfl, h⟩
end Go.Proofs.YtihfaondfmeglaaLogs

/- Logs: the plain law. -/
namespace Go.Proofs.YtihfaondfmeglaaLogs
open Go Go.Zq
set_option maxHeartbeats 4000000
set_option maxRecDepth 100000

theorem filt_all {k : Int} {l : List GAccess} (h : ∀ j (hj : j < l.length), kindP k l[j] = true) : filt k l = l := by
  unfold filt
  rw [List.filter_eq_self]
  intro a ha
  obtain ⟨j, hj, rfl⟩ := List.getElem_of_mem ha
  exact h j hj
theorem DF.first {k : Int} {l : List GAccess} {i : Nat} (hi : i < l.length) (h : kindP k l[i] = false) (ha : ∀ j (hj : j < l.length), j < i → kindP k l[j] = true) : DF k l l i (i + 1) := by
  refine ⟨rfl, by omega, by omega, ?_, rfl⟩
  rw [filt_succ hi, if_neg (by rw [h]; decide), List.append_nil]
  refine (filt_all fun j hj => ?_).symm
  rw [List.length_take] at hj
  rw [List.getElem_take]
  exact ha j (by omega) (by omega)
theorem del_t (k : Int) (l : List GAccess) (hl : l.length ≤ 2000) : k75 (l.map GAccess.row) k = true ∧ (g75 (l.map GAccess.row) k).2 = (filt k l).map GAccess.row := by
  refine sat_hid (t := T75 (l.map GAccess.row) k) (P := fun r => r.2 = (filt k l).map GAccess.row) ?_
  obtain ⟨a1, a2, a3⟩ := if_t k l hl
  have z1 : leN (0 + l.length) l.length = true := by simp
  have tk : List.take l.length (l.map GAccess.row) = l.map GAccess.row := List.take_of_length_le (by simp)
  unfold T75
  rcases a3 with ⟨b1, b2⟩ | ⟨i, hi, b1, b2, b3⟩
  · have f : filt k l = l := filt_all fun j hj => all_at b2 hj
    simp only [sat_ok', sat_br, sat_leaf, y75_0, a1, b1, f, tk, z1, show eqI (-1) (-1) = true from rfl, eqN_self, List.length_map, Bool.and_true, true_and, Bool.true_eq_false, false_implies, forall_const, and_true]
  · have e1 : eqI (i : Int) (-1) = false := by rw [eqI_f]; omega
    have a4 : addI (i : Int) 1 = ((i + 1 : Nat) : Int) := by rw [addI_eq (by omega)]; omega
    obtain ⟨c1, m, p, c2, c3⟩ := del_loop k l l i (i + 1) hl (DF.first hi b2 b3)
    have hm := c3.len
    have hp := c3.lt
    have hd : m.take p = filt k l := by have := c3.hd; rw [List.take_length] at this; exact this
    simp only [sat_ok', sat_br, sat_leaf, y75_6, y75_5, y75_4, y75_3, y75_2, y75_1, y75_0, a1, a2, b1, e1, a4, c1, c2, eqN_self, lenI_eq, List.length_map, Int.toNat_natCast, Nat.zero_add, Bool.and_true, true_and, Bool.false_eq_true, false_implies, forall_const]
    refine ⟨by simp; omega, by simp; omega, by simp; omega, ?_⟩
    rw [List.take_append_of_le_length (by simp; omega), List.take_take, Nat.min_self, ← List.map_take, hd]
end Go.Proofs.YtihfaondfmeglaaLogs

/- Logs: the plain law. -/
namespace Go.Proofs.YtihfaondfmeglaaLogs
open Go Go.Zq
set_option maxHeartbeats 4000000
set_option maxRecDepth 100000

theorem byte_g (x : Int) : g87 x = !inB x 0 255 := by
  simp [g87, hid_eq, T87]
theorem byte_k (x : Int) : k87 x = true := by
  simp [k87, hid_eq, T87]
theorem idx_loop (zs : List Int) (hl : zs.length < 1000000) : i149_0 (V149_0.mk (ri zs) (lenI (ri zs)) 0) = true ∧ 0 ≤ (w149_0 (V149_0.mk (ri zs) (lenI (ri zs)) 0)).s8 ∧ (ltI (w149_0 (V149_0.mk (ri zs) (lenI (ri zs)) 0)).s8 (w149_0 (V149_0.mk (ri zs) (lenI (ri zs)) 0)).s7 = !bytesB zs) := by
  unfold i149_0 w149_0
  refine loop_w (Post := fun w => 0 ≤ w.s8 ∧ ltI w.s8 w.s7 = !bytesB zs) (loop_sat (fun n v => ∃ i : Nat, v = V149_0.mk (ri zs) (lenI (ri zs)) i ∧ i ≤ zs.length ∧ n = zs.length - i ∧ ∀ j (hj : j < zs.length), j < i → inB zs[j] 0 255 = true) _ ?_ 2097152 zs.length _ ⟨0, rfl, by omega, by omega, fun j _ h => absurd h (by omega)⟩ (by omega))
  rintro n v ⟨i, rfl, hi, rfl, hall⟩
  unfold N149_0
  simp only [sat_ok', sat_br, sat_leaf, lenI_eq, ri_len, ltI_iff, ltI_f, true_and, Int.toNat_natCast]
  constructor
  · intro h
    have hi' : i < zs.length := by omega
    rw [ri_inr hi', ri_int hi', byte_k, byte_g]
    refine ⟨rfl, fun hz => ?_, fun hz => ?_⟩
    · rw [bytesB_f hi' (by simpa using hz)]
      exact ⟨by omega, by simpa [ltI] using h⟩
    · refine ⟨_, ?_, i + 1, ?_, by omega, rfl, ?_⟩
      · omega
      · rw [addI_eq (by omega)]; rfl
      · intro j hj hji
        by_cases e : j = i
        · subst e; simpa using hz
        · exact hall j hj (by omega)
  · intro h
    rw [bytesB_t fun j hj => hall j hj (by omega)]
    exact ⟨by omega, by simpa [ltI] using h⟩
theorem idx_t (zs : List Int) (hl : zs.length < 1000000) : k86 (ri zs) = true ∧ g86 (ri zs) = !bytesB zs := by
  obtain ⟨h1, h2, h3⟩ := idx_loop zs hl
  have a : k149 (ri zs) = true ∧ geI (g149 (ri zs)) 0 = !bytesB zs := by
    unfold k149 g149 T149 y149_0
    rw [hid_eq, hid_eq]
    simp only [okv_ok, okv_br, okv_leaf, val_ok, val_br, val_leaf, h1, h3, Bool.true_and]
    cases bytesB zs
    · exact ⟨rfl, by simpa using h2⟩
    · exact ⟨rfl, rfl⟩
  have b : k86 (ri zs) = true ∧ g86 (ri zs) = !bytesB zs := by
    unfold k86 g86 T86
    rw [hid_eq, hid_eq]
    simp only [okv_ok, okv_leaf, val_ok, val_leaf, a.1, a.2, Bool.true_and, and_self]
  exact b
theorem acc_g (x : GAccess) : g89 x = !accB x := by
  simp [g89, hid_eq, T89, (acc_i x).2]
theorem acc_k (x : GAccess) : k89 x = true := by
  simp [k89, hid_eq, T89, (acc_i x).1]
theorem idxA_loop (l : List GAccess) (hl : l.length < 1000000) : i147_0 (V147_0.mk (l.map GAccess.row) (lenI (l.map GAccess.row)) 0) = true ∧ 0 ≤ (w147_0 (V147_0.mk (l.map GAccess.row) (lenI (l.map GAccess.row)) 0)).s8 ∧ (ltI (w147_0 (V147_0.mk (l.map GAccess.row) (lenI (l.map GAccess.row)) 0)).s8 (w147_0 (V147_0.mk (l.map GAccess.row) (lenI (l.map GAccess.row)) 0)).s7 = !l.all accB) := by
  unfold i147_0 w147_0
  refine loop_w (Post := fun w => 0 ≤ w.s8 ∧ ltI w.s8 w.s7 = !l.all accB) (loop_sat (fun n v => ∃ i : Nat, v = V147_0.mk (l.map GAccess.row) (lenI (l.map GAccess.row)) i ∧ i ≤ l.length ∧ n = l.length - i ∧ ∀ j (hj : j < l.length), j < i → accB l[j] = true) _ ?_ 2097152 l.length _ ⟨0, rfl, by omega, by omega, fun j _ h => absurd h (by omega)⟩ (by omega))
  rintro n v ⟨i, rfl, hi, rfl, hall⟩
  unfold N147_0
  simp only [sat_ok', sat_br, sat_leaf, lenI_eq, List.length_map, ltI_iff, ltI_f, true_and, Int.toNat_natCast]
  constructor
  · intro h
    have hi' : i < l.length := by omega
    obtain ⟨p1, p2⟩ := acc_in hi'
    rw [p1, p2, acc_k, acc_g]
    refine ⟨rfl, fun hz => ?_, fun hz => ?_⟩
    · rw [all_f hi' (by simpa using hz)]
      exact ⟨by omega, by simpa [ltI] using h⟩
    · refine ⟨_, ?_, i + 1, ?_, by omega, rfl, ?_⟩
      · omega
      · rw [addI_eq (by omega)]; rfl
      · intro j hj hji
        by_cases e : j = i
        · subst e; simpa using hz
        · exact hall j hj (by omega)
  · intro h
    rw [all_t fun j hj => hall j hj (by omega)]
    exact ⟨by omega, by simpa [ltI] using h⟩
theorem idxA_t (l : List GAccess) (hl : l.length < 1000000) : k88 (l.map GAccess.row) = true ∧ g88 (l.map GAccess.row) = !l.all accB := by
  obtain ⟨h1, h2, h3⟩ := idxA_loop l hl
  have a : k147 (l.map GAccess.row) = true ∧ geI (g147 (l.map GAccess.row)) 0 = !l.all accB := by
    unfold k147 g147 T147 y147_0
    rw [hid_eq, hid_eq]
    simp only [okv_ok, okv_br, okv_leaf, val_ok, val_br, val_leaf, h1, h3, Bool.true_and]
    cases l.all accB
    · exact ⟨rfl, by simpa using h2⟩
    · exact ⟨rfl, rfl⟩
  have b : k88 (l.map GAccess.row) = true ∧ g88 (l.map GAccess.row) = !l.all accB := by
    unfold k88 g88 T88
    rw [hid_eq, hid_eq]
    simp only [okv_ok, okv_leaf, val_ok, val_leaf, a.1, a.2, Bool.true_and, and_self]
  exact b
def goodB (zs : List Int) (l : List GAccess) : Bool := eqI (zs.length : Int) 512 && (leI (l.length : Int) 400 && (bytesB zs && l.all accB))
theorem good_i (zs : List Int) (l : List GAccess) (hz : zs.length < 1000000) (hl : l.length < 1000000) : k21 ⟨ri zs, l.map GAccess.row⟩ = true ∧ g21 ⟨ri zs, l.map GAccess.row⟩ = goodB zs l := by
  refine sat_hid (t := T21 ⟨ri zs, l.map GAccess.row⟩) (P := fun r => r = goodB zs l) ?_
  obtain ⟨a1, a2⟩ := idx_t zs hz
  obtain ⟨b1, b2⟩ := idxA_t l hl
  unfold T21 goodB
  simp only [sat_ok', sat_leaf, y21_1, y21_0, Bool.cond_self, a1, a2, b1, b2, lenI_eq, ri_len, List.length_map, Bool.and_true, Bool.true_or, true_and]
  cases eqI (zs.length : Int) 512 <;> cases leI (l.length : Int) 400 <;> cases bytesB zs <;> cases l.all accB <;> rfl
end Go.Proofs.YtihfaondfmeglaaLogs

/- Logs: the plain law. -/
namespace Go.Proofs.YtihfaondfmeglaaLogs
open Go Go.Zq
set_option maxHeartbeats 4000000
set_option maxRecDepth 100000

/-! LogOf. -/
theorem filt_len (k : Int) (l : List GAccess) : (filt k l).length ≤ l.length := List.length_filter_le _ _
def logR (k : Int) (zs : List Int) (l : List GAccess) : List Row × Bool := bif goodB zs l && inB k 1 3 then ((filt k l).map GAccess.row, true) else ([], false)
theorem logOf_i (k : Int) (zs : List Int) (l : List GAccess) (hz : zs.length < 1000000) (hl : l.length ≤ 2000) : k10 ⟨ri zs, l.map GAccess.row⟩ k = true ∧ g10 ⟨ri zs, l.map GAccess.row⟩ k = logR k zs l := by
  refine sat_hid (t := T10 ⟨ri zs, l.map GAccess.row⟩ k) (P := fun r => r = logR k zs l) ?_
  obtain ⟨a1, a2⟩ := good_i zs l hz (by omega)
  obtain ⟨d1, d2⟩ := del_t k l hl
  obtain ⟨r1, r2, r3, r4, r5, r6, r7, r8, r9⟩ := roomB hl
  unfold T10 logR
  simp only [sat_ok', sat_br, sat_leaf, y10_1, y10_0, a1, a2, within_g, within_k, d1, d2, r2, List.length_map, eqN_self, Bool.and_true, Bool.true_or, true_and]
  cases goodB zs l <;> cases inB k 1 3 <;> simp
end Go.Proofs.YtihfaondfmeglaaLogs

/- Logs: the plain law. -/
namespace Go.Proofs.YtihfaondfmeglaaLogs
open Go Go.Zq
set_option maxHeartbeats 4000000
set_option maxRecDepth 100000

theorem logs_loop (k : Int) (l : List GAccess) (hl : l.length ≤ 1000) : i11_0 (V11_0.mk k [] (l.map GAccess.row) (l.length : Int) 0) = true ∧ w11_0 (V11_0.mk k [] (l.map GAccess.row) (l.length : Int) 0) = V11_0.mk k ((filt k l).map GAccess.row) (l.map GAccess.row) (l.length : Int) (l.length : Int) := by
  have key : i11_0 (V11_0.mk k [] (l.map GAccess.row) (l.length : Int) 0) = true ∧ (w11_0 (V11_0.mk k [] (l.map GAccess.row) (l.length : Int) 0)) = V11_0.mk k ((filt k (l.take l.length)).map GAccess.row) (l.map GAccess.row) (l.length : Int) (l.length : Int) := by
    unfold i11_0 w11_0
    refine loop_w (Post := fun w : V11_0 => w = V11_0.mk k ((filt k (l.take l.length)).map GAccess.row) (l.map GAccess.row) (l.length : Int) (l.length : Int)) (loop_sat (fun (n : Nat) (v : V11_0) => ∃ q : Nat, v = V11_0.mk k ((filt k (l.take q)).map GAccess.row) (l.map GAccess.row) (l.length : Int) q ∧ q + n = l.length) _ ?_ 2097152 l.length _ ⟨0, rfl, by omega⟩ (by omega))
    rintro n v ⟨q, rfl, hn⟩
    unfold N11_0
    by_cases hlt : q < l.length
    · obtain ⟨p1, p2⟩ := acc_in hlt
      have p3 : intAt (l.map GAccess.row) q 0 = l[q].Kind := congrArg GAccess.Kind p2
      have fl := filt_len k (l.take q)
      rw [List.length_take] at fl
      obtain ⟨r1, r2, r3, r4, r5, r6, r7, r8, r9⟩ := roomB (n := (filt k (l.take q)).length) (by omega)
      have z1 : eqN (0 + (filt k (l.take q)).length) (filt k (l.take q)).length = true := by simp
      have l1 : ltI (q : Int) (l.length : Int) = true := by rw [ltI_iff]; omega
      have a1 : addI (q : Int) 1 = ((q + 1 : Nat) : Int) := by rw [addI_eq (by omega)]; omega
      simp only [sat_ok', sat_br, sat_leaf, y11_0_l_2, y11_0_l_1, y11_0_l_0, l1, a1, p1, p2, p3, z1, r8, r9, List.length_map, eqN_self, Int.toNat_natCast, Bool.and_true, true_and, Bool.true_eq_false, false_implies, and_true, forall_const]
      refine ⟨fun hk => ⟨n - 1, by omega, q + 1, ?_, by omega⟩, fun hk => ⟨n - 1, by omega, q + 1, ?_, by omega⟩⟩
      · rw [filt_succ hlt, if_pos (show kindP k l[q] = true from hk), List.map_append]; rfl
      · rw [filt_succ hlt, if_neg (by rw [show kindP k l[q] = false from hk]; decide), List.append_nil]
    · have l1 : ltI (q : Int) (l.length : Int) = false := by rw [ltI_f]; omega
      obtain rfl : q = l.length := by omega
      simp only [sat_ok', sat_br, sat_leaf, l1, true_and, Bool.false_eq_true, false_implies]
      exact fun _ => trivial
  rwa [List.take_length] at key
theorem logOf_s (k : Int) (zs : List Int) (l : List GAccess) (hz : zs.length ≤ 512) (hl : l.length ≤ 1000) : k11 ⟨ri zs, l.map GAccess.row⟩ k = true ∧ g11 ⟨ri zs, l.map GAccess.row⟩ k = logR k zs l := by
  refine sat_hid (t := T11 ⟨ri zs, l.map GAccess.row⟩ k) (P := fun r => r = logR k zs l) ?_
  obtain ⟨a1, a3⟩ := good_sv1 (b := ⟨ri zs, l.map GAccess.row⟩) (zs := zs) (l := l) ⟨⟨zs, rfl⟩, ⟨l, rfl⟩, by simpa only [ri_len] using hz, by simpa using hl⟩ rfl rfl
  have a2 : g25v1 ⟨ri zs, l.map GAccess.row⟩ = goodB zs l := a3
  obtain ⟨b1, b2⟩ := logs_loop k l hl
  unfold T11 logR
  simp only [sat_ok', sat_br, sat_leaf, y11_1, y11_0, a1, a2, l1In_g, l1In_k, lenI_eq, List.length_map, b1, b2, eqN_self, Bool.and_true, Bool.true_or, true_and]
  cases goodB zs l <;> cases inB k 1 3 <;> simp
end Go.Proofs.YtihfaondfmeglaaLogs

/- Logs: the plain law. -/
namespace Go.Proofs.YtihfaondfmeglaaLogs
open Go Go.Zq
set_option maxHeartbeats 4000000
set_option maxRecDepth 100000

/-- A loop that walks a told chain of states. -/
theorem loop_st {V : Type} {N : V → Pt (Option V)} (st : Nat → V) (n : Nat) (hn : n < 1000000) (h : ∀ i, i < n → (N (st i)).Sat (fun r => r = some (st (i + 1)))) (he : (N (st n)).Sat (fun r => r = none)) : (hid (loopV N 2097152 (st 0))).isSome = true ∧ (hid (loopV N 2097152 (st 0))).getD (st 0) = st n := by
  refine loop_w (Post := fun w => w = st n) (loop_sat (fun (m : Nat) (v : V) => ∃ i, i + m = n ∧ v = st i) _ ?_ 2097152 n _ ⟨0, by omega, rfl⟩ (by omega))
  rintro m v ⟨i, hi, rfl⟩
  have mono : ∀ {α : Type} {P Q : α → Prop}, (∀ a, P a → Q a) → ∀ {t : Pt α}, t.Sat P → t.Sat Q := fun {α P Q} hPQ t => by
    induction t with
    | leaf a => exact hPQ a
    | ok b x ih => exact fun h => ⟨h.1, ih h.2⟩
    | br b x y ix iy => exact fun h => ⟨fun e => ix (h.1 e), fun e => iy (h.2 e)⟩
  by_cases e : i = n
  · subst e
    exact mono (fun r hr => by subst hr; rfl) he
  · exact mono (fun r hr => by subst hr; exact ⟨m - 1, by omega, i + 1, by omega, rfl⟩) (h i (by omega))
/-! Kinds and codes. -/
def kindO (a : Int) : Int := bif inB a 448 495 || leI 512 a then 1 else bif inB a 384 447 then 3 else 0
theorem kind_s (a : Int) : k107 a = true ∧ g107 a = kindO a := by
  refine sat_hid (t := T107 a) (P := fun r => r = kindO a) ?_
  unfold T107 kindO
  have e : geI a 512 = leI 512 a := rfl
  simp only [sat_ok', sat_br, sat_leaf, l1In_g, l1In_k, e, Bool.and_true, Bool.true_or, true_and]
  cases inB a 448 495 <;> cases leI 512 a <;> cases inB a 384 447 <;> simp
def codeO (k s a : Int) : Int := bif eqI s 2 && eqI (a % 2) 1 then 2 else bif eqI (kindO a) 1 || eqI (kindO (a + s - 1)) 1 then 1 else bif eqI k 2 && (eqI (kindO a) 3 || eqI (kindO (a + s - 1)) 3) then 3 else 0
theorem code_s (k s a : Int) (h : inB a 0 65535 = true) (hs : inB s 0 2 = true) : k105 k s a = true ∧ g105 k s a = codeO k s a := by
  refine sat_hid (t := T105 k s a) (P := fun r => r = codeO k s a) ?_
  rw [inB_iff] at h hs
  have e : subI (addI a s) 1 = a + s - 1 := by rw [addI_eq (by omega), subI_eq (by omega)]
  unfold T105 codeO
  simp only [sat_ok', sat_br, sat_leaf, y105_0, (kind_s _).1, (kind_s _).2, and1, e, Bool.and_true, Bool.true_or, true_and]
  cases eqI s 2 <;> cases eqI (a % 2) 1 <;> cases eqI (kindO a) 1 <;> cases eqI (kindO (a + s - 1)) 1 <;> cases eqI k 2 <;> cases eqI (kindO a) 3 <;> cases eqI (kindO (a + s - 1)) 3 <;> simp
theorem code_rng (k s a : Int) : inB (codeO k s a) 0 3 = true := by
  unfold codeO
  cases eqI s 2 && eqI (a % 2) 1 <;> cases eqI (kindO a) 1 || eqI (kindO (a + s - 1)) 1 <;> cases eqI k 2 && (eqI (kindO a) 3 || eqI (kindO (a + s - 1)) 3) <;> rfl
theorem kind_not {a : Int} : (kindO a ≠ 1 → a < 448 ∨ (496 ≤ a ∧ a < 512)) ∧ (kindO a ≠ 1 → kindO a ≠ 3 → a < 384 ∨ 496 ≤ a) := by
  unfold kindO
  cases h1 : inB a 448 495 <;> cases h2 : leI 512 a <;> cases h3 : inB a 384 447 <;> simp [inB] at * <;> omega
theorem code_0 {k s a : Int} (h : codeO k s a = 0) : codeO 1 s a = 0 ∧ (a < 448 ∨ (496 ≤ a ∧ a < 512)) ∧ (a + s - 1 < 448 ∨ (496 ≤ a + s - 1 ∧ a + s - 1 < 512)) ∧ (k = 2 → (a < 384 ∨ 496 ≤ a) ∧ (a + s - 1 < 384 ∨ 496 ≤ a + s - 1)) := by
  unfold codeO at *
  cases h1 : eqI s 2 && eqI (a % 2) 1
  · cases h2 : eqI (kindO a) 1 || eqI (kindO (a + s - 1)) 1
    · rw [h1, h2] at h
      rw [Bool.or_eq_false_iff, eqI_f, eqI_f] at h2
      refine ⟨rfl, kind_not.1 h2.1, kind_not.1 h2.2, fun e => ?_⟩
      subst e
      cases h3 : eqI (kindO a) 3 || eqI (kindO (a + s - 1)) 3
      · rw [Bool.or_eq_false_iff, eqI_f, eqI_f] at h3
        exact ⟨kind_not.2 h2.1 h3.1, kind_not.2 h2.2 h3.2⟩
      · rw [h3, show eqI 2 2 = true from rfl] at h; simp at h
    · rw [h1, h2] at h; simp at h
  · rw [h1] at h; simp at h
/-! What a touch does. -/
def wk (s v : Int) (a : Nat) (zs : List Int) : Nat → List Int
  | 0 => zs
  | 1 => zs.set a (bif eqI s 1 then v % 256 else v / 256)
  | _ => (zs.set a (v / 256)).set (a + 1) (v % 256)
def rk (a : Nat) (zs : List Int) : Nat → Int
  | 0 => 0
  | 1 => zs.getD a 0
  | _ => zs.getD a 0 * 256 + zs.getD (a + 1) 0
theorem getD_lt {zs : List Int} {i : Nat} (h : i < zs.length) : zs.getD i 0 = zs[i] := by simp [List.getD_eq_getElem?_getD, h]
theorem byte_at {zs : List Int} (h : bytesB zs = true) {i : Nat} (hi : i < zs.length) : 0 ≤ zs[i] ∧ zs[i] < 256 := by
  have := List.all_eq_true.1 h _ (List.getElem_mem hi)
  rw [inB_iff] at this
  omega
/-- Where the told bus is, what may be touched. -/
structure TouchOk (s v : Int) (zs : List Int) (l : List GAccess) : Prop where
  hs : s = 1 ∨ s = 2
  hv : valB s v = true
  hz : zs.length = 512
  hb : bytesB zs = true
  hl : l.length ≤ 400
theorem val_rng {s v : Int} (hs : s = 1 ∨ s = 2) (h : valB s v = true) : 0 ≤ v ∧ v < 65536 ∧ (s = 1 → v < 256) := by
  unfold valB at h
  rcases hs with rfl | rfl
  · rw [show eqI 1 1 = true from rfl, cond_true, inB_iff] at h; omega
  · rw [show eqI 2 1 = false from rfl, show eqI 2 2 = true from rfl, cond_true, cond_false, inB_iff] at h; omega
theorem cell_ok {zs : List Int} {a : Nat} (h : a < zs.length) : leI 0 (a : Int) = true ∧ ltI (a : Int) (zs.length : Int) = true ∧ blt a zs.length = true ∧ beqN (rlen (ri zs) a) 1 = true ∧ hasRow [.int .i64] (ri zs) a 0 = true := by
  refine ⟨by simp, by simp; exact h, by simp; exact h, by rw [ri_rlen h]; rfl, num_has ⟨zs, rfl⟩ (by rw [ri_len]; exact h)⟩
theorem shr0 {v : Int} : shrI v 0 = v := by rw [shr_div (n := 0) 0 rfl (by omega)]; simp
theorem shr8 {v : Int} : shrI v 8 = v / 256 := by rw [shr_div (n := 8) 8 rfl (by omega)]; rfl
theorem wr_loop {s v : Int} {a : Nat} {zs : List Int} {l : List GAccess} (h : TouchOk s v zs l) (hc : codeO 2 s a = 0) : i101_0 (V101_0.mk ⟨ri zs, l.map GAccess.row⟩ 2 s a v 0 v 0) = true ∧ w101_0 (V101_0.mk ⟨ri zs, l.map GAccess.row⟩ 2 s a v 0 v 0) = V101_0.mk ⟨ri (wk s v a zs s.toNat), l.map GAccess.row⟩ 2 s a v 0 v s := by
  obtain ⟨-, q1, q2, q3⟩ := code_0 hc
  obtain ⟨v0, v1, v2⟩ := val_rng h.hs h.hv
  have hz := h.hz
  have hl := h.hl
  have e22 : eqI 2 2 = true := rfl
  have an : andI v 255 = v % 256 := and255 v0 (by omega)
  have an8 : andI (v / 256) 255 = v / 256 := by rw [and255 (by omega) (by omega)]; omega
  have := loop_st (N := N101_0) (fun i => V101_0.mk ⟨ri (wk s v a zs i), l.map GAccess.row⟩ 2 s a v 0 v i) s.toNat (by rcases h.hs with rfl | rfl <;> decide) ?_ ?_
  · rw [show ((s.toNat : Nat) : Int) = s from by rcases h.hs with rfl | rfl <;> rfl] at this
    exact this
  · intro i hi
    have p : addI (a : Int) ((i : Nat) : Int) = ((a + i : Nat) : Int) := by
      have : s.toNat ≤ 2 := by rcases h.hs with rfl | rfl <;> decide
      rw [addI_eq (by omega)]; omega
    rcases h.hs with rfl | rfl
    · obtain rfl : i = 0 := by have : Int.toNat 1 = 1 := rfl; omega
      have p2 : wrapK .u64 (mulI 8 (subI (subI 1 1) ((0 : Nat) : Int))) = 0 := by decide
      have p3 : ltI ((0 : Nat) : Int) 1 = true := by decide
      have p4 : addI ((0 : Nat) : Int) 1 = ((0 + 1 : Nat) : Int) := by decide
      obtain ⟨c1, c2, c3, c4, c5⟩ := cell_ok (zs := zs) (a := a) (by omega)
      unfold N101_0
      simp only [sat_ok', sat_br, sat_leaf, y101_0_l_5, y101_0_l_4, y101_0_l_3, y101_0_l_2, y101_0_l_1, y101_0_l_0, wk, p, p2, p3, p4, shr0, an, Int.toNat_natCast, Nat.zero_add, Nat.add_zero, lenI_eq, ri_len, ri_set, List.length_set, eqN_self, e22, show eqI 1 1 = true from rfl, show leI 0 0 = true from rfl, c1, c2, c3, c4, c5, Bool.and_true, true_and, cond_true, implies_true, Bool.true_eq_false, false_implies, and_true]
    · obtain rfl | rfl : i = 0 ∨ i = 1 := by have : Int.toNat 2 = 2 := rfl; omega
      · have p2 : wrapK .u64 (mulI 8 (subI (subI 2 1) ((0 : Nat) : Int))) = 8 := by decide
        have p3 : ltI ((0 : Nat) : Int) 2 = true := by decide
        have p4 : addI ((0 : Nat) : Int) 1 = ((0 + 1 : Nat) : Int) := by decide
        obtain ⟨c1, c2, c3, c4, c5⟩ := cell_ok (zs := zs) (a := a) (by omega)
        unfold N101_0
        simp only [sat_ok', sat_br, sat_leaf, y101_0_l_5, y101_0_l_4, y101_0_l_3, y101_0_l_2, y101_0_l_1, y101_0_l_0, wk, p, p2, p3, p4, shr8, an8, Int.toNat_natCast, Nat.zero_add, Nat.add_zero, lenI_eq, ri_len, ri_set, List.length_set, eqN_self, e22, show eqI 2 1 = false from rfl, show leI 0 8 = true from rfl, c1, c2, c3, c4, c5, Bool.and_true, true_and, cond_true, cond_false, implies_true, Bool.true_eq_false, false_implies, and_true]
      · have p2 : wrapK .u64 (mulI 8 (subI (subI 2 1) ((1 : Nat) : Int))) = 0 := by decide
        have p3 : ltI ((1 : Nat) : Int) 2 = true := by decide
        have p4 : addI ((1 : Nat) : Int) 1 = ((1 + 1 : Nat) : Int) := by decide
        obtain ⟨c1, c2, c3, c4, c5⟩ := cell_ok (zs := zs.set a (v / 256)) (a := a + 1) (by rw [List.length_set]; omega)
        rw [List.length_set] at c2 c3
        unfold N101_0
        simp only [sat_ok', sat_br, sat_leaf, y101_0_l_5, y101_0_l_4, y101_0_l_3, y101_0_l_2, y101_0_l_1, y101_0_l_0, wk, p, p2, p3, p4, shr0, an, Int.toNat_natCast, Nat.zero_add, lenI_eq, ri_len, ri_set, List.length_set, eqN_self, e22, show eqI 2 1 = false from rfl, show leI 0 0 = true from rfl, c1, c2, c3, c4, c5, Bool.and_true, true_and, cond_true, cond_false, implies_true, Bool.true_eq_false, false_implies, and_true]
  · have p3 : ltI ((s.toNat : Nat) : Int) s = false := by rcases h.hs with rfl | rfl <;> decide
    unfold N101_0
    simp only [sat_ok', sat_br, sat_leaf, p3, Bool.false_eq_true, false_implies, implies_true, true_and]
theorem rd_loop {k s v : Int} {a : Nat} {zs : List Int} {l : List GAccess} (h : TouchOk s v zs l) (hk : eqI k 2 = false) (hc : codeO k s a = 0) : i101_0 (V101_0.mk ⟨ri zs, l.map GAccess.row⟩ k s a v 0 0 0) = true ∧ w101_0 (V101_0.mk ⟨ri zs, l.map GAccess.row⟩ k s a v 0 0 0) = V101_0.mk ⟨ri zs, l.map GAccess.row⟩ k s a v 0 (rk a zs s.toNat) s := by
  obtain ⟨-, q1, q2, q3⟩ := code_0 hc
  have hz := h.hz
  have hl := h.hl
  have := loop_st (N := N101_0) (fun i => V101_0.mk ⟨ri zs, l.map GAccess.row⟩ k s a v 0 (rk a zs i) i) s.toNat (by rcases h.hs with rfl | rfl <;> decide) ?_ ?_
  · rw [show ((s.toNat : Nat) : Int) = s from by rcases h.hs with rfl | rfl <;> rfl] at this
    exact this
  · intro i hi
    have p : addI (a : Int) ((i : Nat) : Int) = ((a + i : Nat) : Int) := by
      have : s.toNat ≤ 2 := by rcases h.hs with rfl | rfl <;> decide
      rw [addI_eq (by omega)]; omega
    have p4 : addI ((i : Nat) : Int) 1 = ((i + 1 : Nat) : Int) := by
      have : s.toNat ≤ 2 := by rcases h.hs with rfl | rfl <;> decide
      rw [addI_eq (by omega)]; omega
    have ha : a + i < zs.length := by
      rcases h.hs with rfl | rfl
      · have : Int.toNat 1 = 1 := rfl; omega
      · have : Int.toNat 2 = 2 := rfl; omega
    obtain ⟨c1, c2, c3, c4, c5⟩ := cell_ok ha
    have p3 : ltI ((i : Nat) : Int) s = true := by rw [ltI_iff]; omega
    have p5 : orI (shlI (rk a zs i) 8) zs[a + i] = rk a zs (i + 1) := by
      have b1 := byte_at h.hb ha
      obtain rfl | rfl : i = 0 ∨ i = 1 := by
        have : s.toNat ≤ 2 := by rcases h.hs with rfl | rfl <;> decide
        omega
      · simp only [rk]
        rw [shl8 (by omega) (by omega), or_add (by omega) (by omega) b1.1 b1.2, getD_lt (by omega)]
        simp
      · have b2 := byte_at h.hb (i := a) (by omega)
        simp only [rk]
        rw [getD_lt (show a < zs.length by omega), getD_lt ha, shl8 b2.1 (by omega), or_add (by omega) (by omega) b1.1 b1.2]
    unfold N101_0
    simp only [sat_ok', sat_br, sat_leaf, y101_0_l_5, y101_0_l_4, y101_0_l_3, y101_0_l_2, y101_0_l_1, y101_0_l_0, p, p3, p4, p5, ri_int ha, Int.toNat_natCast, Nat.zero_add, lenI_eq, ri_len, eqN_self, hk, c1, c2, c3, c4, c5, Bool.and_true, true_and, implies_true, Bool.true_eq_false, Bool.false_eq_true, false_implies, and_true]
  · have p3 : ltI ((s.toNat : Nat) : Int) s = false := by rcases h.hs with rfl | rfl <;> decide
    unfold N101_0
    simp only [sat_ok', sat_br, sat_leaf, p3, Bool.false_eq_true, false_implies, implies_true, true_and]
/-! The told bus after a touch. -/
def tB (k s a v : Int) (zs : List Int) : List Int := bif eqI (codeO k s a) 0 && eqI k 2 then wk s v a.toNat zs s.toNat else zs
def tV (k s a v : Int) (zs : List Int) : Int := bif eqI k 2 then v else bif eqI (codeO k s a) 0 then rk a.toNat zs s.toNat else 0
def tL (k s a v : Int) (zs : List Int) (l : List GAccess) : List GAccess := bif ltI (l.length : Int) 400 && !(eqI k 3 && eqI (codeO k s a) 0) then l ++ [⟨k, s, a, tV k s a v zs, codeO k s a⟩] else l
theorem row_app (l : List GAccess) (x : GAccess) : l.map GAccess.row ++ [GAccess.row x] = (l ++ [x]).map GAccess.row := by simp
theorem touch_s {k s a v : Int} {zs : List Int} {l : List GAccess} (h : TouchOk s v zs l) (ha : inB a 0 65535 = true) : k101 k s a v ⟨ri zs, l.map GAccess.row⟩ = true ∧ g101 k s a v ⟨ri zs, l.map GAccess.row⟩ = (⟨ri (tB k s a v zs), (tL k s a v zs l).map GAccess.row⟩, tV k s a v zs, codeO k s a) := by
  refine sat_hid (t := T101 k s a v ⟨ri zs, l.map GAccess.row⟩) (P := fun r => r = (⟨ri (tB k s a v zs), (tL k s a v zs l).map GAccess.row⟩, tV k s a v zs, codeO k s a)) ?_
  obtain ⟨c1, c2⟩ := code_s k s a ha (by rcases h.hs with rfl | rfl <;> decide)
  have hl := h.hl
  obtain ⟨r1, r2, r3, r4, r5, r6, r7, r8, r9⟩ := roomB (n := l.length) (by omega)
  obtain ⟨m, rfl⟩ : ∃ m : Nat, a = (m : Int) := ⟨a.toNat, by rw [inB_iff] at ha; omega⟩
  have z1 : eqN (0 + l.length) l.length = true := by simp
  have z2 : leN (0 + l.length) l.length = true := by simp
  have n0 : neI (codeO k s m) 0 = !eqI (codeO k s m) 0 := rfl
  have n2 : neI k 2 = !eqI k 2 := rfl
  have n3 : neI k 3 = !eqI k 3 := rfl
  cases hc : eqI (codeO k s m) 0
  · unfold T101 tB tL tV
    simp only [sat_ok', sat_br, sat_leaf, y101_12, y101_11, y101_10, y101_9, y101_8, y101_7, y101_6, y101_5, y101_4, y101_3, y101_2, y101_1, y101_0, c1, c2, hc, n0, n2, n3, z1, z2, r8, r9, row_app, Bool.and_true, true_and, lenI_eq, List.length_map, eqN_self, Bool.false_eq_true, false_implies, Bool.and_false, Bool.false_and, Bool.not_false, cond_false, cond_true, forall_const]
    cases ltI (l.length : Int) 400 <;> cases eqI k 2 <;> cases eqI k 3 <;> simp
  · have hc' := eqI_iff.1 hc
    cases hk : eqI k 2
    · obtain ⟨d1, d2⟩ := rd_loop (a := m) h hk hc'
      unfold T101 tB tL tV
      simp only [sat_ok', sat_br, sat_leaf, y101_12, y101_11, y101_10, y101_9, y101_8, y101_7, y101_6, y101_5, y101_4, y101_3, y101_2, y101_1, y101_0, c1, c2, hc, hc', hk, d1, d2, n2, n3, show neI 0 0 = false from rfl, show eqI 0 0 = true from rfl, z1, z2, r8, r9, row_app, ri_len, Bool.and_true, true_and, lenI_eq, List.length_map, eqN_self, Int.toNat_natCast, Bool.true_eq_false, Bool.false_eq_true, false_implies, Bool.and_false, Bool.not_false, Bool.not_true, cond_false, cond_true, forall_const, and_true]
      cases ltI (l.length : Int) 400 <;> cases eqI k 3 <;> simp
    · obtain rfl := eqI_iff.1 hk
      obtain ⟨d1, d2⟩ := wr_loop (a := m) h hc'
      unfold T101 tB tL tV
      simp only [sat_ok', sat_br, sat_leaf, y101_12, y101_11, y101_10, y101_9, y101_8, y101_7, y101_6, y101_5, y101_4, y101_3, y101_2, y101_1, y101_0, c1, c2, hc, hc', hk, d1, d2, n2, n3, show eqI 2 3 = false from rfl, show neI 0 0 = false from rfl, show eqI 0 0 = true from rfl, z1, z2, r8, r9, row_app, ri_len, Bool.and_true, true_and, lenI_eq, List.length_map, eqN_self, Int.toNat_natCast, Bool.true_eq_false, Bool.false_eq_true, false_implies, Bool.and_false, Bool.false_and, Bool.not_false, Bool.not_true, cond_false, cond_true, forall_const, and_true]
      cases ltI (l.length : Int) 400 <;> simp
theorem own_s {b : GBus} (h1 : b.Bytes.length ≤ 2000) (h2 : b.Log.length ≤ 2000) : k100 b = true ∧ g100 b = b := by
  refine sat_hid (t := T100 b) (P := fun r => r = b) ?_
  obtain ⟨a1, a2, a3, a4, a5, a6, a7, a8, a9⟩ := roomB h1
  obtain ⟨b1, b2, b3, b4, b5, b6, b7, b8, b9⟩ := roomB h2
  unfold T100
  simp only [sat_ok', sat_leaf, y100_5, y100_4, y100_3, y100_2, y100_1, y100_0, eqN_self, same_s, sameR_s, Bool.and_true, true_and, (z_len).1, (z_len).2, a1, a4, a6, b2, b5, b6]
/-! A touch of any bus. -/
def tOk (k s a v : Int) (zs : List Int) (l : List GAccess) : Bool := goodB zs l && (inB k 1 3 && (inB a 0 65535 && (valB s v && (eqI k 2 || eqI v 0))))
def tR (k s a v : Int) (zs : List Int) (l : List GAccess) : GBus × Int × Int × Bool := bif tOk k s a v zs l then (⟨ri (tB k s a v zs), (tL k s a v zs l).map GAccess.row⟩, (bif eqI k 2 then 0 else tV k s a v zs), codeO k s a, true) else (⟨[], []⟩, 0, 0, false)
theorem tOk_of {k s a v : Int} {zs : List Int} {l : List GAccess} (h : tOk k s a v zs l = true) : TouchOk s v zs l ∧ inB a 0 65535 = true ∧ (eqI k 2 = false → v = 0) ∧ goodB zs l = true ∧ inB k 1 3 = true := by
  unfold tOk goodB at h
  simp only [Bool.and_eq_true, Bool.or_eq_true, eqI_iff, leI_iff] at h
  obtain ⟨⟨h1, h2, h3, h4⟩, h5, h6, h7, h8⟩ := h
  refine ⟨⟨?_, h7, by omega, h3, by omega⟩, h6, fun e => by rw [eqI_f] at e; omega, by unfold goodB; simp [h1, h2, h3, h4], h5⟩
  unfold valB at h7
  cases e1 : eqI s 1
  · cases e2 : eqI s 2
    · rw [e1, e2] at h7; simp at h7
    · exact Or.inr (eqI_iff.1 e2)
  · exact Or.inl (eqI_iff.1 e1)
theorem tB_len (k s a v : Int) (zs : List Int) : (tB k s a v zs).length = zs.length := by
  unfold tB
  cases eqI (codeO k s a) 0 && eqI k 2
  · rfl
  · rw [cond_true]
    match s.toNat with
    | 0 => rfl
    | 1 => simp [wk]
    | n + 2 => simp [wk]
theorem tL_len (k s a v : Int) (zs : List Int) (l : List GAccess) : (tL k s a v zs l).length ≤ l.length + 1 := by
  unfold tL
  cases ltI (l.length : Int) 400 && !(eqI k 3 && eqI (codeO k s a) 0)
  · simp
  · simp
end Go.Proofs.YtihfaondfmeglaaLogs

/- Logs: the plain law. -/
namespace Go.Proofs.YtihfaondfmeglaaLogs
open Go Go.Zq
set_option maxHeartbeats 4000000
set_option maxRecDepth 100000

theorem tch_s (k s a v : Int) (zs : List Int) (l : List GAccess) (hz : zs.length ≤ 512) (hl : l.length ≤ 1000) : k24 ⟨ri zs, l.map GAccess.row⟩ k s a v = true ∧ g24 ⟨ri zs, l.map GAccess.row⟩ k s a v = tR k s a v zs l := by
  refine sat_hid (t := T24 ⟨ri zs, l.map GAccess.row⟩ k s a v) (P := fun r => r = tR k s a v zs l) ?_
  obtain ⟨a1, a2⟩ := good_s (b := ⟨ri zs, l.map GAccess.row⟩) (zs := zs) (l := l) ⟨⟨zs, rfl⟩, ⟨l, rfl⟩, by simpa only [ri_len] using hz, by simpa using hl⟩ rfl rfl
  obtain ⟨o1, o2⟩ := own_s (b := ⟨ri zs, l.map GAccess.row⟩) (by simp only [ri_len]; omega) (by simp only [List.length_map]; omega)
  obtain ⟨e1, e2, e3, e4, e5, e6, e7, e8, e9⟩ := roomB (n := zs.length) (by omega)
  obtain ⟨f1, f2, f3, f4, f5, f6, f7, f8, f9⟩ := roomB (n := l.length) (by omega)
  have n2 : neI k 2 = !eqI k 2 := rfl
  have n0 : neI v 0 = !eqI v 0 := rfl
  have a3 : g25 ⟨ri zs, l.map GAccess.row⟩ = goodB zs l := a2
  unfold T24
  simp only [sat_ok', sat_br, sat_leaf, y24_9, y24_8, y24_7, y24_6, y24_5, y24_4, y24_3, y24_2, y24_1, y24_0, a1, a3, l1In_g, l1In_k, (word_s _).1, (word_s _).2, (val_s _ _).1, (val_s _ _).2, o1, o2, ri_len, List.length_map, e1, e3, e4, e6, f2, f3, f5, f6, n2, n0, eqN_self, sameR_s, same_s, Bool.and_true, Bool.true_or, true_and]
  have hc : (bif bif bif bif !(goodB zs l) then true else !(inB k 1 3) then true else !(valB s v) then true else !(inB a 0 65535) then true else bif !(eqI k 2) then !(eqI v 0) else false) = !tOk k s a v zs l := by
    unfold tOk
    cases goodB zs l <;> cases inB k 1 3 <;> cases inB a 0 65535 <;> cases valB s v <;> cases eqI k 2 <;> cases eqI v 0 <;> rfl
  rw [hc]
  unfold tR
  refine ⟨fun h => ?_, fun h => ?_⟩
  · rw [Bool.not_eq_true'] at h; rw [h]; rfl
  · rw [Bool.not_eq_false'] at h
    obtain ⟨q1, q2, q3, -⟩ := tOk_of h
    obtain ⟨p1, p2⟩ := touch_s (k := k) q1 q2
    have t1 := tB_len k s a v zs
    have t2 := tL_len k s a v zs l
    obtain ⟨u1, u2⟩ := own_s (b := ⟨ri (tB k s a v zs), (tL k s a v zs l).map GAccess.row⟩) (by simp only [ri_len]; omega) (by simp only [List.length_map]; omega)
    rw [p1, p2, h, u1, u2]
    exact ⟨rfl, rfl, rfl⟩
end Go.Proofs.YtihfaondfmeglaaLogs

/- Logs: the plain law. -/
namespace Go.Proofs.YtihfaondfmeglaaLogs
open Go Go.Zq
set_option maxHeartbeats 4000000
set_option maxRecDepth 100000

/-! Draws of buses and touches. -/
theorem amongC {B : Int} {c : Gl1Cur} (r : List Int) (h1 : CO B c) (h2 : B < 2500000000000000000) (h3 : 1 ≤ r.length) : k91 (ri r) c = true ∧ CO (B + 2) (g91 (ri r) c).1 := by
  obtain ⟨a, b, -⟩ := among_d (r := ri r) ⟨r, rfl⟩ (by rw [ri_len]; exact h3) h1 (by omega)
  exact ⟨a, b⟩
theorem addr_d {B : Int} {c : Gl1Cur} (h : CO B c) (hB : B < 2500000000000000000) : k79 c = true ∧ CO (B + 2) (g79 c).1 := by
  refine sat_hid (t := T79 c) (P := fun r => CO (B + 2) r.1) ?_
  obtain ⟨a1, a2⟩ := amongC [0, 1, 2, 100, 383, 384, 446, 447, 448, 494, 495, 496, 510, 511, 512, 65535, -1, 65536, 20, 30] h hB (by decide)
  unfold T79
  simp only [sat_ok', sat_leaf, Bool.and_true, true_and]
  exact ⟨a1, a2⟩
theorem tL_le {k s a v : Int} {zs : List Int} {l : List GAccess} (h : l.length ≤ 400) : (tL k s a v zs l).length ≤ 400 := by
  unfold tL
  cases hc : ltI (l.length : Int) 400
  · exact h
  · rw [ltI_iff] at hc
    cases eqI k 3 && eqI (codeO k s a) 0
    · simp; omega
    · exact h
theorem bus_loop (n : Nat) (c : Gl1Cur) (b : GBus) (ys : List Int) {B : Int} (h : CO B c) (hB : B + 10 * n < 1000000000000000000) (hn : n ≤ 100) (hy : ys.length = 512) : i72_0 (V72_0.mk c b ⟨ri ys, []⟩ (n : Int)) = true ∧ (CO (B + 10 * n) (w72_0 (V72_0.mk c b ⟨ri ys, []⟩ (n : Int))).b0 ∧ ∃ (zs : List Int) (l : List GAccess), (w72_0 (V72_0.mk c b ⟨ri ys, []⟩ (n : Int))).b2 = ⟨ri zs, l.map GAccess.row⟩ ∧ zs.length = 512 ∧ l.length ≤ 400) := by
  unfold i72_0 w72_0
  refine loop_w (Post := fun w : V72_0 => CO (B + 10 * n) w.b0 ∧ ∃ (zs : List Int) (l : List GAccess), w.b2 = ⟨ri zs, l.map GAccess.row⟩ ∧ zs.length = 512 ∧ l.length ≤ 400) (loop_sat (fun (m : Nat) (v : V72_0) => CO (B + 10 * (n - m)) v.b0 ∧ v.s5 = (m : Int) ∧ m ≤ n ∧ ∃ (zs : List Int) (l : List GAccess), v.b2 = ⟨ri zs, l.map GAccess.row⟩ ∧ zs.length = 512 ∧ l.length ≤ 400) _ ?_ 2097152 n _ ⟨h.mono (by omega), rfl, by omega, ys, [], rfl, hy, by decide⟩ (by omega))
  rintro m v ⟨h1, h2, h3, zs, l, h4, h5, h6⟩
  obtain ⟨p1, p2, -⟩ := pick_d 2 h1 (by omega)
  obtain ⟨q1, q2, -⟩ := pick_d 2 p2 (by omega)
  obtain ⟨r1, r2⟩ := addr_d q2 (by omega)
  have t := tch_s (addI 1 (g73 2 v.b0).2) (addI 1 (g73 2 (g73 2 v.b0).1).2) (g79 (g73 2 (g73 2 v.b0).1).1).2 0 zs l (by omega) (by omega)
  obtain ⟨t1, t2⟩ := t
  unfold N72_0
  simp only [sat_ok', sat_br, sat_leaf, y72_0_l_14, y72_0_l_13, y72_0_l_12, y72_0_l_11, y72_0_l_10, y72_0_l_9, y72_0_l_8, y72_0_l_7, y72_0_l_6, y72_0_l_5, y72_0_l_4, y72_0_l_3, y72_0_l_2, y72_0_l_1, y72_0_l_0, h2, h4, p1, q1, r1, t1, t2, eqN_self, sameR_s, same_s, gtI_iff, gtI_f, Bool.and_true, true_and]
  refine ⟨fun hm => ⟨fun ht => ⟨m - 1, by omega, r2.mono (by omega), ?_, by omega, ?_⟩, fun ht => ⟨m - 1, by omega, r2.mono (by omega), ?_, by omega, zs, l, rfl, h5, h6⟩⟩, fun hm => ⟨h1.mono (by omega), zs, l, rfl, h5, h6⟩⟩
  · rw [subI_eq (by omega)]; omega
  · unfold tR at ht ⊢
    cases ho : tOk (addI 1 (g73 2 v.b0).2) (addI 1 (g73 2 (g73 2 v.b0).1).2) (g79 (g73 2 (g73 2 v.b0).1).1).2 0 zs l
    · rw [ho] at ht; simp at ht
    · exact ⟨_, _, rfl, by rw [tB_len]; exact h5, tL_le h6⟩
  · rw [subI_eq (by omega)]; omega
/-- A drawn bus. -/
def BB (b : GBus) : Prop := ∃ (zs : List Int) (l : List GAccess), b = ⟨ri zs, l.map GAccess.row⟩ ∧ zs.length ≤ 512 ∧ l.length ≤ 400
theorem ri_take {zs : List Int} {n : Nat} : (ri zs).take n = ri (zs.take n) := by
  simp only [ri, List.map_take]
theorem bus_d {B : Int} {c : Gl1Cur} (h : CO B c) (hB : B < 100000000000000000) : k72 c = true ∧ (CO (B + 1000) (g72 c).1 ∧ BB (g72 c).2) := by
  refine sat_hid (t := T72 c) (P := fun r => CO (B + 1000) r.1 ∧ BB r.2) ?_
  obtain ⟨a1, a2, a3, a4, -⟩ := pick_d 40 h (by omega)
  have a4 := a4 (by omega)
  obtain ⟨m, hm⟩ : ∃ m : Nat, (g73 40 c).2 = (m : Int) := ⟨_, (Int.toNat_of_nonneg a3).symm⟩
  rw [hm] at a4
  obtain ⟨b1, b2, xs, b3, b4, b5⟩ := bytes4_d m _ a2 (by omega) (by omega)
  obtain ⟨d1, d2, d3, d4, -⟩ := pick_d 20 b2 (by omega)
  have d4 := d4 (by omega)
  obtain ⟨n, hn⟩ : ∃ n : Nat, (g73 20 (g82 (m : Int) (g73 40 c).1).1).2 = (n : Int) := ⟨_, (Int.toNat_of_nonneg d3).symm⟩
  rw [hn] at d4
  obtain ⟨e1, e2, ys, e3, e4, e5⟩ := bytes4_d n _ d2 (by omega) (by omega)
  obtain ⟨f1, ⟨zs, f2, f3⟩, f4⟩ := new_t xs ys (by omega) (by omega) b5 e5
  obtain ⟨g1, g2, g3, g4, -⟩ := pick_d 6 e2 (by omega)
  have g4 := g4 (by omega)
  obtain ⟨j, hj⟩ : ∃ j : Nat, (g73 6 (g82 (n : Int) (g73 20 (g82 (m : Int) (g73 40 c).1).1).1).1).2 = (j : Int) := ⟨_, (Int.toNat_of_nonneg g3).symm⟩
  rw [hj] at g4
  have fb : (g18 (ri xs) (ri ys)).1 = ⟨ri zs, []⟩ := by
    rw [← f2, ← f4]
  have y0 : y72_0 c = g82 (m : Int) (g73 40 c).1 := by unfold y72_0; rw [hm]
  have y1 : y72_1 c = g82 (n : Int) (g73 20 (g82 (m : Int) (g73 40 c).1).1).1 := by unfold y72_1; rw [y0, hn]
  obtain ⟨w1, w2, vs, l, w3, w4, w5⟩ := bus_loop j (g73 6 (g82 (n : Int) (g73 20 (g82 (m : Int) (g73 40 c).1).1).1).1).1 ⟨[], []⟩ zs g2 (by omega) (by omega) f3
  have y5 : y72_5 c = w72_0 (V72_0.mk (g73 6 (g82 (n : Int) (g73 20 (g82 (m : Int) (g73 40 c).1).1).1).1).1 ⟨[], []⟩ ⟨ri zs, []⟩ (j : Int)) := by
    unfold y72_5; rw [y1, y0, b3, e3, fb, hj]
  have y2 : y72_2 c = 512 := by unfold y72_2; rw [y0, y1, b3, e3, fb]; simpa [ri_len] using f3
  have y3 : y72_3 c = 0 := by unfold y72_3; rw [y0, y1, b3, e3, fb]; rfl
  obtain ⟨p1, p2, -⟩ := pick_d 40 w2 (by omega)
  rw [← y5] at w2 w3 p1 p2
  have tk : List.take vs.length vs = vs := List.take_length
  have tl : List.take l.length (l.map GAccess.row) = l.map GAccess.row := List.take_of_length_le (by simp)
  have ts : List.take vs.length (vs.set 3 256) = vs.set 3 256 := List.take_of_length_le (by simp)
  have l3 : ltI 3 (vs.length : Int) = true := by simp [w4]
  have l5 : leI 500 (vs.length : Int) = true := by simp [w4]
  have b3' : blt 3 vs.length = true := by simp [w4]
  have l5' : leN 500 vs.length = true := by simp [w4]
  have r3 : beqN (rlen (ri vs) 3) 1 = true := by rw [ri_rlen (by omega)]; rfl
  have t5 : eqN 500 (List.take 500 vs).length = true := by simp [w4]
  have z0 : eqN 512 512 = true := rfl
  have z1 : leN (0 + vs.length) vs.length = true := by simp
  have z2 : leN (0 + l.length) l.length = true := by simp
  unfold T72
  simp only [sat_ok', sat_br, sat_leaf, a1, hm, y0, y1, b1, b3, d1, e1, hn, e3, f1, g1, hj, fb, w1, y72_4, y2, y3, p1, eqN_self, Bool.and_true, true_and]
  simp only [y72_14, y72_13, y72_12, y72_11, y72_10, y72_9, y72_8, y72_7, y72_6, w3, l3, l5, b3', l5', r3, t5, z0, z1, z2, lenI_eq, ri_len, ri_set, ri_take, tk, tl, ts, List.length_set, List.length_map, eqN_self, Bool.and_true, true_and]
  refine ⟨fun _ => ⟨p2.mono (by omega), _, l, rfl, by rw [List.length_set]; omega, w5⟩, fun _ => ⟨fun _ => ⟨p2.mono (by omega), _, l, rfl, by rw [List.length_take]; omega, w5⟩, fun _ => ⟨p2.mono (by omega), vs, l, rfl, by omega, w5⟩⟩⟩
end Go.Proofs.YtihfaondfmeglaaLogs

/- Logs: the plain law. -/
namespace Go.Proofs.YtihfaondfmeglaaLogs
open Go Go.Zq
set_option maxHeartbeats 4000000
set_option maxRecDepth 100000

theorem eqS_loop (xs ys : List Int) (hl : xs.length < 1000000) (he : xs.length = ys.length) : i80_0 (V80_0.mk (ri xs) (ri ys) (lenI (ri xs)) 0) = true ∧ (ltI (w80_0 (V80_0.mk (ri xs) (ri ys) (lenI (ri xs)) 0)).s13 (w80_0 (V80_0.mk (ri xs) (ri ys) (lenI (ri xs)) 0)).s12 = !decide (xs = ys)) := by
  unfold i80_0 w80_0
  refine loop_w (Post := fun w => ltI w.s13 w.s12 = !decide (xs = ys)) (loop_sat (fun n v => ∃ i : Nat, v = V80_0.mk (ri xs) (ri ys) (lenI (ri xs)) i ∧ i ≤ xs.length ∧ n = xs.length - i ∧ ∀ j (hj : j < xs.length), j < i → xs[j] = ys[j]) _ ?_ 2097152 xs.length _ ⟨0, rfl, by omega, by omega, fun j _ h => absurd h (by omega)⟩ (by omega))
  rintro n v ⟨i, rfl, hi, rfl, hall⟩
  unfold N80_0
  simp only [sat_ok', sat_br, sat_leaf, lenI_eq, ri_len, ltI_iff, ltI_f, true_and, Int.toNat_natCast]
  constructor
  · intro h
    have hi' : i < xs.length := by omega
    have hy' : i < ys.length := by omega
    rw [ri_inr hi', ri_int hi', ri_inr hy', ri_int hy']
    refine ⟨rfl, fun hz => ?_, fun hz => ?_⟩
    · have : xs ≠ ys := fun e => by subst e; simp at hz
      rw [decide_eq_false this]
      simpa [ltI] using h
    · refine ⟨_, ?_, i + 1, ?_, by omega, rfl, ?_⟩
      · omega
      · rw [addI_eq (by omega)]; rfl
      · intro j hj hji
        by_cases e : j = i
        · subst e; simpa using hz
        · exact hall j hj (by omega)
  · intro h
    rw [decide_eq_true (List.ext_getElem he fun j h1 h2 => hall j h1 (by omega))]
    simpa [ltI] using h
theorem eqS_t (xs ys : List Int) (hl : xs.length < 1000000) : k80 (ri xs) (ri ys) = true ∧ g80 (ri xs) (ri ys) = decide (xs = ys) := by
  unfold k80 g80 T80 y80_0
  rw [hid_eq, hid_eq]
  by_cases he : xs.length = ys.length
  · obtain ⟨h1, h2⟩ := eqS_loop xs ys hl he
    have e : neI (lenI (ri xs)) (lenI (ri ys)) = false := by simp [he, ri_len]
    simp only [okv_ok, okv_br, okv_leaf, val_ok, val_br, val_leaf, h1, h2, e, Bool.true_and, cond_false]
    cases decide (xs = ys) <;> exact ⟨rfl, rfl⟩
  · have e : neI (lenI (ri xs)) (lenI (ri ys)) = true := by simp [ri_len]; omega
    have : xs ≠ ys := fun e => he (by rw [e])
    simp only [okv_ok, okv_br, okv_leaf, val_ok, val_br, val_leaf, e, decide_eq_false this, Bool.true_and, cond_true, and_self]
theorem l1S_loop (xs ys : List Int) (hl : xs.length < 1000000) (he : xs.length = ys.length) : i81_0 (V81_0.mk (ri xs) (ri ys) (lenI (ri xs)) 0) = true ∧ (ltI (w81_0 (V81_0.mk (ri xs) (ri ys) (lenI (ri xs)) 0)).s13 (w81_0 (V81_0.mk (ri xs) (ri ys) (lenI (ri xs)) 0)).s12 = !decide (xs = ys)) := by
  unfold i81_0 w81_0
  refine loop_w (Post := fun w => ltI w.s13 w.s12 = !decide (xs = ys)) (loop_sat (fun n v => ∃ i : Nat, v = V81_0.mk (ri xs) (ri ys) (lenI (ri xs)) i ∧ i ≤ xs.length ∧ n = xs.length - i ∧ ∀ j (hj : j < xs.length), j < i → xs[j] = ys[j]) _ ?_ 2097152 xs.length _ ⟨0, rfl, by omega, by omega, fun j _ h => absurd h (by omega)⟩ (by omega))
  rintro n v ⟨i, rfl, hi, rfl, hall⟩
  unfold N81_0
  simp only [sat_ok', sat_br, sat_leaf, lenI_eq, ri_len, ltI_iff, ltI_f, true_and, Int.toNat_natCast]
  constructor
  · intro h
    have hi' : i < xs.length := by omega
    have hy' : i < ys.length := by omega
    rw [ri_inr hi', ri_int hi', ri_inr hy', ri_int hy']
    refine ⟨rfl, fun hz => ?_, fun hz => ?_⟩
    · have : xs ≠ ys := fun e => by subst e; simp at hz
      rw [decide_eq_false this]
      simpa [ltI] using h
    · refine ⟨_, ?_, i + 1, ?_, by omega, rfl, ?_⟩
      · omega
      · rw [addI_eq (by omega)]; rfl
      · intro j hj hji
        by_cases e : j = i
        · subst e; simpa using hz
        · exact hall j hj (by omega)
  · intro h
    rw [decide_eq_true (List.ext_getElem he fun j h1 h2 => hall j h1 (by omega))]
    simpa [ltI] using h
theorem l1S_t (xs ys : List Int) (hl : xs.length < 1000000) : k81 (ri xs) (ri ys) = true ∧ g81 (ri xs) (ri ys) = decide (xs = ys) := by
  unfold k81 g81 T81 y81_0
  rw [hid_eq, hid_eq]
  by_cases he : xs.length = ys.length
  · obtain ⟨h1, h2⟩ := l1S_loop xs ys hl he
    have e : neI (lenI (ri xs)) (lenI (ri ys)) = false := by simp [he, ri_len]
    simp only [okv_ok, okv_br, okv_leaf, val_ok, val_br, val_leaf, h1, h2, e, Bool.true_and, cond_false]
    cases decide (xs = ys) <;> exact ⟨rfl, rfl⟩
  · have e : neI (lenI (ri xs)) (lenI (ri ys)) = true := by simp [ri_len]; omega
    have : xs ≠ ys := fun e => he (by rw [e])
    simp only [okv_ok, okv_br, okv_leaf, val_ok, val_br, val_leaf, e, decide_eq_false this, Bool.true_and, cond_true, and_self]
theorem sameA_s (l : List GAccess) (hl : l.length < 1000000) : k12 (l.map GAccess.row) (l.map GAccess.row) = true ∧ g12 (l.map GAccess.row) (l.map GAccess.row) = true := by
  refine sat_hid (t := T12 (l.map GAccess.row) (l.map GAccess.row)) (P := fun r => r = true) ?_
  obtain ⟨a1, a2⟩ := loop_st (N := N12_0) (fun i => V12_0.mk (l.map GAccess.row) (l.map GAccess.row) (l.length : Int) i) l.length hl (fun i hi => by
    obtain ⟨p1, -⟩ := acc_in hi
    have p4 : addI ((i : Nat) : Int) 1 = ((i + 1 : Nat) : Int) := by rw [addI_eq (by omega)]; omega
    have p3 : ltI ((i : Nat) : Int) (l.length : Int) = true := by rw [ltI_iff]; omega
    have eI : ∀ x, eqI x x = true := fun x => by simp
    unfold N12_0
    simp only [sat_ok', sat_br, sat_leaf, p1, p3, p4, eI, Bool.not_true, Bool.and_true, true_and, Bool.true_eq_false, Bool.false_eq_true, false_implies, implies_true, forall_const, and_true]) (by
    have p3 : ltI (l.length : Int) (l.length : Int) = false := by simp
    unfold N12_0
    simp only [sat_ok', sat_br, sat_leaf, p3, true_and, Bool.false_eq_true, false_implies, implies_true])
  have b1 : i12_0 (V12_0.mk (l.map GAccess.row) (l.map GAccess.row) (l.length : Int) 0) = true := a1
  have b2 : w12_0 (V12_0.mk (l.map GAccess.row) (l.map GAccess.row) (l.length : Int) 0) = V12_0.mk (l.map GAccess.row) (l.map GAccess.row) (l.length : Int) l.length := a2
  have e1 : ∀ x, neI x x = false := fun x => by simp
  have e2 : ∀ x, ltI x x = false := fun x => by simp
  unfold T12
  simp only [sat_ok', sat_br, sat_leaf, y12_0, lenI_eq, List.length_map, b1, b2, e1, e2, true_and, Bool.false_eq_true, false_implies, implies_true, forall_const]
def memR (zs ys : List Int) (l m : List GAccess) : Bool × Bool := bif goodB zs l && goodB ys m then (decide (zs = ys), true) else (false, false)
theorem memo_i (zs ys : List Int) (l m : List GAccess) (hz : zs.length ≤ 512) (hy : ys.length ≤ 512) (hl : l.length ≤ 1000) (hm : m.length ≤ 1000) : k14 ⟨ri zs, l.map GAccess.row⟩ ⟨ri ys, m.map GAccess.row⟩ = true ∧ g14 ⟨ri zs, l.map GAccess.row⟩ ⟨ri ys, m.map GAccess.row⟩ = memR zs ys l m := by
  refine sat_hid (t := T14 ⟨ri zs, l.map GAccess.row⟩ ⟨ri ys, m.map GAccess.row⟩) (P := fun r => r = memR zs ys l m) ?_
  obtain ⟨a1, a2⟩ := good_i zs l (by omega) (by omega)
  obtain ⟨b1, b2⟩ := good_i ys m (by omega) (by omega)
  obtain ⟨c1, c2⟩ := eqS_t zs ys (by omega)
  unfold T14 memR
  simp only [sat_ok', sat_br, sat_leaf, a1, a2, b1, b2, c1, c2, Bool.and_true, Bool.true_or, true_and]
  cases goodB zs l <;> cases goodB ys m <;> simp
theorem memo_s (zs ys : List Int) (l m : List GAccess) (hz : zs.length ≤ 512) (hy : ys.length ≤ 512) (hl : l.length ≤ 1000) (hm : m.length ≤ 1000) : k15 ⟨ri zs, l.map GAccess.row⟩ ⟨ri ys, m.map GAccess.row⟩ = true ∧ g15 ⟨ri zs, l.map GAccess.row⟩ ⟨ri ys, m.map GAccess.row⟩ = memR zs ys l m := by
  refine sat_hid (t := T15 ⟨ri zs, l.map GAccess.row⟩ ⟨ri ys, m.map GAccess.row⟩) (P := fun r => r = memR zs ys l m) ?_
  have G : ∀ (zs : List Int) (l : List GAccess), zs.length ≤ 512 → l.length ≤ 1000 → k25v1 ⟨ri zs, l.map GAccess.row⟩ = true ∧ g25v1 ⟨ri zs, l.map GAccess.row⟩ = goodB zs l := fun zs l hz hl => good_sv1 (b := ⟨ri zs, l.map GAccess.row⟩) (zs := zs) (l := l) ⟨⟨zs, rfl⟩, ⟨l, rfl⟩, by simpa only [ri_len] using hz, by simpa using hl⟩ rfl rfl
  obtain ⟨a1, a2⟩ := G zs l hz hl
  obtain ⟨b1, b2⟩ := G ys m hy hm
  obtain ⟨c1, c2⟩ := l1S_t zs ys (by omega)
  unfold T15 memR
  simp only [sat_ok', sat_br, sat_leaf, a1, a2, b1, b2, c1, c2, Bool.and_true, Bool.true_or, true_and]
  cases goodB zs l <;> cases goodB ys m <;> simp
end Go.Proofs.YtihfaondfmeglaaLogs

/- Logs: the plain law. -/
namespace Go.Proofs.YtihfaondfmeglaaLogs
open Go Go.Zq
set_option maxHeartbeats 4000000
set_option maxRecDepth 100000

/-! New buses, alike. -/
def zs0 (n : Nat) : List Int := List.replicate n 0
def putA (xs : List Int) (i : Nat) : List Int := xs.take i ++ List.replicate (512 - i) 0
def putB (A ys : List Int) (i : Nat) : List Int := A.take 384 ++ (ys.take i ++ A.drop (384 + i))
theorem putA_len {xs : List Int} {i : Nat} (h : i ≤ xs.length) (hx : xs.length ≤ 384) : (putA xs i).length = 512 := by
  simp [putA]; omega
theorem putA_succ {xs : List Int} {i : Nat} (h : i < xs.length) (hx : xs.length ≤ 384) : (putA xs i).set i xs[i] = putA xs (i + 1) := by
  unfold putA
  have e : 512 - i = (512 - (i + 1)) + 1 := by omega
  have l : (xs.take i).length = i := by simp; omega
  rw [e, List.replicate_succ, List.set_append_right _ _ (by omega), l, Nat.sub_self, List.set_cons_zero, List.take_succ_eq_append_getElem h, List.append_assoc, List.singleton_append]
theorem putB_succ {A ys : List Int} {i : Nat} (hA : A.length = 512) (h : i < ys.length) (hy : ys.length ≤ 64) : (putB A ys i).set (384 + i) ys[i] = putB A ys (i + 1) := by
  unfold putB
  have l1 : (A.take 384).length = 384 := by simp; omega
  have l2 : (ys.take i).length = i := by simp; omega
  rw [List.set_append_right _ _ (by omega), l1, show 384 + i - 384 = i from by omega, List.set_append_right _ _ (by omega), l2, Nat.sub_self, List.take_succ_eq_append_getElem h, List.drop_eq_getElem_cons (show 384 + i < A.length by omega), List.set_cons_zero, show 384 + (i + 1) = 384 + i + 1 from rfl, List.append_assoc, List.singleton_append]
end Go.Proofs.YtihfaondfmeglaaLogs

/- Logs: the plain law. -/
namespace Go.Proofs.YtihfaondfmeglaaLogs
open Go Go.Zq
set_option maxHeartbeats 4000000
set_option maxRecDepth 100000

theorem newA (xs ys : List Int) (hx : xs.length ≤ 384) : i18v1_0 (V18v1_0.mk ⟨[], []⟩ ⟨ri (putA xs 0), []⟩ (ri ys) (ri xs) (xs.length : Int) 0) = true ∧ w18v1_0 (V18v1_0.mk ⟨[], []⟩ ⟨ri (putA xs 0), []⟩ (ri ys) (ri xs) (xs.length : Int) 0) = V18v1_0.mk ⟨[], []⟩ ⟨ri (putA xs xs.length), []⟩ (ri ys) (ri xs) (xs.length : Int) (xs.length : Int) := by
  refine loop_st (N := N18v1_0) (fun i => V18v1_0.mk ⟨[], []⟩ ⟨ri (putA xs i), []⟩ (ri ys) (ri xs) (xs.length : Int) (i : Int)) xs.length (by omega) (fun i hi => ?_) ?_
  · have hl := putA_len (xs := xs) (i := i) (by omega) hx
    have hl2 := putA_len (xs := xs) (i := i + 1) (by omega) hx
    have l1 : ltI (i : Int) (xs.length : Int) = true := by rw [ltI_iff]; omega
    have l2 : ltI (i : Int) ((512 : Nat) : Int) = true := by rw [ltI_iff]; omega
    have l3 : leI 0 (i : Int) = true := by simp
    have a1 : addI (i : Int) 1 = ((i + 1 : Nat) : Int) := by rw [addI_eq (by omega)]; omega
    have b1 : blt i 512 = true := by simp; omega
    have b2 : beqN (rlen (ri (putA xs i)) i) 1 = true := by rw [ri_rlen (by omega)]; rfl
    unfold N18v1_0
    simp only [sat_ok', sat_br, sat_leaf, y18v1_0_l_5, y18v1_0_l_4, y18v1_0_l_3, y18v1_0_l_2, y18v1_0_l_1, y18v1_0_l_0, lenI_eq, ri_len, hl, hl2, ri_set, List.length_set, List.length_nil, ri_inr hi, ri_int hi, Int.toNat_natCast, Nat.zero_add, putA_succ hi hx, l1, l2, l3, a1, b1, b2, eqN_self, Bool.and_true, true_and, Bool.true_eq_false, false_implies, and_true, forall_const]
  · have l1 : ltI (xs.length : Int) (xs.length : Int) = false := by simp
    unfold N18v1_0
    simp only [sat_ok', sat_br, sat_leaf, l1, true_and, Bool.false_eq_true, false_implies, implies_true]
end Go.Proofs.YtihfaondfmeglaaLogs

/- Logs: the plain law. -/
namespace Go.Proofs.YtihfaondfmeglaaLogs
open Go Go.Zq
set_option maxHeartbeats 4000000
set_option maxRecDepth 100000

theorem putB_len {A ys : List Int} {i : Nat} (hA : A.length = 512) (h : i ≤ ys.length) (hy : ys.length ≤ 64) : (putB A ys i).length = 512 := by
  simp [putB]; omega
theorem newB (A ys : List Int) (hA : A.length = 512) (hy : ys.length ≤ 64) : i18v1_1 (V18v1_1.mk ⟨[], []⟩ ⟨ri (putB A ys 0), []⟩ (ri ys) (ys.length : Int) 0) = true ∧ w18v1_1 (V18v1_1.mk ⟨[], []⟩ ⟨ri (putB A ys 0), []⟩ (ri ys) (ys.length : Int) 0) = V18v1_1.mk ⟨[], []⟩ ⟨ri (putB A ys ys.length), []⟩ (ri ys) (ys.length : Int) (ys.length : Int) := by
  refine loop_st (N := N18v1_1) (fun i => V18v1_1.mk ⟨[], []⟩ ⟨ri (putB A ys i), []⟩ (ri ys) (ys.length : Int) (i : Int)) ys.length (by omega) (fun i hi => ?_) ?_
  · have hl := putB_len (A := A) (ys := ys) (i := i) hA (by omega) hy
    have hl2 := putB_len (A := A) (ys := ys) (i := i + 1) hA (by omega) hy
    have l1 : ltI (i : Int) (ys.length : Int) = true := by rw [ltI_iff]; omega
    have a1 : addI (i : Int) 1 = ((i + 1 : Nat) : Int) := by rw [addI_eq (by omega)]; omega
    have a2 : addI 384 (i : Int) = ((384 + i : Nat) : Int) := by rw [addI_eq (by omega)]; omega
    have l2 : ltI ((384 + i : Nat) : Int) ((512 : Nat) : Int) = true := by rw [ltI_iff]; omega
    have l3 : leI 0 ((384 + i : Nat) : Int) = true := by rw [leI_iff]; omega
    have b1 : blt (384 + i) 512 = true := by simp; omega
    have b2 : beqN (rlen (ri (putB A ys i)) (384 + i)) 1 = true := by rw [ri_rlen (by omega)]; rfl
    unfold N18v1_1
    simp only [sat_ok', sat_br, sat_leaf, y18v1_1_l_5, y18v1_1_l_4, y18v1_1_l_3, y18v1_1_l_2, y18v1_1_l_1, y18v1_1_l_0, lenI_eq, ri_len, hl, hl2, ri_set, List.length_set, List.length_nil, ri_inr hi, ri_int hi, a2, Int.toNat_natCast, Nat.zero_add, putB_succ hA hi hy, l1, l2, l3, a1, b1, b2, eqN_self, Bool.and_true, true_and, Bool.true_eq_false, false_implies, and_true, forall_const]
  · have l1 : ltI (ys.length : Int) (ys.length : Int) = false := by simp
    unfold N18v1_1
    simp only [sat_ok', sat_br, sat_leaf, l1, true_and, Bool.false_eq_true, false_implies, implies_true]
end Go.Proofs.YtihfaondfmeglaaLogs

/- Logs: the plain law. -/
namespace Go.Proofs.YtihfaondfmeglaaLogs
open Go Go.Zq
set_option maxHeartbeats 4000000
set_option maxRecDepth 100000

def newR (xs ys : List Int) : GBus × Bool := bif bytesB xs && (bytesB ys && (leI (xs.length : Int) 384 && leI (ys.length : Int) 64)) then (⟨ri (putB (putA xs xs.length) ys ys.length), []⟩, true) else (⟨[], []⟩, false)
theorem gt_le (a b : Int) : gtI a b = !leI a b := by
  cases h : leI a b
  · rw [leI_f] at h; exact gtI_iff.2 h
  · rw [leI_iff] at h; exact gtI_f.2 h
theorem new_s (xs ys : List Int) (hx : xs.length < 1000000) (hy : ys.length < 1000000) : k18v1 (ri xs) (ri ys) = true ∧ g18v1 (ri xs) (ri ys) = newR xs ys := by
  refine sat_hid (t := T18v1 (ri xs) (ri ys)) (P := fun r => r = newR xs ys) ?_
  obtain ⟨a1, a2⟩ := l4Bytes_tv1 xs hx
  obtain ⟨b1, b2⟩ := l4Bytes_tv1 ys hy
  unfold T18v1
  have hc : (bif (bif (bif (!(bytesB xs)) then true else (!(bytesB ys))) then true else (gtI (xs.length : Int) 384)) then true else (gtI (ys.length : Int) 64)) = !(bytesB xs && (bytesB ys && (leI (xs.length : Int) 384 && leI (ys.length : Int) 64))) := by
    rw [gt_le, gt_le]
    cases bytesB xs <;> cases bytesB ys <;> cases leI (xs.length : Int) 384 <;> cases leI (ys.length : Int) 64 <;> rfl
  unfold newR
  cases hg : bytesB xs && (bytesB ys && (leI (xs.length : Int) 384 && leI (ys.length : Int) 64))
  · simp only [sat_ok', sat_br, sat_leaf, a1, a2, b1, b2, lenI_eq, ri_len, hc, hg, Bool.not_false, cond_false, Bool.and_true, Bool.true_or, true_and, Bool.true_eq_false, false_implies, forall_const, and_true]
  · have hg' := hg
    simp only [Bool.and_eq_true, leI_iff] at hg'
    obtain ⟨g1, g2, g3, g4⟩ := hg'
    obtain ⟨c1, c2⟩ := newA xs ys (by omega)
    have hA := putA_len (xs := xs) (i := xs.length) (Nat.le_refl _) (by omega)
    obtain ⟨d1, d2⟩ := newB (putA xs xs.length) ys hA (by omega)
    have e0 : List.replicate 512 (rowI 0) = ri (putA xs 0) := by simp [putA, ri, List.map_replicate, rowI]
    have e1 : putB (putA xs xs.length) ys 0 = putA xs xs.length := by simp [putB]
    rw [e1] at d1 d2
    simp only [sat_ok', sat_br, sat_leaf, y18v1_8, y18v1_7, y18v1_6, y18v1_5, y18v1_4, y18v1_3, y18v1_2, y18v1_1, y18v1_0, e0, a1, a2, b1, b2, c1, c2, d1, d2, lenI_eq, ri_len, hc, hg, eqN_self, Bool.not_true, cond_true, Bool.and_true, Bool.true_or, true_and, Bool.false_eq_true, false_implies, forall_const]
end Go.Proofs.YtihfaondfmeglaaLogs

/- Logs: the plain law. -/
namespace Go.Proofs.YtihfaondfmeglaaLogs
open Go Go.Zq
set_option maxHeartbeats 4000000
set_option maxRecDepth 100000

theorem byteA_g (x : Int) : g148 x = !inB x 0 255 := by
  simp [g148, hid_eq, T148]
theorem byteA_k (x : Int) : k148 x = true := by
  simp [k148, hid_eq, T148]
theorem idxV_loop (zs : List Int) (hl : zs.length < 1000000) : i149v1_0 (V149v1_0.mk (ri zs) (lenI (ri zs)) 0) = true ∧ 0 ≤ (w149v1_0 (V149v1_0.mk (ri zs) (lenI (ri zs)) 0)).s8 ∧ (ltI (w149v1_0 (V149v1_0.mk (ri zs) (lenI (ri zs)) 0)).s8 (w149v1_0 (V149v1_0.mk (ri zs) (lenI (ri zs)) 0)).s7 = !bytesB zs) := by
  unfold i149v1_0 w149v1_0
  refine loop_w (Post := fun w => 0 ≤ w.s8 ∧ ltI w.s8 w.s7 = !bytesB zs) (loop_sat (fun n v => ∃ i : Nat, v = V149v1_0.mk (ri zs) (lenI (ri zs)) i ∧ i ≤ zs.length ∧ n = zs.length - i ∧ ∀ j (hj : j < zs.length), j < i → inB zs[j] 0 255 = true) _ ?_ 2097152 zs.length _ ⟨0, rfl, by omega, by omega, fun j _ h => absurd h (by omega)⟩ (by omega))
  rintro n v ⟨i, rfl, hi, rfl, hall⟩
  unfold N149v1_0
  simp only [sat_ok', sat_br, sat_leaf, lenI_eq, ri_len, ltI_iff, ltI_f, true_and, Int.toNat_natCast]
  constructor
  · intro h
    have hi' : i < zs.length := by omega
    rw [ri_inr hi', ri_int hi', byteA_k, byteA_g]
    refine ⟨rfl, fun hz => ?_, fun hz => ?_⟩
    · rw [bytesB_f hi' (by simpa using hz)]
      exact ⟨by omega, by simpa [ltI] using h⟩
    · refine ⟨_, ?_, i + 1, ?_, by omega, rfl, ?_⟩
      · omega
      · rw [addI_eq (by omega)]; rfl
      · intro j hj hji
        by_cases e : j = i
        · subst e; simpa using hz
        · exact hall j hj (by omega)
  · intro h
    rw [bytesB_t fun j hj => hall j hj (by omega)]
    exact ⟨by omega, by simpa [ltI] using h⟩
theorem areBytes_t (zs : List Int) (n : Int) (hl : zs.length < 1000000) : k84 (ri zs) n = true ∧ g84 (ri zs) n = (decide ((zs.length : Int) ≤ n) && bytesB zs) := by
  obtain ⟨h1, h2, h3⟩ := idxV_loop zs hl
  have a : k149v1 (ri zs) = true ∧ geI (g149v1 (ri zs)) 0 = !bytesB zs := by
    unfold k149v1 g149v1 T149v1 y149v1_0
    rw [hid_eq, hid_eq]
    simp only [okv_ok, okv_br, okv_leaf, val_ok, val_br, val_leaf, h1, h3, Bool.true_and]
    cases bytesB zs
    · exact ⟨rfl, by simpa using h2⟩
    · exact ⟨rfl, rfl⟩
  have b : k86v1 (ri zs) = true ∧ g86v1 (ri zs) = !bytesB zs := by
    unfold k86v1 g86v1 T86v1
    rw [hid_eq, hid_eq]
    simp only [okv_ok, okv_leaf, val_ok, val_leaf, a.1, a.2, Bool.true_and, and_self]
  unfold k84 g84 T84
  rw [hid_eq, hid_eq]
  simp only [okv_ok, okv_leaf, val_ok, val_leaf, b.1, b.2, lenI_eq, ri_len, leI, Bool.true_and, Bool.true_or, Bool.and_true, Bool.not_not, true_and]
  cases decide ((zs.length : Int) ≤ n) <;> rfl
theorem new_i (xs ys : List Int) (hx : xs.length < 1000000) (hy : ys.length < 1000000) : k17 (ri xs) (ri ys) = true ∧ g17 (ri xs) (ri ys) = newR xs ys := by
  refine sat_hid (t := T17 (ri xs) (ri ys)) (P := fun r => r = newR xs ys) ?_
  obtain ⟨a1, a2⟩ := areBytes_t xs 384 hx
  obtain ⟨b1, b2⟩ := areBytes_t ys 64 hy
  have hc : (bif (!(decide ((xs.length : Int) ≤ 384) && bytesB xs)) then true else (!(decide ((ys.length : Int) ≤ 64) && bytesB ys))) = !(bytesB xs && (bytesB ys && (leI (xs.length : Int) 384 && leI (ys.length : Int) 64))) := by
    unfold leI
    cases bytesB xs <;> cases bytesB ys <;> cases decide ((xs.length : Int) ≤ 384) <;> cases decide ((ys.length : Int) ≤ 64) <;> rfl
  unfold T17 newR
  cases hg : bytesB xs && (bytesB ys && (leI (xs.length : Int) 384 && leI (ys.length : Int) 64))
  · simp only [sat_ok', sat_br, sat_leaf, a1, a2, b1, b2, hc, hg, Bool.not_false, cond_false, Bool.and_true, Bool.true_or, true_and, Bool.true_eq_false, false_implies, forall_const, and_true]
  · have hg' := hg
    simp only [Bool.and_eq_true, leI_iff] at hg'
    obtain ⟨g1, g2, g3, g4⟩ := hg'
    have e0 : List.replicate 512 (rowI 0) = ri (List.replicate 512 0) := by simp [ri, List.map_replicate, rowI]
    have y0 : y17_0 (ri xs) = ri (putA xs xs.length) := by
      unfold y17_0 putA
      rw [e0, ri_len, minN_eq, Nat.min_eq_left (by omega), Nat.zero_add, List.take_of_length_le (by rw [ri_len]; omega), List.take_length]
      simp only [ri, ← List.map_drop, ← List.map_append, List.drop_replicate]
    have hA := putA_len (xs := xs) (i := xs.length) (Nat.le_refl _) (by omega)
    have y2 : y17_2 (ri xs) (ri ys) = ri (putB (putA xs xs.length) ys ys.length) := by
      unfold y17_2 putB
      rw [y0, ri_len, minN_eq, Nat.min_eq_left (by omega), List.take_of_length_le (l := ri ys) (by rw [ri_len]; omega), List.take_length]
      simp only [ri, ← List.map_drop, ← List.map_take, ← List.map_append]
    have hB := putB_len (A := putA xs xs.length) (ys := ys) (i := ys.length) hA (Nat.le_refl _) (by omega)
    have tk : List.take 512 (ri (putB (putA xs xs.length) ys ys.length)) = ri (putB (putA xs xs.length) ys ys.length) := List.take_of_length_le (by rw [ri_len, hB]; exact Nat.le_refl _)
    have z0 : leN 512 512 = true := rfl
    have z1 : eqN 512 512 = true := rfl
    simp only [sat_ok', sat_br, sat_leaf, y17_1, y17_3, y0, y2, tk, a1, a2, b1, b2, hc, hg, ri_len, hA, hB, z0, z1, Bool.not_true, cond_true, Bool.and_true, Bool.true_or, true_and, Bool.false_eq_true, false_implies, forall_const]
end Go.Proofs.YtihfaondfmeglaaLogs

/- Logs: the plain law. -/
namespace Go.Proofs.YtihfaondfmeglaaLogs
open Go Go.Zq
set_option maxHeartbeats 4000000
set_option maxRecDepth 100000

/-! What is drawn. -/
theorem dlog_d {x : List Row} (h : bytesOk x = true) : k9 x = true ∧ BB (g9 x).1 := by
  refine sat_hid (t := T9 x) (P := fun r => BB r.1) ?_
  have h0 : CO 0 (Gl1Cur.mk x 0 0) := ⟨h, Int.le_refl 0, Int.le_refl 0⟩
  obtain ⟨a1, a2, a3⟩ := bus_d h0 (by decide)
  obtain ⟨b1, b2, -⟩ := pick_d 5 a2 (by decide)
  unfold T9
  simp only [sat_ok', sat_leaf, y9_2, y9_1, y9_0, a1, b1, eqN_self, Bool.and_true, true_and]
  exact a3
def NN (r : List Row) : Prop := ∃ zs : List Int, r = ri zs ∧ zs.length ≤ 2000
theorem nn_take {r : List Row} {n : Nat} (h : NN r) : NN (r.take n) := by
  obtain ⟨zs, rfl, h1⟩ := h
  exact ⟨zs.take n, ri_take, by rw [List.length_take]; omega⟩
theorem nn_rep {n : Nat} (h : n ≤ 2000) : NN (List.replicate n (rowI 0)) := ⟨List.replicate n 0, by simp [ri, List.map_replicate, rowI], by simpa using h⟩
theorem nat_of {z : Int} (h : 0 ≤ z) : ∃ m : Nat, z = (m : Int) := ⟨_, (Int.toNat_of_nonneg h).symm⟩
theorem by4_d {z : Int} {c : Gl1Cur} {B : Int} (h : CO B c) (hB : B < 100000000000000000) (h0 : 0 ≤ z) (h1 : z ≤ 1000) : k82 z c = true ∧ CO (B + 4000) (g82 z c).1 ∧ NN (g82 z c).2 := by
  obtain ⟨m, rfl⟩ := nat_of h0
  obtain ⟨b1, b2, xs, b3, b4, b5⟩ := bytes4_d m c h (by omega) (by omega)
  exact ⟨b1, b2.mono (by omega), xs, b3, by omega⟩
theorem len_take {r : List Row} : (List.take r.length r).length = r.length := by rw [List.take_length]
theorem dnew_d {x : List Row} (h : bytesOk x = true) : k16 x = true ∧ (NN (g16 x).1 ∧ NN (g16 x).2) := by
  refine sat_hid (t := T16 x) (P := fun r => NN r.1 ∧ NN r.2) ?_
  have h0 : CO 0 (Gl1Cur.mk x 0 0) := ⟨h, Int.le_refl 0, Int.le_refl 0⟩
  obtain ⟨a1, a2, a3, a4, -⟩ := pick_d 20 h0 (by decide)
  have a4 := a4 (by omega)
  obtain ⟨b1, b2, b3⟩ := by4_d a2 (by decide) a3 (by omega)
  obtain ⟨c1, c2⟩ := one_d 20 b2 (by decide)
  obtain ⟨d1, d2, d3, d4, -⟩ := pick_d 2 c2 (by decide)
  have d4 := d4 (by omega)
  obtain ⟨e1, e2, e3, e4, -⟩ := pick_d 66 d2 (by decide)
  have e4 := e4 (by omega)
  obtain ⟨f1, f2, f3⟩ := by4_d e2 (by decide) e3 (by omega)
  obtain ⟨i1, i2, i3, i4, -⟩ := pick_d 66 c2 (by decide)
  have i4 := i4 (by omega)
  obtain ⟨j1, j2, j3⟩ := by4_d i2 (by decide) i3 (by omega)
  have q : ∃ n : Nat, addI 384 (g73 2 (g83 20 (g82 (g73 20 (Gl1Cur.mk x 0 0)).2 (g73 20 (Gl1Cur.mk x 0 0)).1).1).1).2 = (n : Int) ∧ n ≤ 400 := by
    rw [addI_eq (by omega)]
    exact ⟨384 + (g73 2 (g83 20 (g82 (g73 20 (Gl1Cur.mk x 0 0)).2 (g73 20 (Gl1Cur.mk x 0 0)).1).1).1).2.toNat, by omega, by omega⟩
  obtain ⟨n, q1, q2⟩ := q
  have q3 : leI 0 (n : Int) = true := by simp
  have q4 : leI ((n : Int) * 8) 140737488355328 = true := by rw [leI_iff]; omega
  have q5 : leI (n : Int) 140737488355328 = true := by rw [leI_iff]; omega
  have q6 : leI (n : Int) (n : Int) = true := by simp
  have z : ∀ m : Nat, leN (0 + m) m = true := fun m => by simp
  have lt : (List.take n (List.replicate n (rowI 0))).length = n := by simp
  unfold T16
  simp only [sat_ok', sat_br, sat_leaf, y16_10, y16_9, y16_8, y16_7, y16_6, y16_5, y16_4, y16_3, y16_2, y16_1, y16_0, a1, b1, c1, d1, e1, f1, i1, j1, q1, q3, q4, q5, q6, z, mulP_eq, Int.toNat_natCast, List.length_replicate, len_take, lt, eqN_self, Bool.and_true, true_and]
  exact ⟨fun _ => ⟨nn_take (nn_rep (by omega)), nn_take f3⟩, fun _ => ⟨nn_take b3, nn_take j3⟩⟩
theorem bb_tR {k s a v : Int} {zs : List Int} {l : List GAccess} (hz : zs.length ≤ 512) (hl : l.length ≤ 400) : BB (tR k s a v zs l).1 := by
  unfold tR
  cases tOk k s a v zs l
  · exact ⟨[], [], rfl, by decide, by decide⟩
  · exact ⟨_, _, rfl, by rw [tB_len]; exact hz, tL_le hl⟩
theorem dmem_d {x : List Row} (h : bytesOk x = true) : k13 x = true ∧ (BB (g13 x).1 ∧ BB (g13 x).2) := by
  refine sat_hid (t := T13 x) (P := fun r => BB r.1 ∧ BB r.2) ?_
  have h0 : CO 0 (Gl1Cur.mk x 0 0) := ⟨h, Int.le_refl 0, Int.le_refl 0⟩
  obtain ⟨a1, a2, zs, l, a3, a4, a5⟩ := bus_d h0 (by decide)
  obtain ⟨b1, b2, -⟩ := pick_d 2 a2 (by decide)
  obtain ⟨c1, c2⟩ := addr_d b2 (by decide)
  obtain ⟨d1, d2, d3⟩ := bus_d c2 (by decide)
  obtain ⟨t1, t2⟩ := tch_s (addI 1 (g73 2 (g72 (Gl1Cur.mk x 0 0)).1).2) 1 (g79 (g73 2 (g72 (Gl1Cur.mk x 0 0)).1).1).2 0 zs l a4 (by omega)
  have t3 := bb_tR (k := addI 1 (g73 2 (g72 (Gl1Cur.mk x 0 0)).1).2) (s := 1) (a := (g79 (g73 2 (g72 (Gl1Cur.mk x 0 0)).1).1).2) (v := 0) a4 a5
  rw [← t2, ← a3] at t3
  rw [← a3] at t1
  have h3 : y13_3 x = true := by simp only [y13_3, eqN_self, Bool.and_true]
  have h5 : y13_5 x = true := by simp only [y13_5, eqN_self, Bool.and_true]
  have h6 : y13_6 x = true := by simp only [y13_6, h5, eqN_self, Bool.and_true]
  have h7 : y13_7 x = true := by simp only [y13_7, h3, h5, h6, Bool.and_true]
  have h8 : y13_8 x = true := by simp only [y13_8, y13_0, h7, h3, b1, c1, t1, Bool.and_true]
  have h9 : y13_9 = true := by simp only [y13_9, same_s, Bool.and_true]
  have h10 : y13_10 x = true := by simp only [y13_10, same_s, Bool.and_true]
  have h11 : y13_11 x = true := by simp only [y13_11, same_s, Bool.and_true]
  have h12 : y13_12 x = true := by simp only [y13_12, sameR_s]
  have h13 : y13_13 x = true := by simp only [y13_13, sameR_s]
  have h14 : y13_14 x = true := by simp only [y13_14, h12, h13, sameR_s, Bool.and_true]
  have h15 : y13_15 x = true := by simp only [y13_15, h9, h10, h11, h14, sameR_s, same_s, Bool.and_true]
  have h16 : y13_16 x = true := by simp only [y13_16, h15, same_s, Bool.and_true]
  have h17 : y13_17 x = true := by simp only [y13_17, h8, h16, Bool.and_true]
  have h20 : y13_20 x = true := by simp only [y13_20, eqN_self, Bool.and_true]
  have h21 : y13_21 x = true := by simp only [y13_21, h20, eqN_self, Bool.and_true]
  have h22 : y13_22 x = true := by simp only [y13_22, y13_0, h3, h20, h21, d1, Bool.and_true]
  unfold T13
  simp only [sat_ok', sat_br, sat_leaf, a1, h3, h5, h6, h7, h8, h10, h11, h12, h13, h14, h16, h17, h20, h21, h22, same_s, sameR_s, Bool.and_true, true_and]
  exact ⟨fun _ => ⟨⟨zs, l, a3, a4, a5⟩, t3⟩, fun _ => ⟨⟨zs, l, a3, a4, a5⟩, d3⟩⟩
end Go.Proofs.YtihfaondfmeglaaLogs

/- Logs: the plain law. -/
namespace Go.Proofs.YtihfaondfmeglaaLogs
open Go Go.Zq
set_option maxHeartbeats 4000000
set_option maxRecDepth 100000

/-! The law. -/
def cnt (l : List GAccess) : Nat → Nat
  | 0 => 0
  | i + 1 => cnt l i + (filt ((i + 1 : Nat) : Int) l).length
theorem cnt_le (l : List GAccess) : ∀ i, cnt l i ≤ i * l.length
  | 0 => by simp [cnt]
  | i + 1 => by
    have h1 := cnt_le l i
    have h2 := filt_len ((i + 1 : Nat) : Int) l
    show cnt l i + _ ≤ _
    rw [Nat.succ_mul]
    omega
theorem filt_cons (k : Int) (a : GAccess) (l : List GAccess) : (filt k (a :: l)).length = (if a.Kind = k then 1 else 0) + (filt k l).length := by
  unfold filt
  rw [List.filter_cons]
  by_cases e : a.Kind = k
  · have : kindP k a = true := by unfold kindP; exact eqI_iff.2 e
    rw [if_pos this, if_pos e, List.length_cons]; omega
  · have : ¬ kindP k a = true := by unfold kindP; rw [eqI_iff]; exact e
    rw [if_neg this, if_neg e]; omega
theorem cnt_all : ∀ {l : List GAccess}, l.all accB = true → cnt l 3 = l.length
  | [], _ => rfl
  | a :: l, h => by
    rw [List.all_cons, Bool.and_eq_true] at h
    have ih := cnt_all h.2
    have hk := h.1
    unfold accB at hk
    rw [Bool.and_eq_true, inB_iff] at hk
    have hk := hk.1
    simp only [cnt, filt_cons, List.length_cons] at ih ⊢
    split <;> split <;> split <;> omega
theorem cnt_loop {zs : List Int} {l : List GAccess} (x1 : List Row) (hg : goodB zs l = true) (hz : zs.length < 1000000) (hl : l.length ≤ 1000) : i3_0 (V3_0.mk ⟨ri zs, l.map GAccess.row⟩ x1 0 1) = true ∧ w3_0 (V3_0.mk ⟨ri zs, l.map GAccess.row⟩ x1 0 1) = V3_0.mk ⟨ri zs, l.map GAccess.row⟩ x1 (cnt l 3 : Nat) 4 := by
  refine loop_st (N := N3_0) (fun i => V3_0.mk ⟨ri zs, l.map GAccess.row⟩ x1 (cnt l i : Nat) ((i + 1 : Nat) : Int)) 3 (by omega) (fun i hi => ?_) ?_
  · obtain ⟨a1, a2⟩ := logOf_i ((i + 1 : Nat) : Int) zs l hz (by omega)
    have hk : inB ((i + 1 : Nat) : Int) 1 3 = true := by rw [inB_iff]; omega
    have hR : logR ((i + 1 : Nat) : Int) zs l = ((filt ((i + 1 : Nat) : Int) l).map GAccess.row, true) := by unfold logR; rw [hg, hk]; rfl
    rw [hR] at a2
    have h1 := cnt_le l i
    have h2 := filt_len ((i + 1 : Nat) : Int) l
    have h3 : i * l.length ≤ 3 * l.length := Nat.mul_le_mul_right _ (by omega)
    have p1 : leI ((i + 1 : Nat) : Int) 3 = true := by rw [leI_iff]; omega
    have p2 : addI ((i + 1 : Nat) : Int) 1 = ((i + 1 + 1 : Nat) : Int) := by rw [addI_eq (by omega)]; omega
    have p3 : addI (cnt l i : Nat) ((filt ((i + 1 : Nat) : Int) l).length : Int) = (cnt l (i + 1) : Nat) := by rw [addI_eq (by omega)]; simp [cnt]
    unfold N3_0
    simp only [sat_ok', sat_br, sat_leaf, a1, a2, lenI_eq, List.length_map, p1, p2, p3, Bool.not_true, Bool.and_true, true_and, Bool.true_eq_false, Bool.false_eq_true, false_implies, and_true, forall_const]
  · have p1 : leI ((3 + 1 : Nat) : Int) 3 = false := by decide
    unfold N3_0
    simp only [sat_ok', sat_br, sat_leaf, p1, true_and, Bool.false_eq_true, false_implies, implies_true]
theorem put_take {xs ys : List Int} (h : xs.length ≤ 384) : (putB (putA xs xs.length) ys ys.length).take xs.length = xs := by
  unfold putB putA
  rw [List.take_append_of_le_length (by simp; omega), List.take_take, Nat.min_eq_left h, List.take_length, List.take_left]
theorem bytesB_app {xs ys : List Int} : bytesB (xs ++ ys) = (bytesB xs && bytesB ys) := by simp [bytesB]
theorem bytesB_rep {n : Nat} : bytesB (List.replicate n 0) = true := by
  unfold bytesB
  rw [List.all_eq_true]
  intro z hz
  rw [List.eq_of_mem_replicate hz]; rfl
theorem bytesB_sub {xs ys : List Int} (h : ∀ z ∈ ys, z ∈ xs) (hb : bytesB xs = true) : bytesB ys = true := by
  unfold bytesB at *
  rw [List.all_eq_true] at *
  exact fun z hz => hb z (h z hz)
theorem put_bytes {xs ys : List Int} (hx : bytesB xs = true) (hy : bytesB ys = true) : bytesB (putB (putA xs xs.length) ys ys.length) = true := by
  have hA : bytesB (putA xs xs.length) = true := by unfold putA; rw [List.take_length, bytesB_app, hx, bytesB_rep]; rfl
  unfold putB
  rw [List.take_length, bytesB_app, bytesB_app, hy, bytesB_sub (fun z hz => List.mem_of_mem_take hz) hA, bytesB_sub (fun z hz => List.mem_of_mem_drop hz) hA]; rfl
theorem put_good {xs ys : List Int} (hx : bytesB xs = true) (hy : bytesB ys = true) (h1 : xs.length ≤ 384) (h2 : ys.length ≤ 64) : goodB (putB (putA xs xs.length) ys ys.length) [] = true := by
  unfold goodB
  rw [putB_len (putA_len (Nat.le_refl _) h1) (Nat.le_refl _) h2, put_bytes hx hy]; rfl
theorem sameB_s (zs : List Int) (l : List GAccess) (hz : zs.length < 1000000) (hl : l.length < 1000000) : k19 ⟨ri zs, l.map GAccess.row⟩ ⟨ri zs, l.map GAccess.row⟩ = true ∧ g19 ⟨ri zs, l.map GAccess.row⟩ ⟨ri zs, l.map GAccess.row⟩ = true := by
  refine sat_hid (t := T19 ⟨ri zs, l.map GAccess.row⟩ ⟨ri zs, l.map GAccess.row⟩) (P := fun r => r = true) ?_
  obtain ⟨a1, a2⟩ := sameInts_t zs zs hz
  obtain ⟨b1, b2⟩ := sameA_s l hl
  unfold T19
  simp only [sat_ok', sat_leaf, a1, a2, b1, b2, decide_true, cond_true, Bool.and_true, Bool.true_or, true_and]
/-- The law's second half. -/
def tailP (x : List Row) : Prop := k13 x = true ∧ k14 (g13 x).1 (g13 x).2 = true ∧ k15 (g13 x).1 (g13 x).2 = true ∧ g15 (g13 x).1 (g13 x).2 = g14 (g13 x).1 (g13 x).2 ∧ k20 (g13 x).1.Bytes (g13 x).2.Bytes = true ∧ (bif !(g14 (g13 x).1 (g13 x).2).2 then true else eqB (g14 (g13 x).1 (g13 x).2).1 (g20 (g13 x).1.Bytes (g13 x).2.Bytes)) = true
theorem tail_l {x : List Row} (h : bytesOk x = true) : tailP x := by
  obtain ⟨a1, ⟨zs, l, a2, a3, a4⟩, ⟨ys, m, a5, a6, a7⟩⟩ := dmem_d h
  unfold tailP
  rw [a2, a5]
  obtain ⟨b1, b2⟩ := memo_i zs ys l m a3 a6 (by omega) (by omega)
  obtain ⟨c1, c2⟩ := memo_s zs ys l m a3 a6 (by omega) (by omega)
  obtain ⟨d1, d2⟩ := sameInts_t zs ys (by omega)
  rw [b2, c2, d2]
  refine ⟨a1, b1, c1, rfl, d1, ?_⟩
  unfold memR
  cases goodB zs l && goodB ys m
  · rfl
  · simp
theorem tail2_l {x : List Row} (h : bytesOk x = true) : k16 x = true ∧ ∃ xs ys : List Int, (g16 x).1 = ri xs ∧ (g16 x).2 = ri ys ∧ xs.length ≤ 2000 ∧ ys.length ≤ 2000 := by
  obtain ⟨a1, ⟨xs, a2, a3⟩, ⟨ys, a4, a5⟩⟩ := dnew_d h
  exact ⟨a1, xs, ys, a2, a4, a3, a5⟩
end Go.Proofs.YtihfaondfmeglaaLogs

/- Logs: the plain law. -/
namespace Go.Proofs.YtihfaondfmeglaaLogs
open Go Go.Zq
set_option maxHeartbeats 4000000
set_option maxRecDepth 100000

theorem okL (x0 x1 : List Row) (h0 : bytesOk x0 = true) (h1 : bytesOk x1 = true) : k3 x0 x1 = true ∧ g3 x0 x1 = true := by
  refine sat_hid (t := T3 x0 x1) (P := fun q => q = true) ?_
  obtain ⟨d1, zs, l, d2, d3, d4⟩ := dlog_d h0
  obtain ⟨b, k, e⟩ : ∃ b k, g9 x0 = (b, k) := ⟨_, _, rfl⟩
  rw [e] at d2
  dsimp only at d2
  subst d2
  obtain ⟨t1, t2, t3, t4, t5, t6⟩ := tail_l h1
  obtain ⟨v1, xs, ys, v2, v3, v4, v5⟩ := tail2_l h1
  obtain ⟨i1, i2⟩ := logOf_i k zs l (by omega) (by omega)
  obtain ⟨s1, s2⟩ := logOf_s k zs l (by omega) (by omega)
  obtain ⟨n1, n2⟩ := new_i xs ys (by omega) (by omega)
  obtain ⟨n3, n4⟩ := new_s xs ys (by omega) (by omega)
  have eI : ∀ x, neI x x = false := fun x => by simp
  have eJ : ∀ x, eqI x x = true := fun x => by simp
  have eB : ∀ x, eqB x x = true := fun x => by simp
  have eL : leI 4 3 = false := by decide
  have l0 : ∀ n : Nat, leI 0 (n : Int) = true := fun n => by simp
  have fl := filt_len k l
  have S : k12 (logR k zs l).1 (logR k zs l).1 = true ∧ g12 (logR k zs l).1 (logR k zs l).1 = true := by
    unfold logR
    cases goodB zs l && inB k 1 3
    · exact sameA_s [] (by decide)
    · exact sameA_s _ (by omega)
  obtain ⟨S1, S2⟩ := S
  have N : k19 (newR xs ys).1 (newR xs ys).1 = true ∧ g19 (newR xs ys).1 (newR xs ys).1 = true ∧ ((newR xs ys).2 = false ∨ (k21 (newR xs ys).1 = true ∧ g21 (newR xs ys).1 = true ∧ leI (xs.length : Int) (((newR xs ys).1.Bytes).length : Int) = true ∧ k20 ((newR xs ys).1.Bytes.take xs.length) (ri xs) = true ∧ g20 ((newR xs ys).1.Bytes.take xs.length) (ri xs) = true)) := by
    unfold newR
    cases hg : bytesB xs && (bytesB ys && (leI (xs.length : Int) 384 && leI (ys.length : Int) 64))
    · obtain ⟨a, b⟩ := sameB_s [] [] (by decide) (by decide)
      exact ⟨a, b, Or.inl rfl⟩
    · simp only [Bool.and_eq_true, leI_iff] at hg
      obtain ⟨g1, g2, g3, g4⟩ := hg
      have hl := putB_len (A := putA xs xs.length) (ys := ys) (i := ys.length) (putA_len (Nat.le_refl _) (by omega)) (Nat.le_refl _) (by omega)
      obtain ⟨a, b⟩ := sameB_s (putB (putA xs xs.length) ys ys.length) [] (by omega) (by decide)
      obtain ⟨c, d⟩ := good_i (putB (putA xs xs.length) ys ys.length) [] (by omega) (by decide)
      rw [put_good g1 g2 (by omega) (by omega)] at d
      obtain ⟨i, j⟩ := sameInts_t xs xs (by omega)
      refine ⟨a, b, Or.inr ⟨c, d, ?_, ?_, ?_⟩⟩
      · rw [cond_true]; dsimp only; rw [ri_len, hl, leI_iff]; omega
      · rw [cond_true]; dsimp only; rw [ri_take, put_take (by omega)]; exact i
      · rw [cond_true]; dsimp only; rw [ri_take, put_take (by omega), j]; exact decide_eq_true rfl
  obtain ⟨N1, N2, N3⟩ := N
  have E : (newR xs ys).2 = false ∨ (newR xs ys).2 = true := by cases (newR xs ys).2 <;> simp
  unfold T3
  cases hok : goodB zs l && inB k 1 3
  · have hR : logR k zs l = ([], false) := by unfold logR; rw [hok]; rfl
    rw [hR] at i2 s2 S1 S2
    rcases N3 with N3 | ⟨N4, N5, N6, N7, N8⟩
    · simp only [sat_ok', sat_br, sat_leaf, y3_16, y3_15, y3_14, y3_13, y3_12, y3_11, y3_10, y3_9, y3_8, y3_7, y3_6, y3_5, y3_4, y3_3, y3_2, y3_1, y3_0, e, d1, i1, i2, s1, s2, S1, S2, t1, t2, t3, t4, t5, t6, v1, v2, v3, n1, n2, n3, n4, N1, N2, N3, ri_len, lenI_eq, l0, Int.toNat_natCast, eI, eJ, eB, cond_true, cond_false, Bool.not_true, Bool.not_false, Bool.and_true, Bool.true_and, Bool.true_or, Bool.or_true, Bool.or_false, true_and, and_true, implies_true, Bool.false_eq_true, Bool.true_eq_false, false_implies, eL]
    · simp only [sat_ok', sat_br, sat_leaf, y3_16, y3_15, y3_14, y3_13, y3_12, y3_11, y3_10, y3_9, y3_8, y3_7, y3_6, y3_5, y3_4, y3_3, y3_2, y3_1, y3_0, e, d1, i1, i2, s1, s2, S1, S2, t1, t2, t3, t4, t5, t6, v1, v2, v3, n1, n2, n3, n4, N1, N2, N4, N5, N6, N7, N8, ri_len, lenI_eq, l0, Int.toNat_natCast, eI, eJ, eB, cond_true, cond_false, Bool.not_true, Bool.not_false, Bool.and_true, Bool.true_and, Bool.true_or, Bool.or_true, Bool.or_false, Bool.cond_self, true_and, and_true, implies_true, Bool.false_eq_true, Bool.true_eq_false, false_implies, eL]
  · have hR : logR k zs l = ((filt k l).map GAccess.row, true) := by unfold logR; rw [hok]; rfl
    rw [hR] at i2 s2 S1 S2
    rw [Bool.and_eq_true] at hok
    obtain ⟨w1, w2⟩ := cnt_loop (l := l) x1 hok.1 (by omega) (by omega)
    have hc : cnt l 3 = l.length := by
      have := hok.1
      unfold goodB at this
      simp only [Bool.and_eq_true] at this
      exact cnt_all this.2.2.2
    rw [hc] at w2
    rcases N3 with N3 | ⟨N4, N5, N6, N7, N8⟩
    · simp only [sat_ok', sat_br, sat_leaf, y3_16, y3_15, y3_14, y3_13, y3_12, y3_11, y3_10, y3_9, y3_8, y3_7, y3_6, y3_5, y3_4, y3_3, y3_2, y3_1, y3_0, e, d1, i1, i2, s1, s2, S1, S2, t1, t2, t3, t4, t5, t6, v1, v2, v3, n1, n2, n3, n4, N1, N2, N3, w1, w2, ri_len, lenI_eq, List.length_map, l0, Int.toNat_natCast, eI, eJ, eB, cond_true, cond_false, Bool.not_true, Bool.not_false, Bool.and_true, Bool.true_and, Bool.true_or, Bool.or_true, Bool.or_false, true_and, and_true, implies_true, Bool.false_eq_true, Bool.true_eq_false, false_implies, eL]
    · simp only [sat_ok', sat_br, sat_leaf, y3_16, y3_15, y3_14, y3_13, y3_12, y3_11, y3_10, y3_9, y3_8, y3_7, y3_6, y3_5, y3_4, y3_3, y3_2, y3_1, y3_0, e, d1, i1, i2, s1, s2, S1, S2, t1, t2, t3, t4, t5, t6, v1, v2, v3, n1, n2, n3, n4, N1, N2, N4, N5, N6, N7, N8, w1, w2, ri_len, lenI_eq, List.length_map, l0, Int.toNat_natCast, eI, eJ, eB, cond_true, cond_false, Bool.not_true, Bool.not_false, Bool.and_true, Bool.true_and, Bool.true_or, Bool.or_true, Bool.or_false, Bool.cond_self, true_and, and_true, implies_true, Bool.false_eq_true, Bool.true_eq_false, false_implies, eL]
end Go.Proofs.YtihfaondfmeglaaLogs
