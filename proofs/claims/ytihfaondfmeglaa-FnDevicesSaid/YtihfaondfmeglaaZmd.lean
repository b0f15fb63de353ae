/- Devices: the plain law. -/
import Derived.Test.YtihfaondfmeglaaZqDevicesQ
import Derived.Test.YtihfaondfmeglaaZmc
set_option linter.unusedVariables false
set_option linter.unusedSimpArgs false
namespace Go.Proofs.YtihfaondfmeglaaDevices
open Go Go.Zq
set_option maxHeartbeats 4000000
set_option maxRecDepth 100000

/-! Bounds, lists of bytes, equal lists. -/
@[simp] theorem within_g (x a b : Int) : g74 x a b = inB x a b := by
  simp only [g74, hid_eq, T74, val_ok, val_leaf, geI, leI, inB, ge_iff_le]
  cases decide (a ≤ x) <;> rfl
@[simp] theorem within_k (x a b : Int) : k74 x a b = true := by
  simp [k74, hid_eq, T74]
@[simp] theorem l1In_g (x a b : Int) : g78 x a b = inB x a b := by
  simp only [g78, hid_eq, T78, val_ok, val_leaf, geI, leI, inB, ge_iff_le]
  cases decide (a ≤ x) <;> rfl
@[simp] theorem l1In_k (x a b : Int) : k78 x a b = true := by
  simp [k78, hid_eq, T78]
theorem bytesB_f {zs : List Int} {i : Nat} (h : i < zs.length) (hz : inB zs[i] 0 255 = false) : bytesB zs = false := by
  unfold bytesB
  rw [List.all_eq_false]
  exact ⟨zs[i], List.getElem_mem h, by simp [hz]⟩
theorem bytesB_t {zs : List Int} (h : ∀ j (hj : j < zs.length), inB zs[j] 0 255 = true) : bytesB zs = true := by
  unfold bytesB
  rw [List.all_eq_true]
  intro z hz
  obtain ⟨j, hj, rfl⟩ := List.getElem_of_mem hz
  exact h j hj
theorem l4_loop (zs : List Int) (hl : zs.length < 1000000) : i85_0 (V85_0.mk (ri zs) (lenI (ri zs)) 0) = true ∧ (ltI (w85_0 (V85_0.mk (ri zs) (lenI (ri zs)) 0)).s7 (w85_0 (V85_0.mk (ri zs) (lenI (ri zs)) 0)).s6 = !bytesB zs) := by
  unfold i85_0 w85_0
  refine loop_w (Post := fun w => ltI w.s7 w.s6 = !bytesB zs) (loop_sat (fun n v => ∃ i : Nat, v = V85_0.mk (ri zs) (lenI (ri zs)) i ∧ i ≤ zs.length ∧ n = zs.length - i ∧ ∀ j (hj : j < zs.length), j < i → inB zs[j] 0 255 = true) _ ?_ 2097152 zs.length _ ⟨0, rfl, by omega, by omega, fun j _ h => absurd h (by omega)⟩ (by omega))
  rintro n v ⟨i, rfl, hi, rfl, hall⟩
  unfold N85_0
  simp only [sat_ok', sat_br, sat_leaf, lenI_eq, ri_len, ltI_iff, ltI_f, true_and, Int.toNat_natCast]
  constructor
  · intro h
    have hi' : i < zs.length := by omega
    rw [ri_inr hi', ri_int hi', l1In_g, l1In_k]
    refine ⟨rfl, rfl, fun hz => ?_, fun hz => ?_⟩
    · rw [bytesB_f hi' (by simpa using hz)]
      simpa [ltI] using h
    · refine ⟨_, ?_, i + 1, ?_, by omega, rfl, ?_⟩
      · omega
      · rw [addI_eq (by omega)]; rfl
      · intro j hj hji
        by_cases e : j = i
        · subst e; simpa using hz
        · exact hall j hj (by omega)
  · intro h
    rw [bytesB_t fun j hj => hall j hj (by omega)]
    simpa [ltI] using h
theorem l4Bytes_t (zs : List Int) (hl : zs.length < 1000000) : k85 (ri zs) = true ∧ g85 (ri zs) = bytesB zs := by
  obtain ⟨h1, h2⟩ := l4_loop zs hl
  unfold k85 g85 T85 y85_0
  rw [hid_eq, hid_eq]
  simp only [okv_ok, okv_br, okv_leaf, val_ok, val_br, val_leaf, h1, h2, Bool.true_and]
  cases bytesB zs <;> exact ⟨rfl, rfl⟩
theorem same_loop (xs ys : List Int) (hl : xs.length < 1000000) (he : xs.length = ys.length) : i20_0 (V20_0.mk (ri xs) (ri ys) (lenI (ri xs)) 0) = true ∧ (ltI (w20_0 (V20_0.mk (ri xs) (ri ys) (lenI (ri xs)) 0)).s13 (w20_0 (V20_0.mk (ri xs) (ri ys) (lenI (ri xs)) 0)).s12 = !decide (xs = ys)) := by
  unfold i20_0 w20_0
  refine loop_w (Post := fun w => ltI w.s13 w.s12 = !decide (xs = ys)) (loop_sat (fun n v => ∃ i : Nat, v = V20_0.mk (ri xs) (ri ys) (lenI (ri xs)) i ∧ i ≤ xs.length ∧ n = xs.length - i ∧ ∀ j (hj : j < xs.length), j < i → xs[j] = ys[j]) _ ?_ 2097152 xs.length _ ⟨0, rfl, by omega, by omega, fun j _ h => absurd h (by omega)⟩ (by omega))
  rintro n v ⟨i, rfl, hi, rfl, hall⟩
  unfold N20_0
  simp only [sat_ok', sat_br, sat_leaf, lenI_eq, ri_len, ltI_iff, ltI_f, true_and, Int.toNat_natCast]
  constructor
  · intro h
    have hi' : i < xs.length := by omega
    have hy' : i < ys.length := by omega
    rw [ri_inr hi', ri_int hi', ri_inr hy', ri_int hy']
    refine ⟨rfl, fun hz => ?_, fun hz => ?_⟩
    · have : xs ≠ ys := fun e => by subst e; simp at hz
      rw [decide_eq_false this]
      simpa [ltI] using h
    · refine ⟨_, ?_, i + 1, ?_, by omega, rfl, ?_⟩
      · omega
      · rw [addI_eq (by omega)]; rfl
      · intro j hj hji
        by_cases e : j = i
        · subst e; simpa using hz
        · exact hall j hj (by omega)
  · intro h
    rw [decide_eq_true (List.ext_getElem he fun j h1 h2 => hall j h1 (by omega))]
    simpa [ltI] using h
theorem sameInts_t (xs ys : List Int) (hl : xs.length < 1000000) : k20 (ri xs) (ri ys) = true ∧ g20 (ri xs) (ri ys) = decide (xs = ys) := by
  unfold k20 g20 T20 y20_0
  rw [hid_eq, hid_eq]
  by_cases he : xs.length = ys.length
  · obtain ⟨h1, h2⟩ := same_loop xs ys hl he
    have e : neI (lenI (ri xs)) (lenI (ri ys)) = false := by simp [he, ri_len]
    simp only [okv_ok, okv_br, okv_leaf, val_ok, val_br, val_leaf, h1, h2, e, Bool.true_and, cond_false]
    cases decide (xs = ys) <;> exact ⟨rfl, rfl⟩
  · have e : neI (lenI (ri xs)) (lenI (ri ys)) = true := by simp [ri_len]; omega
    have : xs ≠ ys := fun e => he (by rw [e])
    simp only [okv_ok, okv_br, okv_leaf, val_ok, val_br, val_leaf, e, decide_eq_false this, Bool.true_and, cond_true, and_self]
theorem byte_g (x : Int) : g148 x = !inB x 0 255 := by
  simp [g148, hid_eq, T148]
theorem byte_k (x : Int) : k148 x = true := by
  simp [k148, hid_eq, T148]
theorem idx_loop (zs : List Int) (hl : zs.length < 1000000) : i149_0 (V149_0.mk (ri zs) (lenI (ri zs)) 0) = true ∧ 0 ≤ (w149_0 (V149_0.mk (ri zs) (lenI (ri zs)) 0)).s8 ∧ (ltI (w149_0 (V149_0.mk (ri zs) (lenI (ri zs)) 0)).s8 (w149_0 (V149_0.mk (ri zs) (lenI (ri zs)) 0)).s7 = !bytesB zs) := by
  unfold i149_0 w149_0
  refine loop_w (Post := fun w => 0 ≤ w.s8 ∧ ltI w.s8 w.s7 = !bytesB zs) (loop_sat (fun n v => ∃ i : Nat, v = V149_0.mk (ri zs) (lenI (ri zs)) i ∧ i ≤ zs.length ∧ n = zs.length - i ∧ ∀ j (hj : j < zs.length), j < i → inB zs[j] 0 255 = true) _ ?_ 2097152 zs.length _ ⟨0, rfl, by omega, by omega, fun j _ h => absurd h (by omega)⟩ (by omega))
  rintro n v ⟨i, rfl, hi, rfl, hall⟩
  unfold N149_0
  simp only [sat_ok', sat_br, sat_leaf, lenI_eq, ri_len, ltI_iff, ltI_f, true_and, Int.toNat_natCast]
  constructor
  · intro h
    have hi' : i < zs.length := by omega
    rw [ri_inr hi', ri_int hi', byte_k, byte_g]
    refine ⟨rfl, fun hz => ?_, fun hz => ?_⟩
    · rw [bytesB_f hi' (by simpa using hz)]
      exact ⟨by omega, by simpa [ltI] using h⟩
    · refine ⟨_, ?_, i + 1, ?_, by omega, rfl, ?_⟩
      · omega
      · rw [addI_eq (by omega)]; rfl
      · intro j hj hji
        by_cases e : j = i
        · subst e; simpa using hz
        · exact hall j hj (by omega)
  · intro h
    rw [bytesB_t fun j hj => hall j hj (by omega)]
    exact ⟨by omega, by simpa [ltI] using h⟩
theorem areBytes_t (zs : List Int) (n : Int) (hl : zs.length < 1000000) : k84 (ri zs) n = true ∧ g84 (ri zs) n = (decide ((zs.length : Int) ≤ n) && bytesB zs) := by
  obtain ⟨h1, h2, h3⟩ := idx_loop zs hl
  have a : k149 (ri zs) = true ∧ geI (g149 (ri zs)) 0 = !bytesB zs := by
    unfold k149 g149 T149 y149_0
    rw [hid_eq, hid_eq]
    simp only [okv_ok, okv_br, okv_leaf, val_ok, val_br, val_leaf, h1, h3, Bool.true_and]
    cases bytesB zs
    · exact ⟨rfl, by simpa using h2⟩
    · exact ⟨rfl, rfl⟩
  have b : k86 (ri zs) = true ∧ g86 (ri zs) = !bytesB zs := by
    unfold k86 g86 T86
    rw [hid_eq, hid_eq]
    simp only [okv_ok, okv_leaf, val_ok, val_leaf, a.1, a.2, Bool.true_and, and_self]
  unfold k84 g84 T84
  rw [hid_eq, hid_eq]
  simp only [okv_ok, okv_leaf, val_ok, val_leaf, b.1, b.2, lenI_eq, ri_len, leI, Bool.true_and, Bool.true_or, Bool.and_true, Bool.not_not, true_and]
  cases decide ((zs.length : Int) ≤ n) <;> rfl
/-! The reader of bytes. -/
def CO (B : Int) (c : Gl1Cur) : Prop := CurOk B c.fcode c.fat
theorem CO.mono {B C : Int} {c : Gl1Cur} (h : CO B c) (hB : B ≤ C) : CO C c := CurOk.mono h hB
theorem far_g (s : Int) : 0 ≤ wrapK .i64 (andK .u64 (shrK .u64 s 40) 255) ∧ wrapK .i64 (andK .u64 (shrK .u64 s 40) 255) < 256 := by
  have e : shrK .u64 s 40 = Int.fdiv s 1099511627776 := by
    unfold shrK
    rw [show ((2 : Int) ^ min (Int.toNat 40) IntKind.u64.bits) = 1099511627776 from by decide]
  unfold wrapK andK
  rw [e]
  exact far_rng s
theorem next_d {B : Int} {c : Gl1Cur} (h : CO B c) (hB : B < 4000000000000000000) : k146 c = true ∧ (CO (B + 1) (g146 c).1 ∧ 0 ≤ (g146 c).2 ∧ (g146 c).2 < 256) := by
  refine sat_hid (t := T146 c) (P := fun r => CO (B + 1) r.1 ∧ 0 ≤ r.2 ∧ r.2 < 256) ?_
  obtain ⟨h1, h2, h3⟩ := h
  have ha : addI c.fat 1 = c.fat + 1 := addI_eq (by omega)
  have hc : CurOk (B + 1) c.fcode (c.fat + 1) := ⟨h1, by omega, by omega⟩
  have hv : 0 ≤ y146_0 c ∧ y146_0 c < 256 := by
    unfold y146_0
    cases hl : ltI c.fat (lenI c.fcode)
    · simp
    · have hl' : c.fat < (c.fcode.length : Int) := by simpa using hl
      obtain ⟨z, -, e, z0, z1⟩ := row_at h1 (j := c.fat.toNat) (by omega)
      rw [cond_true, e, wrap_id (by omega)]
      exact ⟨z0, z1⟩
  have hr : (inRow [.int .u8] c.fcode c.fat || !(ltI c.fat (lenI c.fcode))) = true := by
    cases hl : ltI c.fat (lenI c.fcode)
    · simp
    · have hl' : c.fat < (c.fcode.length : Int) := by simpa using hl
      rw [inRow_byte h1 h2 hl']
      rfl
  unfold T146
  simp only [sat_ok', sat_br, sat_leaf, hr, ha, Bool.and_true, true_and]
  exact ⟨fun _ => ⟨hc, hv⟩, fun _ => ⟨hc, far_g _⟩⟩
theorem pick_d {B : Int} {c : Gl1Cur} (n : Int) (h : CO B c) (hB : B < 3000000000000000000) : k73 n c = true ∧ (CO (B + 2) (g73 n c).1 ∧ 0 ≤ (g73 n c).2 ∧ (2 ≤ n → (g73 n c).2 < n) ∧ (n ≤ 1 → (g73 n c).2 = 0)) := by
  refine sat_hid (t := T73 n c) (P := fun r => CO (B + 2) r.1 ∧ 0 ≤ r.2 ∧ (2 ≤ n → r.2 < n) ∧ (n ≤ 1 → r.2 = 0)) ?_
  obtain ⟨k1, c1, v0, v1⟩ := next_d h (by omega)
  obtain ⟨k2, c2, w0, w1⟩ := next_d c1 (by omega)
  unfold T73
  simp only [sat_ok', sat_br, sat_leaf, k1, k2, leI_iff, leI_f, gtI_iff, gtI_f, neI_iff, Bool.and_true, true_and]
  refine ⟨fun hn => ⟨h.mono (by omega), by omega, by omega, fun _ => trivial⟩, fun hn => ⟨fun hb => ⟨by omega, c2.mono (by omega), ?_⟩, fun hb => ⟨by omega, c1.mono (by omega), ?_⟩⟩⟩
  · have e : mulI (g146 c).2 256 = (g146 c).2 * 256 := mulI_eq (by omega)
    rw [e, addI_eq (by omega)]
    obtain ⟨r0, r1⟩ := rem_rng (x := (g146 c).2 * 256 + (g146 (g146 c).1).2) (n := n) (by omega) (by omega)
    exact ⟨r0, fun _ => r1, by omega⟩
  · obtain ⟨r0, r1⟩ := rem_rng (x := (g146 c).2) (n := n) (by omega) (by omega)
    exact ⟨r0, fun _ => r1, by omega⟩
theorem one_d {B : Int} {c : Gl1Cur} (n : Int) (h : CO B c) (hB : B < 3000000000000000000) : k83 n c = true ∧ CO (B + 2) (g83 n c).1 := by
  refine sat_hid (t := T83 n c) (P := fun r => CO (B + 2) r.1) ?_
  obtain ⟨k1, c1, -⟩ := pick_d n h hB
  unfold T83
  simp only [sat_ok', sat_leaf, k1, Bool.and_true, true_and]
  exact c1
theorem among_d {B : Int} {c : Gl1Cur} {r : List Row} (hr : Num r) (hl : 1 ≤ r.length) (h : CO B c) (hB : B < 3000000000000000000) : k91 r c = true ∧ (CO (B + 2) (g91 r c).1 ∧ ∃ j, j < r.length ∧ (g91 r c).2 = intAt r j 0) := by
  refine sat_hid (t := T91 r c) (P := fun q => CO (B + 2) q.1 ∧ ∃ j, j < r.length ∧ q.2 = intAt r j 0) ?_
  obtain ⟨k1, c1, v0, v1, v2⟩ := pick_d (lenI r) h hB
  rw [lenI_eq] at k1 c1 v0 v1 v2
  have hj : (g73 (r.length : Int) c).2 < (r.length : Int) := by
    by_cases h2 : r.length = 1
    · rw [v2 (by omega)]; omega
    · exact v1 (by omega)
  unfold T91
  simp only [sat_ok', sat_leaf, lenI_eq, k1, num_in hr v0 hj, Bool.and_true, true_and]
  exact ⟨c1, _, by omega, rfl⟩
end Go.Proofs.YtihfaondfmeglaaDevices

/- Devices: the plain law. -/
namespace Go.Proofs.YtihfaondfmeglaaDevices
open Go Go.Zq
set_option maxHeartbeats 4000000
set_option maxRecDepth 100000

/-! Devices: draws, and steps by the reference. -/
structure DV (d : GDevice) : Prop where
  i : Num d.In
  o : Num d.Out
  li : d.In.length ≤ 1000
  lo : d.Out.length ≤ 1000
theorem devStep_d {B : Int} {c : Gl1Cur} (h : CO B c) (hB : B < 2000000000000000000) : k118 c = true ∧ CO (B + 30) (g118 c).1 := by
  refine sat_hid (t := T118 c) (P := fun r => CO (B + 30) r.1) ?_
  have A : ∀ {B' : Int} {c' : Gl1Cur} (r : List Int), CO B' c' → B' < 2500000000000000000 → 1 ≤ r.length → k91 (ri r) c' = true ∧ CO (B' + 2) (g91 (ri r) c').1 := fun r h1 h2 h3 => by
    obtain ⟨a, b, -⟩ := among_d (r := ri r) ⟨r, rfl⟩ (by rw [ri_len]; exact h3) h1 (by omega)
    exact ⟨a, b⟩
  have tl : ∀ {c' : Gl1Cur}, CO (B + 8) c' → k83 60 c' = true ∧ CO (B + 30) (g83 60 c').1 ∧ k73 6 (g83 60 c').1 = true ∧ k73 6 (g73 6 (g83 60 c').1).1 = true ∧ k91 [rowI 0, rowI (-1), rowI 256] (g73 6 (g73 6 (g83 60 c').1).1).1 = true ∧ CO (B + 30) (g91 [rowI 0, rowI (-1), rowI 256] (g73 6 (g73 6 (g83 60 c').1).1).1).1 := fun {c'} hc => by
    obtain ⟨a1, a2⟩ := one_d 60 hc (by omega)
    obtain ⟨b1, b2, -⟩ := pick_d 6 a2 (by omega)
    obtain ⟨e1, e2, -⟩ := pick_d 6 b2 (by omega)
    obtain ⟨f1, f2⟩ := A [0, -1, 256] e2 (by omega) (by decide)
    exact ⟨a1, a2.mono (by omega), b1, e1, f1, f2.mono (by omega)⟩
  obtain ⟨a1, a2⟩ := A [1, 1, 1, 2, 2, 3, 3, 4] h (by omega) (by decide)
  have a1' : k91 [rowI 1, rowI 1, rowI 1, rowI 2, rowI 2, rowI 3, rowI 3, rowI 4] c = true := a1
  have a2' : CO (B + 2) (y118_0 c).1 := a2
  obtain ⟨b1, b2, -⟩ := pick_d 256 a2' (by omega)
  obtain ⟨e1, e2, -⟩ := pick_d 4 a2' (by omega)
  obtain ⟨f1, f2⟩ := A [0, 1, 2, 3, 255] e2 (by omega) (by decide)
  have f1' : k91 [rowI 0, rowI 1, rowI 2, rowI 3, rowI 255] (g73 4 (y118_0 c).1).1 = true := f1
  have t1 := tl (b2.mono (by omega))
  have t2 := tl (e2.mono (by omega))
  have t3 := tl (f2.mono (by omega))
  have t4 := tl (a2'.mono (by omega))
  unfold T118
  simp only [sat_ok', sat_br, sat_leaf, a1', b1, e1, f1', Bool.and_true, true_and]
  refine ⟨fun _ => ?_, fun _ => ⟨fun _ => ?_, fun _ => ⟨fun _ => ?_, fun _ => ?_⟩⟩⟩
  · obtain ⟨p1, p2, p3, p4, p5, p6⟩ := t1
    exact ⟨p1, fun _ => ⟨by rw [Bool.and_eq_true, Bool.and_eq_true]; exact ⟨p3, p4, p5⟩, p6⟩, fun _ => p2⟩
  · obtain ⟨p1, p2, p3, p4, p5, p6⟩ := t2
    exact ⟨p1, fun _ => ⟨by rw [Bool.and_eq_true, Bool.and_eq_true]; exact ⟨p3, p4, p5⟩, p6⟩, fun _ => p2⟩
  · obtain ⟨p1, p2, p3, p4, p5, p6⟩ := t3
    exact ⟨p1, fun _ => ⟨by rw [Bool.and_eq_true, Bool.and_eq_true]; exact ⟨p3, p4, p5⟩, p6⟩, fun _ => p2⟩
  · obtain ⟨p1, p2, p3, p4, p5, p6⟩ := t4
    exact ⟨p1, fun _ => ⟨by rw [Bool.and_eq_true, Bool.and_eq_true]; exact ⟨p3, p4, p5⟩, p6⟩, fun _ => p2⟩
/-- Rows of three numbers. -/
def Steps (r : List Row) : Prop := ∃ l : List GDevStep, r = l.map GDevStep.row
theorem steps_in {l : List GDevStep} {i : Nat} (h : i < l.length) : inRow [.int .i64, .int .i64, .int .i64] (l.map GDevStep.row) (i : Int) = true ∧ GDevStep.at (l.map GDevStep.row) i 0 = l[i] := by
  have e : (l.map GDevStep.row).getD i [] = GDevStep.row l[i] := by simp [List.getD_eq_getElem?_getD, h]
  constructor
  · simp only [inRow, hasRow, Int.toNat_natCast, e, List.length_map]
    have : Nat.blt i l.length = true := by simpa using h
    rw [this]
    rfl
  · unfold GDevStep.at intAt cellAt
    rw [e]
    rfl
theorem steps_loop (n : Nat) (c : Gl1Cur) {B : Int} (h : CO B c) (hB : B + 40 * n < 1000000000000000000) (hn : n ≤ 100000) : i108_0 (V108_0.mk c [] (n : Int)) = true ∧ (CO (B + 40 * n) (w108_0 (V108_0.mk c [] (n : Int))).b0 ∧ Steps (w108_0 (V108_0.mk c [] (n : Int))).s3 ∧ (w108_0 (V108_0.mk c [] (n : Int))).s3.length ≤ n) := by
  unfold i108_0 w108_0
  refine loop_w (Post := fun w : V108_0 => CO (B + 40 * n) w.b0 ∧ Steps w.s3 ∧ w.s3.length ≤ n) (loop_sat (fun (m : Nat) (v : V108_0) => CO (B + 40 * (n - m)) v.b0 ∧ Steps v.s3 ∧ v.s3.length + m ≤ n ∧ v.s4 = (m : Int)) _ ?_ 2097152 n _ ⟨h.mono (by omega), ⟨[], rfl⟩, by simp, rfl⟩ (by omega))
  rintro m v ⟨h1, ⟨l, hl⟩, h3, h4⟩
  unfold N108_0
  simp only [sat_ok', sat_br, sat_leaf, gtI_iff, gtI_f, h4, true_and]
  constructor
  · intro hm
    obtain ⟨k1, k2⟩ := devStep_d h1 (by omega)
    refine ⟨by simp [k1]; omega, by simp [y108_0_l_1], m - 1, by omega, k2.mono (by omega), ?_, by simp; omega, ?_⟩
    · exact ⟨l ++ [(g118 v.b0).2], by rw [hl]; simp⟩
    · rw [subI_eq (by omega)]; omega
  · intro hm
    exact ⟨h1.mono (by omega), ⟨l, hl⟩, by omega⟩
theorem devSteps_d {B : Int} {c : Gl1Cur} (h : CO B c) (hB : B < 900000000000000000) : k108 c = true ∧ (CO (B + 10000) (g108 c).1 ∧ Steps (g108 c).2 ∧ (g108 c).2.length ≤ 100) := by
  refine sat_hid (t := T108 c) (P := fun r => CO (B + 10000) r.1 ∧ Steps r.2 ∧ r.2.length ≤ 100) ?_
  obtain ⟨a1, a2, a3, a4, -⟩ := pick_d 20 h (by omega)
  obtain ⟨b1, b2⟩ := one_d 12 a2 (by omega)
  obtain ⟨e1, e2, e3, e4, -⟩ := pick_d 12 b2 (by omega)
  have a4 := a4 (by omega)
  have e4 := e4 (by omega)
  have e2 : CO (B + 2 + 2 + 2) (y108_0 c).1 := e2
  have e3 : 0 ≤ (y108_0 c).2 := e3
  have e4 : (y108_0 c).2 < 12 := e4
  obtain ⟨n1, hn1⟩ : ∃ n : Nat, (n : Int) = (g73 20 c).2 := ⟨(g73 20 c).2.toNat, by omega⟩
  obtain ⟨n2, hn2⟩ : ∃ n : Nat, (n : Int) = addI 70 (y108_0 c).2 := ⟨(70 + (y108_0 c).2).toNat, by rw [addI_eq (by omega)]; omega⟩
  have hn2' : (n2 : Int) = 70 + (y108_0 c).2 := by rw [hn2, addI_eq (by omega)]
  obtain ⟨p1, p2, p3, p4⟩ := steps_loop n1 _ b2 (by omega) (by omega)
  obtain ⟨q1, q2, q3, q4⟩ := steps_loop n2 _ e2 (by omega) (by omega)
  rw [hn1] at p1 p2 p3 p4
  rw [hn2] at q1 q2 q3 q4
  unfold T108 y108_1 y108_3 y108_2 y108_4
  simp only [sat_ok', sat_br, sat_leaf, a1, b1, e1, p1, q1, eqN_self, Bool.and_true, true_and, y108_1, y108_3]
  exact ⟨fun _ => ⟨q2.mono (by omega), q3, by omega⟩, fun _ => ⟨p2.mono (by omega), p3, by omega⟩⟩
end Go.Proofs.YtihfaondfmeglaaDevices

/- Devices: the plain law. -/
namespace Go.Proofs.YtihfaondfmeglaaDevices
open Go Go.Zq
set_option maxHeartbeats 4000000
set_option maxRecDepth 100000

/-! Devices: what each function makes of one. -/
theorem room8 {n : Nat} (h : n ≤ 2000) : leN (mulN n 8) 140737488355328 = true ∧ leN n 140737488355328 = true ∧ leN (mulN (0 + n) 8) 140737488355328 = true ∧ leN (0 + n) 140737488355328 = true := by
  simp only [leN_iff, mulN_eq]
  omega
theorem room1 {n : Nat} (h : n ≤ 2000) : leN (mulN (n + 1) 8) 140737488355328 = true ∧ leN (n + 1) 140737488355328 = true := by
  simp only [leN_iff, mulN_eq]
  omega
theorem z_len {r : List Row} : eqN (0 + r.length) r.length = true ∧ leN (0 + r.length) r.length = true := by simp
theorem tick_s {d : GDevice} (h : DV d) : k162 d = true ∧ DV (g162 d) := by
  refine sat_hid (t := T162 d) (P := DV) ?_
  unfold T162 y162_0
  simp only [sat_ok', sat_br, sat_leaf, eqN_self, Bool.and_true, true_and]
  exact ⟨fun _ => h, fun _ => ⟨fun _ => ⟨fun _ => ⟨h.1, h.2, h.3, h.4⟩, fun _ => ⟨h.1, h.2, h.3, h.4⟩⟩, fun _ => ⟨fun _ => ⟨h.1, h.2, h.3, h.4⟩, fun _ => h⟩⟩⟩
theorem come_s {d : GDevice} (v : Int) (h : DV d) : k163 d v = true ∧ DV (g163 d v) := by
  refine sat_hid (t := T163 d v) (P := DV) ?_
  obtain ⟨r1, r2, r3, r4⟩ := room8 (n := d.In.length) (by have := h.li; omega)
  obtain ⟨s1, s2⟩ := room1 (n := d.In.length) (by have := h.li; omega)
  unfold T163 y163_3 y163_2 y163_1 y163_0
  simp only [sat_ok', sat_br, sat_leaf, eqN_self, z_len.1, z_len.2, r3, r4, s1, s2, ltI_iff, lenI_eq, Bool.and_true, true_and]
  exact ⟨fun hl => ⟨num_app h.1 (num_one v), h.2, by simp; omega, h.4⟩, fun _ => ⟨fun _ => ⟨h.1, h.2, h.3, h.4⟩, fun _ => h⟩⟩
def dRead (d : GDevice) (p : Int) : GDevice × Int := if p = 0 then (d, d.Every) else if p = 1 then ({ d with Rung := false }, bif d.Rung then 1 else 0) else if p = 2 then (if d.In.length = 0 then (d, 0) else ({ d with In := d.In.drop 1 }, intAt d.In 0 0)) else (d, d.In.length)
def dWrite (d : GDevice) (p v : Int) : GDevice := if p = 0 then { d with Every := v, Left := v } else if p = 1 then { d with Rung := false } else if p = 2 then (if d.Out.length < 200 then { d with Out := d.Out ++ [rowI v] } else d) else { d with In := [] }
theorem flag_s (b : Bool) (v : Int) : k178 b v = true ∧ g178 b v = bif b then v else 0 := by
  refine sat_hid (t := T178 b v) (P := fun r => r = bif b then v else 0) ?_
  cases b <;> simp [T178]
theorem flag_i (b : Bool) (v : Int) : k180 b v = true ∧ g180 b v = bif b then v else 0 := by
  refine sat_hid (t := T180 b v) (P := fun r => r = bif b then v else 0) ?_
  cases b <;> simp [T180]
theorem take_drop1 {r : List Row} : List.take (Int.toNat (lenI r) - 1) (List.drop 1 r) = List.drop 1 r := by
  apply List.take_of_length_le
  simp
theorem num_drop {r : List Row} (h : Num r) (n : Nat) : Num (r.drop n) := by
  obtain ⟨a, rfl⟩ := h
  exact ⟨a.drop n, by simp [ri]⟩
theorem dRead_V {d : GDevice} (p : Int) (h : DV d) : DV (dRead d p).1 := by
  unfold dRead
  split
  · exact h
  · split
    · exact ⟨h.1, h.2, h.3, h.4⟩
    · split
      · split
        · exact h
        · exact ⟨num_drop h.1 1, h.2, by have := h.li; simp; omega, h.4⟩
      · exact h
theorem dWrite_V {d : GDevice} (p v : Int) (h : DV d) : DV (dWrite d p v) := by
  unfold dWrite
  split
  · exact ⟨h.1, h.2, h.3, h.4⟩
  · split
    · exact ⟨h.1, h.2, h.3, h.4⟩
    · split
      · split
        · exact ⟨h.1, num_app h.2 (num_one v), h.3, by simp; omega⟩
        · exact h
      · exact ⟨num_nil, h.2, by simp, h.4⟩
theorem read_s {d : GDevice} (p : Int) (h : DV d) : k133 d p = true ∧ g133 d p = dRead d p := by
  refine sat_hid (t := T133 d p) (P := fun r => r = dRead d p) ?_
  obtain ⟨f1, f2⟩ := flag_s d.Rung 1
  obtain ⟨r1, r2, r3, r4⟩ := room8 (n := (d.In.drop 1).length) (by have := h.li; simp; omega)
  unfold T133 y133_7 y133_6 y133_5 y133_4 y133_3 y133_2 y133_1 y133_0
  simp only [sat_ok', sat_br, sat_leaf, eqN_self, same_s, sameR_s, z_len.1, z_len.2, take_drop1, f1, f2, r3, r4, eqI_iff, eqI_f, Bool.and_true, true_and]
  refine ⟨fun e => by simp [dRead, e], fun e0 => ⟨fun e => by simp [dRead, e], fun e1 => ⟨fun e2 => ⟨fun e => ?_, fun e => ?_⟩, fun e2 => by simp [dRead, e0, e1, e2]⟩⟩⟩
  · have : d.In.length = 0 := by simpa using e
    simp [dRead, e2, this]
  · have e : d.In.length ≠ 0 := by simpa using e
    refine ⟨?_, ?_, by simp [dRead, e2, e]⟩
    · rw [Bool.and_eq_true]; exact ⟨by simp; omega, num_has h.1 (by omega)⟩
    · have hL : lenI d.In = (d.In.length : Int) := rfl
      simp only [Bool.and_eq_true, leI_iff, leN_iff, true_and]; omega
theorem write_s {d : GDevice} (p v : Int) (h : DV d) : k134 d p v = true ∧ g134 d p v = dWrite d p v := by
  refine sat_hid (t := T134 d p v) (P := fun r => r = dWrite d p v) ?_
  obtain ⟨r1, r2, r3, r4⟩ := room8 (n := d.Out.length) (by have := h.lo; omega)
  obtain ⟨s1, s2⟩ := room1 (n := d.Out.length) (by have := h.lo; omega)
  unfold T134 y134_3 y134_2 y134_1 y134_0
  simp only [sat_ok', sat_br, sat_leaf, eqN_self, z_len.1, z_len.2, r3, r4, s1, s2, eqI_iff, eqI_f, ltI_iff, ltI_f, lenI_eq, Bool.and_true, true_and]
  refine ⟨fun e => by simp [dWrite, e], fun e0 => ⟨fun e => by simp [dWrite, e], fun e1 => ⟨fun e2 => ⟨fun e => ?_, fun e => ?_⟩, fun e2 => by simp [dWrite, e0, e1, e2]⟩⟩⟩
  · have : d.Out.length < 200 := by omega
    simp [dWrite, e2, this]
  · have : ¬ d.Out.length < 200 := by omega
    simp [dWrite, e2, this]
theorem step_s {d : GDevice} (x : GDevStep) (h : DV d) : k115 d x = true ∧ DV (g115 d x).1 := by
  refine sat_hid (t := T115 d x) (P := fun r => DV r.1) ?_
  obtain ⟨a1, a2⟩ := tick_s h
  obtain ⟨b1, b2⟩ := come_s x.V h
  obtain ⟨c1, c2⟩ := read_s x.K h
  obtain ⟨e1, e2⟩ := write_s x.K x.V h
  have c3 := dRead_V x.K h
  have e3 := dWrite_V x.K x.V h
  rw [← c2] at c3
  rw [← e2] at e3
  unfold T115 y115_6 y115_5 y115_4 y115_3 y115_2 y115_1 y115_0
  simp only [sat_ok', sat_br, sat_leaf, eqN_self, a1, b1, c1, e1, Bool.and_true, true_and]
  exact ⟨fun _ => a2, fun _ => ⟨fun _ => b2, fun _ => ⟨fun _ => c3, fun _ => e3⟩⟩⟩
theorem own_s {d : GDevice} (h : DV d) : k116 d = true ∧ g116 d = d := by
  refine sat_hid (t := T116 d) (P := fun r => r = d) ?_
  obtain ⟨r1, r2, r3, r4⟩ := room8 (n := d.Out.length) (by have := h.lo; omega)
  obtain ⟨s1, s2, s3, s4⟩ := room8 (n := d.In.length) (by have := h.li; omega)
  unfold T116 y116_0
  simp only [sat_ok', sat_leaf, eqN_self, r3, r4, s3, s4, Bool.and_true, true_and]
theorem good_s (x : GDevStep) : k114 x = true := by
  refine (sat_hid (t := T114 x) (P := fun _ => True) ?_).1
  have p : ∀ z, k132 z = true := fun z => by simp [k132, hid_eq, T132]
  unfold T114
  simp [p]
theorem port_s (z : Int) : k132 z = true ∧ g132 z = inB z 0 3 := by
  constructor
  · simp [k132, hid_eq, T132]
  · simp [g132, hid_eq, T132]
theorem new_s : k60 = true ∧ g60 = ⟨8, 8, false, [], [], 0⟩ := by
  refine sat_hid (t := T60) (P := fun r => r = ⟨8, 8, false, [], [], 0⟩) ?_
  simp [T60]
end Go.Proofs.YtihfaondfmeglaaDevices

/- Devices: the plain law. -/
namespace Go.Proofs.YtihfaondfmeglaaDevices
open Go Go.Zq
set_option maxHeartbeats 4000000
set_option maxRecDepth 100000

/-! Drawn devices. -/
def ZD : GDevice := ⟨0, 0, false, [], [], 0⟩
def ND : GDevice := ⟨8, 8, false, [], [], 0⟩
theorem ZD_V : DV ZD := ⟨num_nil, num_nil, by simp [ZD], by simp [ZD]⟩
theorem ND_V : DV ND := ⟨num_nil, num_nil, by simp [ND], by simp [ND]⟩
theorem play_loop (l : List GDevStep) (hl : l.length ≤ 80) : i34v1_0 (V34v1_0.mk ZD ND [] (l.map GDevStep.row) (lenI (l.map GDevStep.row)) 0) = true ∧ DV (w34v1_0 (V34v1_0.mk ZD ND [] (l.map GDevStep.row) (lenI (l.map GDevStep.row)) 0)).b1 := by
  unfold i34v1_0 w34v1_0
  refine loop_w (Post := fun w : V34v1_0 => DV w.b1) (loop_sat (fun (m : Nat) (v : V34v1_0) => ∃ i : Nat, DV v.b1 ∧ v.s16 = l.map GDevStep.row ∧ v.s17 = (l.length : Int) ∧ v.s18 = (i : Int) ∧ i + m = l.length ∧ v.s6.length ≤ i) _ ?_ 2097152 l.length _ ⟨0, ND_V, rfl, by simp, rfl, by omega, by simp⟩ (by omega))
  rintro m v ⟨i, hv, h16, h17, h18, hi, h6⟩
  obtain ⟨s1, s2⟩ := room1 (n := v.s6.length) (by omega)
  unfold N34v1_0 y34v1_0_l_9 y34v1_0_l_7 y34v1_0_l_6 y34v1_0_l_4 y34v1_0_l_3 y34v1_0_l_2 y34v1_0_l_1 y34v1_0_l_0
  simp only [sat_ok', sat_br, sat_leaf, eqN_self, z_len.1, s1, s2, h16, h17, h18, good_s, ltI_iff, ltI_f, Bool.and_true, true_and, Int.toNat_natCast]
  constructor
  · intro hlt
    have hil : i < l.length := by omega
    obtain ⟨p1, p2⟩ := steps_in hil
    rw [p1, p2]
    obtain ⟨q1, q2⟩ := step_s l[i] hv
    refine ⟨rfl, fun _ => hv, fun _ => ⟨q1, m - 1, by omega, i + 1, ?_, ?_, by omega, by simp; omega⟩⟩
    · unfold y34v1_0_l_5
      rw [h16, h18, Int.toNat_natCast, p2]
      exact q2
    · rw [addI_eq (by omega)]; rfl
  · intro _
    exact hv
theorem play_s (r : List Row) (hr : Steps r) : k34v1 r = true ∧ DV (g34v1 r).1 := by
  refine sat_hid (t := T34v1 r) (P := fun q => DV q.1) ?_
  obtain ⟨l, rfl⟩ := hr
  obtain ⟨n1, n2⟩ := new_s
  unfold T34v1
  simp only [sat_ok', sat_br, sat_leaf, n1, n2, y34v1_4, y34v1_3, y34v1_2, y34v1_1, y34v1_0, eqN_self, Bool.and_true, true_and, gtI_iff, gtI_f]
  refine ⟨fun _ => ZD_V, fun hn => ?_⟩
  have hl : l.length ≤ 80 := by simp at hn; omega
  obtain ⟨p1, p2⟩ := play_loop l hl
  obtain ⟨q1, q2⟩ := own_s p2
  unfold ZD ND at p1 p2 q1 q2
  refine ⟨p1, fun _ => ZD_V, fun _ => ⟨q1, ?_⟩⟩
  rw [q2]
  exact p2
theorem device_d {B : Int} {c : Gl1Cur} (h : CO B c) (hB : B < 800000000000000000) : k117 c = true ∧ (CO (B + 20000) (g117 c).1 ∧ DV (g117 c).2) := by
  refine sat_hid (t := T117 c) (P := fun r => CO (B + 20000) r.1 ∧ DV r.2) ?_
  obtain ⟨a1, a2, a3, a4⟩ := devSteps_d h (by omega)
  obtain ⟨b1, b2⟩ := play_s _ a3
  obtain ⟨n1, n2⟩ := new_s
  obtain ⟨e1, e2, -⟩ := pick_d 30 a2 (by omega)
  obtain ⟨f1, f2, -⟩ := among_d (r := [rowI (-1), rowI 255, rowI 256]) ⟨[-1, 255, 256], rfl⟩ (by decide) e2 (by omega)
  have hi : DV { g34v1 (g108 c).2 |>.1 with In := [rowI 1, rowI 2, rowI 3, rowI 4, rowI 5] } := ⟨⟨[1, 2, 3, 4, 5], rfl⟩, b2.2, by simp, b2.4⟩
  unfold T117
  simp only [sat_ok', sat_br, sat_leaf, y117_5, y117_4, y117_3, y117_2, y117_1, y117_0, a1, b1, n1, e1, f1, eqN_self, Bool.and_true, true_and]
  refine ⟨fun _ => ⟨fun _ => ⟨f2.mono (by omega), ?_⟩, fun _ => ⟨fun _ => ⟨e2.mono (by omega), ?_⟩, fun _ => ⟨e2.mono (by omega), ?_⟩⟩⟩, fun _ => ⟨fun _ => ⟨f2.mono (by omega), ⟨b2.1, b2.2, b2.3, b2.4⟩⟩, fun _ => ⟨fun _ => ⟨e2.mono (by omega), hi⟩, fun _ => ⟨e2.mono (by omega), b2⟩⟩⟩⟩
  · rw [n2]; exact ⟨num_nil, num_nil, by simp, by simp⟩
  · rw [n2]; exact ⟨⟨[1, 2, 3, 4, 5], rfl⟩, num_nil, by simp, by simp⟩
  · rw [n2]; exact ND_V
theorem start_c {x : List Row} (h : bytesOk x = true) : CO 0 (Gl1Cur.mk x 0 0) := ⟨h, by simp, by simp⟩
end Go.Proofs.YtihfaondfmeglaaDevices

/- Devices: the plain law. -/
namespace Go.Proofs.YtihfaondfmeglaaDevices
open Go Go.Zq
set_option maxHeartbeats 4000000
set_option maxRecDepth 100000

/-! Good devices, by both. -/
theorem bytes_s {r : List Row} (h : Num r) (hl : r.length ≤ 1000) : k85 r = true := by
  obtain ⟨zs, rfl⟩ := h
  rw [ri_len] at hl
  exact (l4Bytes_t zs (by omega)).1
theorem bytes_i {r : List Row} (h : Num r) (hl : r.length ≤ 1000) (n : Int) : k84 r n = true ∧ g84 r n = (leI (r.length : Int) n && g85 r) := by
  obtain ⟨zs, rfl⟩ := h
  rw [ri_len] at hl
  rw [ri_len, (l4Bytes_t zs (by omega)).2]
  exact areBytes_t zs n (by omega)
structure Good (d : GDevice) : Prop where
  e : 0 ≤ d.Every ∧ d.Every ≤ 255
  l : 0 ≤ d.Left ∧ d.Left ≤ d.Every
  i : d.In.length ≤ 4
  o : d.Out.length ≤ 200
  bi : g85 d.In = true
  bo : g85 d.Out = true
  t : 0 ≤ d.Lost ∧ d.Lost ≤ 1000
theorem good_dev {d : GDevice} (h : DV d) : k36 d = true ∧ k119 d = true ∧ g119 d = g36 d ∧ (g36 d = true ↔ Good d) := by
  obtain ⟨a1, a2⟩ := bytes_i h.1 h.3 4
  obtain ⟨b1, b2⟩ := bytes_i h.2 h.4 200
  have c1 := bytes_s h.1 h.3
  have c2 := bytes_s h.2 h.4
  have hg : Good d ↔ inB d.Every 0 255 = true ∧ inB d.Left 0 d.Every = true ∧ (leI (d.In.length : Int) 4 = true ∧ g85 d.In = true) ∧ (leI (d.Out.length : Int) 200 = true ∧ g85 d.Out = true) ∧ inB d.Lost 0 1000 = true := by
    simp only [inB_iff, leI_iff]
    constructor
    · rintro ⟨x1, x2, x3, x4, x5, x6, x7⟩
      exact ⟨x1, x2, ⟨by omega, x5⟩, ⟨by omega, x6⟩, x7⟩
    · rintro ⟨x1, x2, ⟨x3, x5⟩, ⟨x4, x6⟩, x7⟩
      exact ⟨x1, x2, by omega, by omega, x5, x6, x7⟩
  rw [hg]
  unfold k36 g36 T36 k119 g119 T119 y36_2 y119_2 y36_1 y119_1 y36_0 y119_0
  simp only [hid_eq, okv_ok, okv_leaf, val_ok, val_leaf, within_g, within_k, l1In_g, l1In_k, a1, a2, b1, b2, c1, c2, lenI_eq, Bool.true_and, Bool.and_true, Bool.true_or, true_and]
  generalize inB d.Every 0 255 = b1
  generalize inB d.Left 0 d.Every = b2
  generalize leI (d.In.length : Int) 4 = b3
  generalize leI (d.Out.length : Int) 200 = b4
  generalize g85 d.In = b5
  generalize g85 d.Out = b6
  generalize inB d.Lost 0 1000 = b7
  cases b1 <;> cases b2 <;> cases b3 <;> cases b4 <;> cases b5 <;> cases b6 <;> cases b7 <;> simp
theorem own_i {d : GDevice} (h : DV d) : k113 d = true ∧ g113 d = d := by
  refine sat_hid (t := T113 d) (P := fun r => r = d) ?_
  obtain ⟨r1, r2, r3, r4⟩ := room8 (n := d.Out.length) (by have := h.lo; omega)
  obtain ⟨s1, s2, s3, s4⟩ := room8 (n := d.In.length) (by have := h.li; omega)
  unfold T113
  simp only [sat_ok', sat_leaf, y113_2, y113_1, y113_0, eqN_self, same_s, sameR_s, r1, r2, s1, s2, Bool.and_true, true_and]
theorem read_i {d : GDevice} (p : Int) (h : DV d) : k160 p d = true ∧ g160 p d = dRead d p := by
  refine sat_hid (t := T160 p d) (P := fun r => r = dRead d p) ?_
  obtain ⟨f1, f2⟩ := flag_i d.Rung 1
  unfold T160
  simp only [sat_ok', sat_br, sat_leaf, y160_6, y160_5, y160_4, y160_3, y160_2, y160_1, y160_0, eqN_self, z_len.1, z_len.2, take_drop1, f1, f2, eqI_iff, eqI_f, List.take_length, Bool.and_true, true_and]
  refine ⟨fun e => by simp [dRead, e], fun e0 => ⟨fun e => by simp [dRead, e], fun e1 => ⟨fun e2 => ⟨fun e => ?_, fun e => ?_⟩, fun e2 => by simp [dRead, e0, e1, e2]⟩⟩⟩
  · have : d.In.length = 0 := by simpa using e
    simp [dRead, e2, this]
  · have e : d.In.length ≠ 0 := by simpa using e
    have hL : lenI d.In = (d.In.length : Int) := rfl
    refine ⟨?_, ?_, ?_, by simp [dRead, e2, e]⟩
    · rw [Bool.and_eq_true]; exact ⟨by simp; omega, num_has h.1 (by omega)⟩
    · simp only [Bool.and_eq_true, leI_iff, leN_iff, true_and]; omega
    · simp only [Bool.and_eq_true, leI_iff, leN_iff, eqN_iff, List.length_drop, true_and, and_true]; omega
theorem write_i {d : GDevice} (p v : Int) (h : DV d) : k161 p v d = true ∧ g161 p v d = dWrite d p v := by
  refine sat_hid (t := T161 p v d) (P := fun r => r = dWrite d p v) ?_
  obtain ⟨s1, s2⟩ := room1 (n := d.Out.length) (by have := h.lo; omega)
  unfold T161
  simp only [sat_ok', sat_br, sat_leaf, y161_3, y161_2, y161_1, y161_0, eqN_self, z_len.1, z_len.2, s1, s2, eqI_iff, eqI_f, ltI_iff, ltI_f, lenI_eq, Bool.and_true, true_and]
  refine ⟨fun e => by simp [dWrite, e], fun e0 => ⟨fun e => by simp [dWrite, e], fun e1 => ⟨fun e2 => ⟨fun e => ?_, fun e => ?_⟩, fun e2 => by simp [dWrite, e0, e1, e2]⟩⟩⟩
  · have : d.Out.length < 200 := by omega
    simp [dWrite, e2, this]
  · have : ¬ d.Out.length < 200 := by omega
    simp [dWrite, e2, this]
end Go.Proofs.YtihfaondfmeglaaDevices

/- Devices: the plain law. -/
namespace Go.Proofs.YtihfaondfmeglaaDevices
open Go Go.Zq
set_option maxHeartbeats 4000000
set_option maxRecDepth 100000

/-! Steps, by both. -/
def stepB (x : GDevStep) : Bool := bif eqI x.Kind 1 then (eqI x.K 0 && eqI x.V 0) else bif eqI x.Kind 2 then (eqI x.K 0 && inB x.V 0 255) else bif eqI x.Kind 3 then (inB x.K 0 3 && eqI x.V 0) else bif eqI x.Kind 4 then (inB x.K 0 3 && inB x.V 0 255) else false
theorem isStep_i (x : GDevStep) : k111 x = true ∧ g111 x = stepB x := by
  refine sat_hid (t := T111 x) (P := fun r => r = stepB x) ?_
  unfold T111 stepB
  simp only [sat_ok', sat_br, sat_leaf, within_k, within_g, Bool.and_true, Bool.true_or, true_and]
  cases eqI x.Kind 1 <;> cases eqI x.Kind 2 <;> cases eqI x.Kind 3 <;> cases eqI x.Kind 4 <;> cases eqI x.K 0 <;> cases inB x.K 0 3 <;> simp
theorem isStep_s (x : GDevStep) : k114 x = true ∧ g114 x = stepB x := by
  refine sat_hid (t := T114 x) (P := fun r => r = stepB x) ?_
  have p := port_s
  unfold T114 stepB
  simp only [sat_ok', sat_br, sat_leaf, y114_0, (p _).1, (p _).2, l1In_k, l1In_g, Bool.and_true, Bool.true_or, true_and]
  cases eqI x.Kind 1 <;> cases eqI x.Kind 2 <;> cases eqI x.Kind 3 <;> cases eqI x.Kind 4 <;> cases eqI x.K 0 <;> cases inB x.K 0 3 <;> simp
def dTick (d : GDevice) : GDevice := if d.Every = 0 then d else if d.Left ≤ 1 then { d with Left := d.Every, Rung := true } else { d with Left := d.Left - 1 }
def dCome (d : GDevice) (v : Int) : GDevice := if d.In.length < 4 then { d with In := d.In ++ [rowI v] } else if d.Lost < 1000 then { d with Lost := d.Lost + 1 } else d
def dStep (d : GDevice) (x : GDevStep) : GDevice × Int := if x.Kind = 1 then (dTick d, 0) else if x.Kind = 2 then (dCome d x.V, 0) else if x.Kind = 3 then dRead d x.K else (dWrite d x.K x.V, 0)
/-- A good device. -/
structure GD (d : GDevice) : Prop where
  v : DV d
  g : Good d
theorem tick_i {d : GDevice} (h : GD d) : k158 d = true ∧ g158 d = dTick d := by
  refine sat_hid (t := T158 d) (P := fun r => r = dTick d) ?_
  have e : subI d.Left 1 = d.Left - 1 := subI_eq (by have := h.g.l; have := h.g.e; omega)
  unfold T158
  simp only [sat_ok', sat_br, sat_leaf, y158_0, eqN_self, e, eqI_iff, eqI_f, leI_iff, leI_f, Bool.and_true, true_and]
  refine ⟨fun a => by simp [dTick, a], fun a => ⟨fun b => ?_, fun b => ?_⟩⟩
  · have : d.Left ≤ 1 := by omega
    simp [dTick, a, this]
  · have : ¬ d.Left ≤ 1 := by omega
    simp [dTick, a, this]
theorem tick_t {d : GDevice} (h : GD d) : g162 d = dTick d := by
  refine (sat_hid (t := T162 d) (P := fun r => r = dTick d) ?_).2
  have e : subI d.Left 1 = d.Left - 1 := subI_eq (by have := h.g.l; have := h.g.e; omega)
  have l := h.g.l
  unfold T162
  simp only [sat_ok', sat_br, sat_leaf, y162_0, eqN_self, e, eqI_iff, eqI_f, gtI_iff, gtI_f, Bool.and_true, true_and]
  refine ⟨fun a => by simp [dTick, a], fun a => ⟨fun b => ⟨fun c => ?_, fun c => ?_⟩, fun b => ⟨fun c => ?_, fun c => by omega⟩⟩⟩
  · have : d.Left ≤ 1 := by omega
    simp [dTick, a, this]
  · have : ¬ d.Left ≤ 1 := by omega
    simp [dTick, a, this]
  · have : d.Left ≤ 1 := by omega
    simp [dTick, a, this]
theorem come_i {d : GDevice} (v : Int) (h : GD d) : k159 v d = true ∧ g159 v d = dCome d v := by
  refine sat_hid (t := T159 v d) (P := fun r => r = dCome d v) ?_
  obtain ⟨s1, s2⟩ := room1 (n := d.In.length) (by have := h.v.li; omega)
  have l := h.g.i
  have t := h.g.t
  have e : addI d.Lost 1 = d.Lost + 1 := addI_eq (by omega)
  unfold T159
  simp only [sat_ok', sat_br, sat_leaf, y159_2, y159_1, y159_0, eqN_self, z_len.1, z_len.2, s1, s2, e, eqI_iff, eqI_f, lenI_eq, Bool.and_true, true_and]
  refine ⟨fun a => ?_, fun a => ?_⟩
  · have h4 : ¬ d.In.length < 4 := by omega
    unfold dCome minI
    rw [if_neg h4]
    by_cases c : d.Lost < 1000
    · rw [if_pos c]
      by_cases c2 : d.Lost + 1 < 1000
      · rw [if_pos c2]
      · rw [if_neg c2, show d.Lost + 1 = 1000 by omega]
    · rw [if_neg c, if_neg (by omega)]
      have : d.Lost = 1000 := by omega
      rw [← this]
  · have h4 : d.In.length < 4 := by omega
    simp [dCome, h4]
theorem come_t {d : GDevice} (v : Int) (h : GD d) : g163 d v = dCome d v := by
  refine (sat_hid (t := T163 d v) (P := fun r => r = dCome d v) ?_).2
  obtain ⟨r1, r2, r3, r4⟩ := room8 (n := d.In.length) (by have := h.v.li; omega)
  obtain ⟨s1, s2⟩ := room1 (n := d.In.length) (by have := h.v.li; omega)
  have t := h.g.t
  have e : addI d.Lost 1 = d.Lost + 1 := addI_eq (by omega)
  unfold T163
  simp only [sat_ok', sat_br, sat_leaf, y163_3, y163_2, y163_1, y163_0, eqN_self, z_len.1, z_len.2, r3, r4, s1, s2, e, ltI_iff, ltI_f, lenI_eq, Bool.and_true, true_and]
  refine ⟨fun a => ?_, fun a => ⟨fun b => ?_, fun b => ?_⟩⟩
  · have : d.In.length < 4 := by omega
    simp [dCome, this]
  · have : ¬ d.In.length < 4 := by omega
    simp [dCome, this, b]
  · have : ¬ d.In.length < 4 := by omega
    have : ¬ d.Lost < 1000 := by omega
    simp [dCome, *]
theorem by_app {r : List Row} (h : Num r) (hl : r.length ≤ 1000) (v : Int) : g85 (r ++ [rowI v]) = (g85 r && inB v 0 255) := by
  obtain ⟨zs, rfl⟩ := h
  rw [ri_len] at hl
  have e : ri zs ++ [rowI v] = ri (zs ++ [v]) := (ri_append (xs := zs) (ys := [v])).symm
  rw [e, (l4Bytes_t _ (by simp; omega)).2, (l4Bytes_t _ (by omega)).2]
  simp [bytesB]
theorem by_drop {r : List Row} (h : Num r) (hl : r.length ≤ 1000) (hb : g85 r = true) : g85 (r.drop 1) = true := by
  obtain ⟨zs, rfl⟩ := h
  rw [ri_len] at hl
  rw [(l4Bytes_t _ (by omega)).2] at hb
  have e : (ri zs).drop 1 = ri (zs.drop 1) := by simp [ri]
  rw [e, (l4Bytes_t _ (by simp; omega)).2]
  unfold bytesB at *
  rw [List.all_eq_true] at *
  intro z hz
  exact hb z (List.mem_of_mem_drop hz)
theorem tick_G {d : GDevice} (h : GD d) : GD (dTick d) := by
  obtain ⟨⟨a, b, c, e⟩, ⟨x1, x2, x3, x4, x5, x6, x7⟩⟩ := h
  unfold dTick
  split
  · exact ⟨⟨a, b, c, e⟩, ⟨x1, x2, x3, x4, x5, x6, x7⟩⟩
  · split
    · exact ⟨⟨a, b, c, e⟩, ⟨x1, ⟨x1.1, Int.le_refl _⟩, x3, x4, x5, x6, x7⟩⟩
    · exact ⟨⟨a, b, c, e⟩, ⟨x1, ⟨by simp; omega, by simp; omega⟩, x3, x4, x5, x6, x7⟩⟩
theorem come_G {d : GDevice} {v : Int} (h : GD d) (hv : inB v 0 255 = true) : GD (dCome d v) := by
  have hb := by_app h.v.1 h.v.3 v
  obtain ⟨⟨a, b, c, e⟩, ⟨x1, x2, x3, x4, x5, x6, x7⟩⟩ := h
  unfold dCome
  split
  · exact ⟨⟨num_app a (num_one v), b, by simp; omega, e⟩, ⟨x1, x2, by simp; omega, x4, by rw [hb, x5, hv]; rfl, x6, x7⟩⟩
  · split
    · exact ⟨⟨a, b, c, e⟩, ⟨x1, x2, x3, x4, x5, x6, ⟨by simp; omega, by simp; omega⟩⟩⟩
    · exact ⟨⟨a, b, c, e⟩, ⟨x1, x2, x3, x4, x5, x6, x7⟩⟩
theorem read_G {d : GDevice} (p : Int) (h : GD d) : GD (dRead d p).1 := by
  have hb := by_drop h.v.1 h.v.3 h.g.bi
  refine ⟨dRead_V p h.v, ?_⟩
  obtain ⟨⟨a, b, c, e⟩, ⟨x1, x2, x3, x4, x5, x6, x7⟩⟩ := h
  unfold dRead
  split
  · exact ⟨x1, x2, x3, x4, x5, x6, x7⟩
  · split
    · exact ⟨x1, x2, x3, x4, x5, x6, x7⟩
    · split
      · split
        · exact ⟨x1, x2, x3, x4, x5, x6, x7⟩
        · exact ⟨x1, x2, by simp; omega, x4, hb, x6, x7⟩
      · exact ⟨x1, x2, x3, x4, x5, x6, x7⟩
theorem write_G {d : GDevice} (p : Int) {v : Int} (h : GD d) (hv : inB v 0 255 = true) : GD (dWrite d p v) := by
  have hb := by_app h.v.2 h.v.4 v
  have z := (l4Bytes_t [] (by simp)).2
  refine ⟨dWrite_V p v h.v, ?_⟩
  obtain ⟨⟨a, b, c, e⟩, ⟨x1, x2, x3, x4, x5, x6, x7⟩⟩ := h
  have hv' := inB_iff.1 hv
  unfold dWrite
  split
  · exact ⟨hv', ⟨hv'.1, Int.le_refl _⟩, x3, x4, x5, x6, x7⟩
  · split
    · exact ⟨x1, x2, x3, x4, x5, x6, x7⟩
    · split
      · split
        · exact ⟨x1, x2, x3, by simp; omega, x5, by rw [hb, x6, hv]; rfl, x7⟩
        · exact ⟨x1, x2, x3, x4, x5, x6, x7⟩
      · exact ⟨x1, x2, by simp, x4, z, x6, x7⟩
theorem stepB_iff {x : GDevStep} (h : stepB x = true) : (x.Kind = 1 ∧ x.K = 0 ∧ x.V = 0) ∨ (x.Kind = 2 ∧ x.K = 0 ∧ inB x.V 0 255 = true) ∨ (x.Kind = 3 ∧ inB x.K 0 3 = true ∧ x.V = 0) ∨ (x.Kind = 4 ∧ inB x.K 0 3 = true ∧ inB x.V 0 255 = true) := by
  unfold stepB at h
  cases e1 : eqI x.Kind 1
  · cases e2 : eqI x.Kind 2
    · cases e3 : eqI x.Kind 3
      · cases e4 : eqI x.Kind 4
        · rw [e1, e2, e3, e4] at h; simp at h
        · rw [e1, e2, e3, e4] at h
          simp only [cond_false, cond_true, Bool.and_eq_true] at h
          exact .inr (.inr (.inr ⟨eqI_iff.1 e4, h.1, h.2⟩))
      · rw [e1, e2, e3] at h
        simp only [cond_false, cond_true, Bool.and_eq_true, eqI_iff] at h
        exact .inr (.inr (.inl ⟨eqI_iff.1 e3, h.1, h.2⟩))
    · rw [e1, e2] at h
      simp only [cond_false, cond_true, Bool.and_eq_true, eqI_iff] at h
      exact .inr (.inl ⟨eqI_iff.1 e2, h.1, h.2⟩)
  · rw [e1] at h
    simp only [cond_true, Bool.and_eq_true, eqI_iff] at h
    exact .inl ⟨eqI_iff.1 e1, h.1, h.2⟩
theorem step_G {d : GDevice} {x : GDevStep} (h : GD d) (hx : stepB x = true) : GD (dStep d x).1 := by
  unfold dStep
  rcases stepB_iff hx with ⟨a, b, c⟩ | ⟨a, b, c⟩ | ⟨a, b, c⟩ | ⟨a, b, c⟩
  · simp only [a, if_true]; exact tick_G h
  · simp [a]; exact come_G h c
  · simp [a]; exact read_G _ h
  · simp [a]; exact write_G _ h c
theorem step_i {d : GDevice} {x : GDevStep} (h : GD d) (hx : stepB x = true) : k112 x d = true ∧ g112 x d = dStep d x := by
  refine sat_hid (t := T112 x d) (P := fun r => r = dStep d x) ?_
  obtain ⟨a1, a2⟩ := tick_i h
  obtain ⟨b1, b2⟩ := come_i x.V h
  obtain ⟨c1, c2⟩ := read_i x.K h.v
  obtain ⟨e1, e2⟩ := write_i x.K x.V h.v
  unfold T112
  simp only [sat_ok', sat_br, sat_leaf, y112_6, y112_5, y112_4, y112_3, y112_2, y112_1, y112_0, eqN_self, a1, a2, b1, b2, c1, c2, e1, e2, eqI_iff, eqI_f, Bool.and_true, true_and]
  rcases stepB_iff hx with ⟨a, b, c⟩ | ⟨a, b, c⟩ | ⟨a, b, c⟩ | ⟨a, b, c⟩ <;> simp [dStep, a]
theorem step_t {d : GDevice} {x : GDevStep} (h : GD d) (hx : stepB x = true) : k115 d x = true ∧ g115 d x = dStep d x := by
  refine sat_hid (t := T115 d x) (P := fun r => r = dStep d x) ?_
  have a1 := (tick_s h.v).1
  have a2 := tick_t h
  have b1 := (come_s x.V h.v).1
  have b2 := come_t x.V h
  obtain ⟨c1, c2⟩ := read_s x.K h.v
  obtain ⟨e1, e2⟩ := write_s x.K x.V h.v
  unfold T115
  simp only [sat_ok', sat_br, sat_leaf, y115_6, y115_5, y115_4, y115_3, y115_2, y115_1, y115_0, eqN_self, a1, a2, b1, b2, c1, c2, e1, e2, eqI_iff, eqI_f, Bool.and_true, true_and]
  rcases stepB_iff hx with ⟨a, b, c⟩ | ⟨a, b, c⟩ | ⟨a, b, c⟩ | ⟨a, b, c⟩ <;> simp [dStep, a]
end Go.Proofs.YtihfaondfmeglaaDevices

/- Devices: the plain law. -/
namespace Go.Proofs.YtihfaondfmeglaaDevices
open Go Go.Zq
set_option maxHeartbeats 4000000
set_option maxRecDepth 100000

/-! Playing. -/
def stp (l : List GDevStep) : Nat → GDevice × List Row
  | 0 => (ND, [])
  | i + 1 => ((dStep (stp l i).1 (l.getD i ⟨0, 0, 0⟩)).1, (stp l i).2 ++ [rowI (dStep (stp l i).1 (l.getD i ⟨0, 0, 0⟩)).2])
def val (l : List GDevStep) (i : Nat) : Int := (dStep (stp l i).1 (l.getD i ⟨0, 0, 0⟩)).2
theorem stp_rows (l : List GDevStep) : ∀ n, (stp l n).2 = ri ((List.range n).map (val l))
  | 0 => rfl
  | n + 1 => by
    rw [List.range_succ, List.map_append, ri_append]
    show (stp l n).2 ++ _ = _
    rw [stp_rows l n]
    rfl
theorem ND_G : GD ND := ⟨ND_V, ⟨by simp [ND], by simp [ND], by simp [ND], by simp [ND], (l4Bytes_t [] (by simp)).2, (l4Bytes_t [] (by simp)).2, by simp [ND]⟩⟩
theorem getD_at {l : List GDevStep} {i : Nat} (h : i < l.length) : l.getD i ⟨0, 0, 0⟩ = l[i] := by simp [List.getD_eq_getElem?_getD, h]
theorem stp_G {l : List GDevStep} : ∀ i, i ≤ l.length → (∀ j (hj : j < l.length), j < i → stepB l[j] = true) → GD (stp l i).1
  | 0, _, _ => ND_G
  | i + 1, hi, h => by
    have hl : i < l.length := by omega
    show GD (dStep (stp l i).1 (l.getD i ⟨0, 0, 0⟩)).1
    rw [getD_at hl]
    exact step_G (stp_G i (by omega) fun j hj hji => h j hj (by omega)) (h i hl (by omega))
theorem all_f {l : List GDevStep} {i : Nat} (h : i < l.length) (hz : stepB l[i] = false) : l.all stepB = false := by
  rw [List.all_eq_false]
  exact ⟨l[i], List.getElem_mem h, by simp [hz]⟩
theorem all_t {l : List GDevStep} (h : ∀ j (hj : j < l.length), stepB l[j] = true) : l.all stepB = true := by
  rw [List.all_eq_true]
  intro z hz
  obtain ⟨j, hj, rfl⟩ := List.getElem_of_mem hz
  exact h j hj
theorem all_at {l : List GDevStep} (h : l.all stepB = true) {j : Nat} (hj : j < l.length) : stepB l[j] = true := List.all_eq_true.1 h _ (List.getElem_mem hj)
theorem idxS_loop (l : List GDevStep) (hl : l.length < 1000000) : i157_0 (V157_0.mk (l.map GDevStep.row) (lenI (l.map GDevStep.row)) 0) = true ∧ 0 ≤ (w157_0 (V157_0.mk (l.map GDevStep.row) (lenI (l.map GDevStep.row)) 0)).s8 ∧ (ltI (w157_0 (V157_0.mk (l.map GDevStep.row) (lenI (l.map GDevStep.row)) 0)).s8 (w157_0 (V157_0.mk (l.map GDevStep.row) (lenI (l.map GDevStep.row)) 0)).s7 = !l.all stepB) := by
  unfold i157_0 w157_0
  refine loop_w (Post := fun w : V157_0 => 0 ≤ w.s8 ∧ ltI w.s8 w.s7 = !l.all stepB) (loop_sat (fun n v => ∃ i : Nat, v = V157_0.mk (l.map GDevStep.row) (lenI (l.map GDevStep.row)) i ∧ i ≤ l.length ∧ n = l.length - i ∧ ∀ j (hj : j < l.length), j < i → stepB l[j] = true) _ ?_ 2097152 l.length _ ⟨0, rfl, by omega, by omega, fun j _ h => absurd h (by omega)⟩ (by omega))
  rintro n v ⟨i, rfl, hi, rfl, hall⟩
  have c : ∀ x, k110 x = true ∧ g110 x = !stepB x := fun x => by
    obtain ⟨a, b⟩ := isStep_i x
    refine sat_hid (t := T110 x) (P := fun r => r = !stepB x) ?_
    unfold T110
    simp [a, b]
  unfold N157_0
  simp only [sat_ok', sat_br, sat_leaf, lenI_eq, List.length_map, ltI_iff, ltI_f, true_and, Int.toNat_natCast]
  constructor
  · intro h
    have hi' : i < l.length := by omega
    obtain ⟨p1, p2⟩ := steps_in hi'
    rw [p1, p2, (c _).1, (c _).2]
    refine ⟨rfl, fun hz => ?_, fun hz => ?_⟩
    · rw [all_f hi' (by simpa using hz)]
      exact ⟨by omega, by simpa [ltI] using h⟩
    · refine ⟨_, ?_, i + 1, ?_, by omega, rfl, ?_⟩
      · omega
      · rw [addI_eq (by omega)]; rfl
      · intro j hj hji
        by_cases e : j = i
        · subst e; simpa using hz
        · exact hall j hj (by omega)
  · intro h
    rw [all_t fun j hj => hall j hj (by omega)]
    exact ⟨by omega, by simpa [ltI] using h⟩
theorem cont_i (l : List GDevStep) (hl : l.length < 1000000) : k109 (l.map GDevStep.row) = true ∧ g109 (l.map GDevStep.row) = !l.all stepB := by
  obtain ⟨h1, h2, h3⟩ := idxS_loop l hl
  have a : k157 (l.map GDevStep.row) = true ∧ geI (g157 (l.map GDevStep.row)) 0 = !l.all stepB := by
    unfold k157 g157 T157 y157_0
    rw [hid_eq, hid_eq]
    simp only [okv_ok, okv_br, okv_leaf, val_ok, val_br, val_leaf, h1, h3, Bool.true_and]
    cases l.all stepB
    · exact ⟨rfl, by simpa using h2⟩
    · exact ⟨rfl, rfl⟩
  unfold k109 g109 T109
  rw [hid_eq, hid_eq]
  simp only [okv_ok, okv_leaf, val_ok, val_leaf, a.1, a.2, Bool.true_and, and_self]
/-- What playing tells. -/
def playR (l : List GDevStep) : GDevice × List Row × Bool := bif leI (l.length : Int) 80 && l.all stepB then ((stp l l.length).1, (stp l l.length).2, true) else (ZD, [], false)
theorem playT_loop (l : List GDevStep) (hl : l.length ≤ 80) : i34_0 (V34_0.mk ZD ND [] (l.map GDevStep.row) (lenI (l.map GDevStep.row)) 0) = true ∧ (DV (w34_0 (V34_0.mk ZD ND [] (l.map GDevStep.row) (lenI (l.map GDevStep.row)) 0)).b1 ∧ ltI (w34_0 (V34_0.mk ZD ND [] (l.map GDevStep.row) (lenI (l.map GDevStep.row)) 0)).s18 (w34_0 (V34_0.mk ZD ND [] (l.map GDevStep.row) (lenI (l.map GDevStep.row)) 0)).s17 = !l.all stepB ∧ (l.all stepB = true → (w34_0 (V34_0.mk ZD ND [] (l.map GDevStep.row) (lenI (l.map GDevStep.row)) 0)).b1 = (stp l l.length).1 ∧ (w34_0 (V34_0.mk ZD ND [] (l.map GDevStep.row) (lenI (l.map GDevStep.row)) 0)).s6 = (stp l l.length).2)) := by
  unfold i34_0 w34_0
  refine loop_w (Post := fun w : V34_0 => DV w.b1 ∧ ltI w.s18 w.s17 = !l.all stepB ∧ (l.all stepB = true → w.b1 = (stp l l.length).1 ∧ w.s6 = (stp l l.length).2)) (loop_sat (fun (m : Nat) (v : V34_0) => ∃ i : Nat, v = V34_0.mk ZD (stp l i).1 (stp l i).2 (l.map GDevStep.row) (lenI (l.map GDevStep.row)) i ∧ i + m = l.length ∧ ∀ j (hj : j < l.length), j < i → stepB l[j] = true) _ ?_ 2097152 l.length _ ⟨0, rfl, by omega, fun j _ h => absurd h (by omega)⟩ (by omega))
  rintro m v ⟨i, rfl, hi, hall⟩
  have hG := stp_G i (by omega) hall
  have hlen : (stp l i).2.length = i := by rw [stp_rows, ri_len]; simp
  obtain ⟨s1, s2⟩ := room1 (n := (stp l i).2.length) (by omega)
  unfold N34_0
  simp only [sat_ok', sat_br, sat_leaf, y34_0_l_9, y34_0_l_8, y34_0_l_7, y34_0_l_6, y34_0_l_5, y34_0_l_4, y34_0_l_3, y34_0_l_2, y34_0_l_1, y34_0_l_0, eqN_self, z_len.1, s1, s2, lenI_eq, List.length_map, ltI_iff, ltI_f, Bool.and_true, true_and, Int.toNat_natCast]
  constructor
  · intro hlt
    have hil : i < l.length := by omega
    obtain ⟨p1, p2⟩ := steps_in hil
    rw [p1, p2, (isStep_s _).1, (isStep_s _).2]
    refine ⟨rfl, rfl, fun hz => ?_, fun hz => ?_⟩
    · have : stepB l[i] = false := by simpa using hz
      rw [all_f hil this]
      exact ⟨hG.v, by simpa [ltI] using hlt, by simp⟩
    · have hz : stepB l[i] = true := by simpa using hz
      obtain ⟨q1, q2⟩ := step_t hG hz
      refine ⟨q1, m - 1, by omega, i + 1, ?_, by omega, ?_⟩
      · rw [addI_eq (by omega), q2]
        show V34_0.mk _ _ _ _ _ _ = V34_0.mk _ (dStep (stp l i).1 (l.getD i ⟨0, 0, 0⟩)).1 ((stp l i).2 ++ [rowI (dStep (stp l i).1 (l.getD i ⟨0, 0, 0⟩)).2]) _ _ _
        rw [getD_at hil]
        rfl
      · intro j hj hji
        by_cases e : j = i
        · subst e; exact hz
        · exact hall j hj (by omega)
  · intro hge
    have : i = l.length := by omega
    subst this
    rw [all_t fun j hj => hall j hj hj]
    exact ⟨hG.v, by simp [ltI], fun _ => ⟨rfl, rfl⟩⟩
theorem playT (l : List GDevStep) : k34 (l.map GDevStep.row) = true ∧ g34 (l.map GDevStep.row) = playR l := by
  refine sat_hid (t := T34 (l.map GDevStep.row)) (P := fun q => q = playR l) ?_
  obtain ⟨n1, n2⟩ := new_s
  unfold T34
  simp only [sat_ok', sat_br, sat_leaf, y34_5, y34_4, y34_3, y34_2, y34_1, y34_0, n1, n2, eqN_self, Bool.and_true, true_and, gtI_iff, gtI_f, lenI_eq, List.length_map]
  refine ⟨fun h => ?_, fun h => ?_⟩
  · have : leI (l.length : Int) 80 = false := by simp; omega
    simp [playR, this, ZD]
  · have h80 : leI (l.length : Int) 80 = true := by simp; omega
    obtain ⟨p1, p2, p3, p4⟩ := playT_loop l (by omega)
    rw [lenI_eq, List.length_map] at p1 p2 p3 p4
    obtain ⟨q1, q2⟩ := own_s p2
    unfold ZD ND at p1 p2 p3 p4 q1 q2
    refine ⟨p1, fun a => ?_, fun a => ⟨q1, ?_⟩⟩
    · rw [p3] at a
      have : l.all stepB = false := by simpa using a
      simp only [playR, this, Bool.and_false, cond_false, ZD]
    · rw [p3] at a
      have ha : l.all stepB = true := by simpa using a
      obtain ⟨r1, r2⟩ := p4 ha
      rw [q2, r1, r2]
      simp only [playR, ha, h80, Bool.and_true, cond_true]
theorem playI_loop (l : List GDevStep) (hl : l.length ≤ 80) (ha : l.all stepB = true) (z : GDevice) : i33_0 (V33_0.mk z ND [] (l.map GDevStep.row) (lenI (l.map GDevStep.row)) 0) = true ∧ ((w33_0 (V33_0.mk z ND [] (l.map GDevStep.row) (lenI (l.map GDevStep.row)) 0)).b1 = (stp l l.length).1 ∧ (w33_0 (V33_0.mk z ND [] (l.map GDevStep.row) (lenI (l.map GDevStep.row)) 0)).s6 = (stp l l.length).2) := by
  unfold i33_0 w33_0
  refine loop_w (Post := fun w : V33_0 => w.b1 = (stp l l.length).1 ∧ w.s6 = (stp l l.length).2) (loop_sat (fun (m : Nat) (v : V33_0) => ∃ i : Nat, v = V33_0.mk z (stp l i).1 (stp l i).2 (l.map GDevStep.row) (lenI (l.map GDevStep.row)) i ∧ i + m = l.length) _ ?_ 2097152 l.length _ ⟨0, rfl, by omega⟩ (by omega))
  rintro m v ⟨i, rfl, hi⟩
  have hG := stp_G (l := l) i (by omega) fun j hj _ => all_at ha hj
  have hlen : (stp l i).2.length = i := by rw [stp_rows, ri_len]; simp
  obtain ⟨s1, s2⟩ := room1 (n := (stp l i).2.length) (by omega)
  unfold N33_0
  simp only [sat_ok', sat_br, sat_leaf, y33_0_l_9, y33_0_l_8, y33_0_l_7, y33_0_l_6, y33_0_l_5, y33_0_l_4, y33_0_l_3, y33_0_l_2, y33_0_l_1, y33_0_l_0, eqN_self, z_len.1, s1, s2, lenI_eq, List.length_map, ltI_iff, ltI_f, Bool.and_true, true_and, Int.toNat_natCast]
  constructor
  · intro hlt
    have hil : i < l.length := by omega
    obtain ⟨p1, p2⟩ := steps_in hil
    obtain ⟨q1, q2⟩ := step_i hG (all_at ha hil)
    rw [p1, p2]
    refine ⟨rfl, q1, m - 1, by omega, i + 1, ?_, by omega⟩
    rw [addI_eq (by omega), q2]
    show V33_0.mk _ _ _ _ _ _ = V33_0.mk _ (dStep (stp l i).1 (l.getD i ⟨0, 0, 0⟩)).1 ((stp l i).2 ++ [rowI (dStep (stp l i).1 (l.getD i ⟨0, 0, 0⟩)).2]) _ _ _
    rw [getD_at hil]
    rfl
  · intro hge
    have : i = l.length := by omega
    subst this
    exact ⟨rfl, rfl⟩
theorem new_i : k59 = true ∧ g59 = ND := by
  refine sat_hid (t := T59) (P := fun q => q = ND) ?_
  unfold T59 ND
  simp
theorem playI (l : List GDevStep) (hl : l.length ≤ 1000) : k33 (l.map GDevStep.row) = true ∧ g33 (l.map GDevStep.row) = playR l := by
  refine sat_hid (t := T33 (l.map GDevStep.row)) (P := fun q => q = playR l) ?_
  obtain ⟨n1, n2⟩ := new_i
  obtain ⟨c1, c2⟩ := cont_i l (by omega)
  unfold T33
  simp only [sat_ok', sat_br, sat_leaf, y33_6, y33_5, y33_4, y33_3, y33_2, y33_1, y33_0, n1, n2, c1, c2, eqN_self, Bool.and_true, Bool.true_or, true_and, lenI_eq, List.length_map]
  refine ⟨fun h => ?_, fun h => ?_⟩
  · have : (leI (l.length : Int) 80 && l.all stepB) = false := by
      cases hg : gtI (l.length : Int) 80
      · rw [hg] at h
        have : l.all stepB = false := by simpa using h
        rw [this]; simp
      · have : leI (l.length : Int) 80 = false := by simp at hg ⊢; omega
        rw [this]; rfl
    rw [playR, this]; rfl
  · have h80 : l.length ≤ 80 ∧ l.all stepB = true := by
      cases hg : gtI (l.length : Int) 80
      · rw [hg] at h
        exact ⟨by simp at hg; omega, by simpa using h⟩
      · rw [hg] at h; simp at h
    obtain ⟨h80, ha⟩ := h80
    have h80' : leI (l.length : Int) 80 = true := by simp; omega
    generalize GDevice.mk (bif !(gtI (l.length : Int) 80) then 0 else 0) (bif !(gtI (l.length : Int) 80) then 0 else 0) (bif !(gtI (l.length : Int) 80) then false else false) [] [] (bif !(gtI (l.length : Int) 80) then 0 else 0) = z
    obtain ⟨p1, p2, p3⟩ := playI_loop l h80 ha z
    rw [lenI_eq, List.length_map] at p1 p2 p3
    have hG := stp_G (l := l) l.length (by omega) fun j hj _ => all_at ha hj
    obtain ⟨q1, q2⟩ := own_i hG.v
    rw [p2, p3, q2]
    exact ⟨p1, q1, by simp only [playR, ha, h80', Bool.and_true, cond_true]⟩
end Go.Proofs.YtihfaondfmeglaaDevices

/- Devices: the plain law. -/
namespace Go.Proofs.YtihfaondfmeglaaDevices
open Go Go.Zq
set_option maxHeartbeats 4000000
set_option maxRecDepth 100000

/-! One step, and the law. -/
def told (b : Bool) (r : GDevice × Int) : GDevice × Int × Bool := bif b then (r.1, r.2, true) else (ZD, 0, false)
noncomputable def sR (d : GDevice) (x : GDevStep) := told (g36 d && stepB x) (dStep d x)
theorem stepD_i {d : GDevice} (x : GDevStep) (h : DV d) : k38 d x = true ∧ g38 d x = sR d x := by
  refine sat_hid (t := T38 d x) (P := fun q => q = sR d x) ?_
  obtain ⟨a1, -, -, a4⟩ := good_dev h
  obtain ⟨s1, s2⟩ := isStep_i x
  obtain ⟨b1, b2⟩ := own_i h
  unfold T38
  simp only [sat_ok', sat_br, sat_leaf, y38_3, y38_2, y38_1, y38_0, a1, s1, s2, b1, b2, eqN_self, Bool.and_true, Bool.true_or, true_and]
  cases hg : g36 d
  · simp [sR, told, hg, ZD]
  · cases hs : stepB x
    · simp [sR, told, hs, ZD]
    · have G : GD d := ⟨h, a4.1 hg⟩
      obtain ⟨c1, c2⟩ := step_i G hs
      obtain ⟨e1, e2⟩ := own_i (step_G G hs).v
      simp [sR, told, hg, hs, c1, c2, e1, e2]
theorem stepD_s {d : GDevice} (x : GDevStep) (h : DV d) : k39 d x = true ∧ g39 d x = sR d x := by
  refine sat_hid (t := T39 d x) (P := fun q => q = sR d x) ?_
  obtain ⟨-, a1, a2, a4⟩ := good_dev h
  obtain ⟨s1, s2⟩ := isStep_s x
  obtain ⟨b1, b2⟩ := own_s h
  unfold T39
  simp only [sat_ok', sat_br, sat_leaf, y39_7, y39_6, y39_5, y39_4, y39_3, y39_2, y39_1, y39_0, a1, a2, s1, s2, b1, b2, eqN_self, same_s, sameR_s, Bool.and_true, Bool.true_or, true_and]
  cases hg : g36 d
  · simp [sR, told, hg, ZD]
  · cases hs : stepB x
    · simp [sR, told, hs, ZD]
    · have G : GD d := ⟨h, a4.1 hg⟩
      obtain ⟨c1, c2⟩ := step_t G hs
      simp [sR, told, hg, hs, c1, c2]
theorem same_num {r : List Row} (h : Num r) (hl : r.length ≤ 1000) : k20 r r = true ∧ g20 r r = true := by
  obtain ⟨zs, rfl⟩ := h
  rw [ri_len] at hl
  obtain ⟨a, b⟩ := sameInts_t zs zs (by omega)
  exact ⟨a, by rw [b]; simp⟩
theorem same_dev {d : GDevice} (h : DV d) : k35 d d = true ∧ g35 d d = true := by
  refine sat_hid (t := T35 d d) (P := fun q => q = true) ?_
  obtain ⟨a1, a2⟩ := same_num h.1 h.3
  obtain ⟨b1, b2⟩ := same_num h.2 h.4
  unfold T35
  have e1 : ∀ x, eqI x x = true := fun x => by simp
  have e2 : ∀ x, eqB x x = true := fun x => by simp
  simp only [sat_ok', sat_leaf, y35_1, y35_0, a1, a2, b1, b2, e1, e2, cond_true, Bool.and_true, Bool.true_or, true_and]
theorem draw_s {x : List Row} (h : bytesOk x = true) : k37 x = true ∧ DV (g37 x).1 := by
  refine sat_hid (t := T37 x) (P := fun q => DV q.1) ?_
  obtain ⟨a1, a2, a3⟩ := device_d (start_c h) (by omega)
  obtain ⟨b1, b2⟩ := devStep_d a2 (by omega)
  unfold T37
  simp only [sat_ok', sat_leaf, y37_1, y37_0, a1, b1, eqN_self, Bool.and_true, true_and]
  exact a3
theorem draw_p {x : List Row} (h : bytesOk x = true) : k32 x = true ∧ (Steps (g32 x) ∧ (g32 x).length ≤ 100) := by
  refine sat_hid (t := T32 x) (P := fun q => Steps q ∧ q.length ≤ 100) ?_
  obtain ⟨a1, -, a3, a4⟩ := devSteps_d (start_c h) (by omega)
  unfold T32
  simp only [sat_ok', sat_leaf, y32_0, a1, eqN_self, Bool.and_true, true_and]
  exact ⟨a3, a4⟩
/-- How many came and went in the first steps. -/
structure Cnt (l : List GDevStep) (i : Nat) (c g : Int) : Prop where
  c0 : 0 ≤ c ∧ c ≤ i
  g0 : 0 ≤ g ∧ g ≤ i
  le : ((stp l i).1.In.length : Int) + (stp l i).1.Lost ≤ c
  eq : g = 0 → ((stp l i).1.In.length : Int) + (stp l i).1.Lost = c
theorem cnt_step {d : GDevice} {x : GDevStep} (h : GD d) (hx : stepB x = true) (hL : d.Lost ≤ 900) :
    (x.Kind = 2 → ((dStep d x).1.In.length : Int) + (dStep d x).1.Lost = d.In.length + d.Lost + 1) ∧
    (x.Kind ≠ 2 → ((dStep d x).1.In.length : Int) + (dStep d x).1.Lost ≤ d.In.length + d.Lost) ∧
    (x.Kind ≠ 2 → ¬ (x.Kind = 3 ∧ x.K = 2 ∨ x.Kind = 4 ∧ x.K = 3) → ((dStep d x).1.In.length : Int) + (dStep d x).1.Lost = d.In.length + d.Lost) ∧ (x.Kind ≠ 3 → (dStep d x).2 = 0) := by
  have l := h.g.i
  rcases stepB_iff hx with ⟨a, b, c⟩ | ⟨a, b, c⟩ | ⟨a, b, c⟩ | ⟨a, b, c⟩
  · simp only [dStep, a, if_true]
    unfold dTick
    split
    · simp
    · split <;> simp
  · simp [dStep, a]
    unfold dCome
    split
    · simp; omega
    · rw [if_pos (by omega)]; simp; omega
  · simp [dStep, a]
    unfold dRead
    have b := inB_iff.1 b
    split
    · simp
    · split
      · simp
      · split
        · rename_i e
          split
          · simp [e]
          · simp [e]
        · simp
  · simp [dStep, a]
    unfold dWrite
    have b := inB_iff.1 b
    split
    · simp
    · split
      · simp
      · split
        · split <;> simp
        · have : x.K = 3 := by omega
          simp [this]; omega
theorem law_loop (l : List GDevStep) (hl : l.length ≤ 80) (ha : l.all stepB = true) (d : GDevice) (x1 : List Row) :
    i5_0 (V5_0.mk d x1 (stp l l.length).2 0 0 (l.map GDevStep.row) (lenI (l.map GDevStep.row)) 0) = true ∧ ((w5_0 (V5_0.mk d x1 (stp l l.length).2 0 0 (l.map GDevStep.row) (lenI (l.map GDevStep.row)) 0)).b0 = d ∧ (w5_0 (V5_0.mk d x1 (stp l l.length).2 0 0 (l.map GDevStep.row) (lenI (l.map GDevStep.row)) 0)).s1 = x1 ∧ ltI (w5_0 (V5_0.mk d x1 (stp l l.length).2 0 0 (l.map GDevStep.row) (lenI (l.map GDevStep.row)) 0)).s72 (w5_0 (V5_0.mk d x1 (stp l l.length).2 0 0 (l.map GDevStep.row) (lenI (l.map GDevStep.row)) 0)).s71 = false ∧ Cnt l l.length (w5_0 (V5_0.mk d x1 (stp l l.length).2 0 0 (l.map GDevStep.row) (lenI (l.map GDevStep.row)) 0)).s12 (w5_0 (V5_0.mk d x1 (stp l l.length).2 0 0 (l.map GDevStep.row) (lenI (l.map GDevStep.row)) 0)).s13) := by
  unfold i5_0 w5_0
  refine loop_w (Post := fun w : V5_0 => w.b0 = d ∧ w.s1 = x1 ∧ ltI w.s72 w.s71 = false ∧ Cnt l l.length w.s12 w.s13) (loop_sat (fun (m : Nat) (v : V5_0) => ∃ (i : Nat) (c g : Int), v = V5_0.mk d x1 (stp l l.length).2 c g (l.map GDevStep.row) (lenI (l.map GDevStep.row)) i ∧ i + m = l.length ∧ Cnt l i c g) _ ?_ 2097152 l.length _ ⟨0, 0, 0, rfl, by omega, ⟨by omega, by omega, by simp [stp, ND], by simp [stp, ND]⟩⟩ (by omega))
  rintro m v ⟨i, c, g, rfl, hi, hc⟩
  have hG := stp_G (l := l) i (by omega) fun j hj _ => all_at ha hj
  unfold N5_0
  simp only [sat_ok', sat_br, sat_leaf, y5_0_l_1, y5_0_l_0, lenI_eq, List.length_map, ltI_iff, ltI_f, Bool.and_true, true_and, Int.toNat_natCast]
  constructor
  · intro hlt
    have hil : i < l.length := by omega
    obtain ⟨p1, p2⟩ := steps_in hil
    have q0 : intAt (l.map GDevStep.row) i 0 = l[i].Kind := congrArg GDevStep.Kind p2
    have q1 : intAt (l.map GDevStep.row) i 1 = l[i].K := congrArg GDevStep.K p2
    have hx := all_at ha hil
    obtain ⟨z1, z2, z3, z4⟩ := cnt_step hG hx (by have := hc.le; have := hc.c0; omega)
    have hv : intAt (stp l l.length).2 i 0 = (dStep (stp l i).1 l[i]).2 ∧ inRow [.int .i64] (stp l l.length).2 i = true := by
      rw [stp_rows, ri_int (by simpa using hil)]
      refine ⟨?_, ri_inr (by simpa using hil)⟩
      simp [val, hil]
    have hs : (stp l (i + 1)).1 = (dStep (stp l i).1 l[i]).1 := by
      show (dStep (stp l i).1 (l.getD i ⟨0, 0, 0⟩)).1 = _
      rw [getD_at hil]
    rw [p1, q0, q1, hv.1, hv.2]
    refine ⟨rfl, by simp, fun hz => ?_, fun hz => ?_⟩
    · cases e : neI l[i].Kind 3
      · rw [e] at hz; simp at hz
      · rw [e, z4 (by simpa using e)] at hz; simp at hz
    · refine ⟨m - 1, by omega, i + 1, bif eqI l[i].Kind 2 then addI c 1 else c, bif eqI l[i].Kind 2 then g else bif bif bif eqI l[i].Kind 3 then eqI l[i].K 2 else false then true else bif eqI l[i].Kind 4 then eqI l[i].K 3 else false then addI g 1 else g, ?_, by omega, ?_⟩
      · rw [addI_eq (x := (i : Int)) (by omega)]; rfl
      · have ce : addI c 1 = c + 1 := addI_eq (by have := hc.c0; omega)
        have ge : addI g 1 = g + 1 := addI_eq (by have := hc.g0; omega)
        obtain ⟨c0, g0, le, eq⟩ := hc
        by_cases k2 : l[i].Kind = 2
        · have e : eqI l[i].Kind 2 = true := by simp [k2]
          have z1 := z1 k2
          rw [e]
          refine ⟨by simp only [cond_true, ce]; omega, by simp only [cond_true]; omega, by rw [hs]; simp only [cond_true, ce]; omega, ?_⟩
          intro g1
          have := eq g1
          rw [hs]; simp only [cond_true, ce]; omega
        · have e : eqI l[i].Kind 2 = false := by simp [k2]
          have z2 := z2 k2
          rw [e]
          by_cases k3 : l[i].Kind = 3 ∧ l[i].K = 2 ∨ l[i].Kind = 4 ∧ l[i].K = 3
          · have e2 : (bif bif eqI l[i].Kind 3 then eqI l[i].K 2 else false then true else bif eqI l[i].Kind 4 then eqI l[i].K 3 else false) = true := by
              rcases k3 with ⟨y1, y2⟩ | ⟨y1, y2⟩ <;> simp [y1, y2, eqI]
            rw [e2]
            refine ⟨by simp only [cond_false]; omega, by simp only [cond_false, cond_true, ge]; omega, by rw [hs]; simp only [cond_false]; omega, ?_⟩
            intro g1
            simp only [cond_false, cond_true, ge] at g1
            omega
          · have z3 := z3 k2 k3
            have e2 : (bif bif eqI l[i].Kind 3 then eqI l[i].K 2 else false then true else bif eqI l[i].Kind 4 then eqI l[i].K 3 else false) = false := by
              cases y1 : eqI l[i].Kind 3 <;> cases y2 : eqI l[i].K 2 <;> cases y3 : eqI l[i].Kind 4 <;> cases y4 : eqI l[i].K 3 <;> simp_all
            rw [e2]
            refine ⟨by simp only [cond_false]; omega, by simp only [cond_false]; omega, by rw [hs]; simp only [cond_false]; omega, ?_⟩
            intro g1
            have := eq g1
            rw [hs]; simp only [cond_false]; omega
  · intro hge
    have : i = l.length := by omega
    subst this
    exact ⟨Int.le_refl _, hc⟩
theorem sR_tick {d : GDevice} {x : GDevStep} (h : DV d) (hb : (sR d x).2.2 = true) (hk : x.Kind = 1) (he : 0 < d.Every) (hr : d.Rung = false) : eqB (sR d x).1.Rung (leI d.Left 1) = true := by
  unfold sR told at *
  cases hc : g36 d && stepB x
  · rw [hc] at hb; simp at hb
  · have : d.Every ≠ 0 := by omega
    simp only [cond_true, dStep, hk, if_true, dTick, this, if_false, eqB_iff]
    by_cases hl : d.Left ≤ 1
    · simp [hl]
    · simp [hl, hr]
      omega
theorem sR_G {d : GDevice} {x : GDevStep} (h : DV d) : DV (sR d x).1 ∧ ((sR d x).2.2 = true → g36 (sR d x).1 = true) := by
  unfold sR told
  cases hg : g36 d
  · exact ⟨ZD_V, by simp⟩
  · cases hs : stepB x
    · exact ⟨ZD_V, by simp⟩
    · have G : GD d := ⟨h, (good_dev h).2.2.2.1 hg⟩
      have G2 := step_G G hs
      exact ⟨G2.v, fun _ => (good_dev G2.v).2.2.2.2 G2.g⟩
/-- The law's second half. -/
theorem tail_l {x1 : List Row} (h1 : bytesOk x1 = true) :
    k37 x1 = true ∧ k38 (g37 x1).1 (g37 x1).2 = true ∧ k39 (g37 x1).1 (g37 x1).2 = true ∧
    g39 (g37 x1).1 (g37 x1).2 = g38 (g37 x1).1 (g37 x1).2 ∧
    k35 (g38 (g37 x1).1 (g37 x1).2).1 (g38 (g37 x1).1 (g37 x1).2).1 = true ∧
    g35 (g38 (g37 x1).1 (g37 x1).2).1 (g38 (g37 x1).1 (g37 x1).2).1 = true ∧
    k36 (g38 (g37 x1).1 (g37 x1).2).1 = true ∧
    ((g38 (g37 x1).1 (g37 x1).2).2.2 = true → g36 (g38 (g37 x1).1 (g37 x1).2).1 = true) ∧
    ((g38 (g37 x1).1 (g37 x1).2).2.2 = true → (g37 x1).2.Kind = 1 → 0 < (g37 x1).1.Every → (g37 x1).1.Rung = false → eqB (g38 (g37 x1).1 (g37 x1).2).1.Rung (leI (g37 x1).1.Left 1) = true) := by
  obtain ⟨a1, a2⟩ := draw_s h1
  obtain ⟨b1, b2⟩ := stepD_i (g37 x1).2 a2
  obtain ⟨c1, c2⟩ := stepD_s (g37 x1).2 a2
  obtain ⟨d1, d2⟩ := sR_G (x := (g37 x1).2) a2
  obtain ⟨e1, e2⟩ := same_dev d1
  rw [b2, c2]
  exact ⟨a1, b1, c1, rfl, e1, e2, (good_dev d1).1, d2, fun z1 z2 z3 z4 => sR_tick a2 z1 z2 z3 z4⟩
theorem okL (x0 x1 : List Row) (h0 : bytesOk x0 = true) (h1 : bytesOk x1 = true) : k5 x0 x1 = true ∧ g5 x0 x1 = true := by
  refine sat_hid (t := T5 x0 x1) (P := fun q => q = true) ?_
  obtain ⟨a1, ⟨l, al⟩, a3⟩ := draw_p h0
  rw [al, List.length_map] at a3
  obtain ⟨b1, b2⟩ := playI l (by omega)
  obtain ⟨c1, c2⟩ := playT l
  obtain ⟨t1, t2, t3, t4, t5, t6, t7, t8, t9⟩ := tail_l h1
  have hV : DV (playR l).1 ∧ Num (playR l).2.1 ∧ (playR l).2.1.length ≤ 1000 ∧ ((playR l).2.2 = true → l.length ≤ 80 ∧ l.all stepB = true) := by
    unfold playR
    cases hc : leI (l.length : Int) 80 && l.all stepB
    · exact ⟨ZD_V, num_nil, by simp, by simp⟩
    · rw [Bool.and_eq_true] at hc
      have h80 : l.length ≤ 80 := by have := leI_iff.1 hc.1; omega
      refine ⟨(stp_G (l := l) l.length (by omega) fun j hj _ => all_at hc.2 hj).v, ?_, ?_, fun _ => ⟨h80, hc.2⟩⟩
      · rw [cond_true, stp_rows]; exact ⟨_, rfl⟩
      · rw [cond_true, stp_rows, ri_len]; simp; omega
  obtain ⟨v1, v2, v3, v4⟩ := hV
  obtain ⟨e1, e2⟩ := same_dev v1
  obtain ⟨f1, f2⟩ := same_num v2 v3
  have eI : ∀ x, neI x x = false := fun x => by simp
  have eB : ∀ x, eqB x x = true := fun x => by simp
  have tick : ∀ (p : GDevice × Int × Bool) (q : GDevice × GDevStep), (p.2.2 = true → q.2.Kind = 1 → 0 < q.1.Every → q.1.Rung = false → eqB p.1.Rung (leI q.1.Left 1) = true) → (bif bif bif p.2.2 then eqI q.2.Kind 1 else false then gtI q.1.Every 0 else false then !q.1.Rung else false) = true → eqB p.1.Rung (leI q.1.Left 1) = true := fun p q h hz => by
    cases y1 : p.2.2
    · rw [y1] at hz; simp at hz
    · cases y2 : eqI q.2.Kind 1
      · rw [y1, y2] at hz; simp at hz
      · cases y3 : gtI q.1.Every 0
        · rw [y1, y2, y3] at hz; simp at hz
        · cases y4 : q.1.Rung
          · exact h y1 (eqI_iff.1 y2) (gtI_iff.1 y3) y4
          · rw [y1, y2, y3, y4] at hz; simp at hz
  have good : ∀ p : GDevice × Int × Bool, (p.2.2 = true → g36 p.1 = true) → (bif p.2.2 then !(g36 p.1) else false) = false := fun p h => by
    cases y : p.2.2
    · rfl
    · rw [h y]; rfl
  unfold T5
  simp only [sat_ok', sat_br, sat_leaf, y5_11, y5_10, y5_9, y5_8, y5_7, y5_6, y5_5, y5_4, y5_3, y5_2, y5_1, y5_0, al, a1, b1, b2, c1, c2, e1, e2, f1, f2, eI, eB, cond_true, cond_false, Bool.not_true, Bool.not_false, Bool.and_true, Bool.true_and, Bool.true_or, Bool.or_true, Bool.or_false, true_and, and_true, implies_true, Bool.false_eq_true, Bool.true_eq_false, false_implies]
  intro _ _
  constructor
  · intro hp
    obtain ⟨h80, ha⟩ := v4 hp
    have hR : playR l = ((stp l l.length).1, (stp l l.length).2, true) := by
      have : leI (l.length : Int) 80 = true := by simp; omega
      unfold playR
      rw [this, ha]; rfl
    rw [hR]
    have G := stp_G (l := l) l.length (by omega) fun j hj _ => all_at ha hj
    obtain ⟨g1, -, -, g2⟩ := good_dev G.v
    have g3 := g2.2 G.g
    have hlen : (stp l l.length).2.length = l.length := by rw [stp_rows, ri_len]; simp
    obtain ⟨p1, p2, p3, p4, p5⟩ := law_loop l h80 ha (stp l l.length).1 x1
    have z : neI (lenI (stp l l.length).2) (lenI (l.map GDevStep.row)) = false := by simp [hlen]
    have za : addI (lenI (stp l l.length).1.In) (stp l l.length).1.Lost = ((stp l l.length).1.In.length : Int) + (stp l l.length).1.Lost := addI_eq (by have := G.g.i; have := G.g.t; simp only [lenI_eq]; omega)
    have zc : (bif gtI (addI (lenI (stp l l.length).1.In) (stp l l.length).1.Lost) (w5_0 (V5_0.mk (stp l l.length).1 x1 (stp l l.length).2 0 0 (l.map GDevStep.row) (lenI (l.map GDevStep.row)) 0)).s12 then true else bif eqI (w5_0 (V5_0.mk (stp l l.length).1 x1 (stp l l.length).2 0 0 (l.map GDevStep.row) (lenI (l.map GDevStep.row)) 0)).s13 0 then neI (addI (lenI (stp l l.length).1.In) (stp l l.length).1.Lost) (w5_0 (V5_0.mk (stp l l.length).1 x1 (stp l l.length).2 0 0 (l.map GDevStep.row) (lenI (l.map GDevStep.row)) 0)).s12 else false) = false := by
      rw [za]
      have k1 : gtI (((stp l l.length).1.In.length : Int) + (stp l l.length).1.Lost) (w5_0 (V5_0.mk (stp l l.length).1 x1 (stp l l.length).2 0 0 (l.map GDevStep.row) (lenI (l.map GDevStep.row)) 0)).s12 = false := gtI_f.2 p5.le
      rw [k1]
      cases k2 : eqI (w5_0 (V5_0.mk (stp l l.length).1 x1 (stp l l.length).2 0 0 (l.map GDevStep.row) (lenI (l.map GDevStep.row)) 0)).s13 0
      · rfl
      · have := p5.eq (eqI_iff.1 k2)
        rw [this, eI]; rfl
    simp only [g1, g3, z, p1, p2, p3, p4, zc, t1, t2, t3, t4, t5, t6, t7, eI, eB, good _ t8, cond_true, cond_false, Bool.not_true, Bool.not_false, Bool.and_true, Bool.true_and, Bool.true_or, Bool.or_true, Bool.or_false, true_and, and_true, implies_true, Bool.false_eq_true, Bool.true_eq_false, false_implies]
    intros; rename_i hz; exact tick _ _ t9 hz
  · intro _
    simp only [t1, t2, t3, t4, t5, t6, t7, eI, eB, good _ t8, cond_true, cond_false, Bool.not_true, Bool.not_false, Bool.and_true, Bool.true_and, Bool.true_or, Bool.or_true, Bool.or_false, true_and, and_true, implies_true, Bool.false_eq_true, Bool.true_eq_false, false_implies]
    intros; rename_i hz; exact tick _ _ t9 hz
end Go.Proofs.YtihfaondfmeglaaDevices
