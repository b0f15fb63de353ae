/- Ports: the plain law. -/
import Derived.Test.YtihfaondfmeglaaZqPortsQ
import Derived.Test.YtihfaondfmeglaaZmc
set_option linter.unusedVariables false
set_option linter.unusedSimpArgs false
namespace Go.Proofs.YtihfaondfmeglaaPorts
open Go Go.Zq
set_option maxHeartbeats 4000000
set_option maxRecDepth 100000

/-! Bounds, lists of bytes, equal lists. -/
@[simp] theorem within_g (x a b : Int) : g74 x a b = inB x a b := by
  simp only [g74, hid_eq, T74, val_ok, val_leaf, geI, leI, inB, ge_iff_le]
  cases decide (a ≤ x) <;> rfl
@[simp] theorem within_k (x a b : Int) : k74 x a b = true := by
  simp [k74, hid_eq, T74]
@[simp] theorem l1In_g (x a b : Int) : g78 x a b = inB x a b := by
  simp only [g78, hid_eq, T78, val_ok, val_leaf, geI, leI, inB, ge_iff_le]
  cases decide (a ≤ x) <;> rfl
@[simp] theorem l1In_k (x a b : Int) : k78 x a b = true := by
  simp [k78, hid_eq, T78]
theorem bytesB_f {zs : List Int} {i : Nat} (h : i < zs.length) (hz : inB zs[i] 0 255 = false) : bytesB zs = false := by
  unfold bytesB
  rw [List.all_eq_false]
  exact ⟨zs[i], List.getElem_mem h, by simp [hz]⟩
theorem bytesB_t {zs : List Int} (h : ∀ j (hj : j < zs.length), inB zs[j] 0 255 = true) : bytesB zs = true := by
  unfold bytesB
  rw [List.all_eq_true]
  intro z hz
  obtain ⟨j, hj, rfl⟩ := List.getElem_of_mem hz
  exact h j hj
theorem l4_loop (zs : List Int) (hl : zs.length < 1000000) : i85_0 (V85_0.mk (ri zs) (lenI (ri zs)) 0) = true ∧ (ltI (w85_0 (V85_0.mk (ri zs) (lenI (ri zs)) 0)).s7 (w85_0 (V85_0.mk (ri zs) (lenI (ri zs)) 0)).s6 = !bytesB zs) := by
  unfold i85_0 w85_0
  refine loop_w (Post := fun w => ltI w.s7 w.s6 = !bytesB zs) (loop_sat (fun n v => ∃ i : Nat, v = V85_0.mk (ri zs) (lenI (ri zs)) i ∧ i ≤ zs.length ∧ n = zs.length - i ∧ ∀ j (hj : j < zs.length), j < i → inB zs[j] 0 255 = true) _ ?_ 2097152 zs.length _ ⟨0, rfl, by omega, by omega, fun j _ h => absurd h (by omega)⟩ (by omega))
  rintro n v ⟨i, rfl, hi, rfl, hall⟩
  unfold N85_0
  simp only [sat_ok', sat_br, sat_leaf, lenI_eq, ri_len, ltI_iff, ltI_f, true_and, Int.toNat_natCast]
  constructor
  · intro h
    have hi' : i < zs.length := by omega
    rw [ri_inr hi', ri_int hi', l1In_g, l1In_k]
    refine ⟨rfl, rfl, fun hz => ?_, fun hz => ?_⟩
    · rw [bytesB_f hi' (by simpa using hz)]
      simpa [ltI] using h
    · refine ⟨_, ?_, i + 1, ?_, by omega, rfl, ?_⟩
      · omega
      · rw [addI_eq (by omega)]; rfl
      · intro j hj hji
        by_cases e : j = i
        · subst e; simpa using hz
        · exact hall j hj (by omega)
  · intro h
    rw [bytesB_t fun j hj => hall j hj (by omega)]
    simpa [ltI] using h
theorem l4Bytes_t (zs : List Int) (hl : zs.length < 1000000) : k85 (ri zs) = true ∧ g85 (ri zs) = bytesB zs := by
  obtain ⟨h1, h2⟩ := l4_loop zs hl
  unfold k85 g85 T85 y85_0
  rw [hid_eq, hid_eq]
  simp only [okv_ok, okv_br, okv_leaf, val_ok, val_br, val_leaf, h1, h2, Bool.true_and]
  cases bytesB zs <;> exact ⟨rfl, rfl⟩
theorem same_loop (xs ys : List Int) (hl : xs.length < 1000000) (he : xs.length = ys.length) : i20_0 (V20_0.mk (ri xs) (ri ys) (lenI (ri xs)) 0) = true ∧ (ltI (w20_0 (V20_0.mk (ri xs) (ri ys) (lenI (ri xs)) 0)).s13 (w20_0 (V20_0.mk (ri xs) (ri ys) (lenI (ri xs)) 0)).s12 = !decide (xs = ys)) := by
  unfold i20_0 w20_0
  refine loop_w (Post := fun w => ltI w.s13 w.s12 = !decide (xs = ys)) (loop_sat (fun n v => ∃ i : Nat, v = V20_0.mk (ri xs) (ri ys) (lenI (ri xs)) i ∧ i ≤ xs.length ∧ n = xs.length - i ∧ ∀ j (hj : j < xs.length), j < i → xs[j] = ys[j]) _ ?_ 2097152 xs.length _ ⟨0, rfl, by omega, by omega, fun j _ h => absurd h (by omega)⟩ (by omega))
  rintro n v ⟨i, rfl, hi, rfl, hall⟩
  unfold N20_0
  simp only [sat_ok', sat_br, sat_leaf, lenI_eq, ri_len, ltI_iff, ltI_f, true_and, Int.toNat_natCast]
  constructor
  · intro h
    have hi' : i < xs.length := by omega
    have hy' : i < ys.length := by omega
    rw [ri_inr hi', ri_int hi', ri_inr hy', ri_int hy']
    refine ⟨rfl, fun hz => ?_, fun hz => ?_⟩
    · have : xs ≠ ys := fun e => by subst e; simp at hz
      rw [decide_eq_false this]
      simpa [ltI] using h
    · refine ⟨_, ?_, i + 1, ?_, by omega, rfl, ?_⟩
      · omega
      · rw [addI_eq (by omega)]; rfl
      · intro j hj hji
        by_cases e : j = i
        · subst e; simpa using hz
        · exact hall j hj (by omega)
  · intro h
    rw [decide_eq_true (List.ext_getElem he fun j h1 h2 => hall j h1 (by omega))]
    simpa [ltI] using h
theorem sameInts_t (xs ys : List Int) (hl : xs.length < 1000000) : k20 (ri xs) (ri ys) = true ∧ g20 (ri xs) (ri ys) = decide (xs = ys) := by
  unfold k20 g20 T20 y20_0
  rw [hid_eq, hid_eq]
  by_cases he : xs.length = ys.length
  · obtain ⟨h1, h2⟩ := same_loop xs ys hl he
    have e : neI (lenI (ri xs)) (lenI (ri ys)) = false := by simp [he, ri_len]
    simp only [okv_ok, okv_br, okv_leaf, val_ok, val_br, val_leaf, h1, h2, e, Bool.true_and, cond_false]
    cases decide (xs = ys) <;> exact ⟨rfl, rfl⟩
  · have e : neI (lenI (ri xs)) (lenI (ri ys)) = true := by simp [ri_len]; omega
    have : xs ≠ ys := fun e => he (by rw [e])
    simp only [okv_ok, okv_br, okv_leaf, val_ok, val_br, val_leaf, e, decide_eq_false this, Bool.true_and, cond_true, and_self]
theorem byte_g (x : Int) : g148 x = !inB x 0 255 := by
  simp [g148, hid_eq, T148]
theorem byte_k (x : Int) : k148 x = true := by
  simp [k148, hid_eq, T148]
theorem idx_loop (zs : List Int) (hl : zs.length < 1000000) : i149_0 (V149_0.mk (ri zs) (lenI (ri zs)) 0) = true ∧ 0 ≤ (w149_0 (V149_0.mk (ri zs) (lenI (ri zs)) 0)).s8 ∧ (ltI (w149_0 (V149_0.mk (ri zs) (lenI (ri zs)) 0)).s8 (w149_0 (V149_0.mk (ri zs) (lenI (ri zs)) 0)).s7 = !bytesB zs) := by
  unfold i149_0 w149_0
  refine loop_w (Post := fun w => 0 ≤ w.s8 ∧ ltI w.s8 w.s7 = !bytesB zs) (loop_sat (fun n v => ∃ i : Nat, v = V149_0.mk (ri zs) (lenI (ri zs)) i ∧ i ≤ zs.length ∧ n = zs.length - i ∧ ∀ j (hj : j < zs.length), j < i → inB zs[j] 0 255 = true) _ ?_ 2097152 zs.length _ ⟨0, rfl, by omega, by omega, fun j _ h => absurd h (by omega)⟩ (by omega))
  rintro n v ⟨i, rfl, hi, rfl, hall⟩
  unfold N149_0
  simp only [sat_ok', sat_br, sat_leaf, lenI_eq, ri_len, ltI_iff, ltI_f, true_and, Int.toNat_natCast]
  constructor
  · intro h
    have hi' : i < zs.length := by omega
    rw [ri_inr hi', ri_int hi', byte_k, byte_g]
    refine ⟨rfl, fun hz => ?_, fun hz => ?_⟩
    · rw [bytesB_f hi' (by simpa using hz)]
      exact ⟨by omega, by simpa [ltI] using h⟩
    · refine ⟨_, ?_, i + 1, ?_, by omega, rfl, ?_⟩
      · omega
      · rw [addI_eq (by omega)]; rfl
      · intro j hj hji
        by_cases e : j = i
        · subst e; simpa using hz
        · exact hall j hj (by omega)
  · intro h
    rw [bytesB_t fun j hj => hall j hj (by omega)]
    exact ⟨by omega, by simpa [ltI] using h⟩
theorem areBytes_t (zs : List Int) (n : Int) (hl : zs.length < 1000000) : k84 (ri zs) n = true ∧ g84 (ri zs) n = (decide ((zs.length : Int) ≤ n) && bytesB zs) := by
  obtain ⟨h1, h2, h3⟩ := idx_loop zs hl
  have a : k149 (ri zs) = true ∧ geI (g149 (ri zs)) 0 = !bytesB zs := by
    unfold k149 g149 T149 y149_0
    rw [hid_eq, hid_eq]
    simp only [okv_ok, okv_br, okv_leaf, val_ok, val_br, val_leaf, h1, h3, Bool.true_and]
    cases bytesB zs
    · exact ⟨rfl, by simpa using h2⟩
    · exact ⟨rfl, rfl⟩
  have b : k86 (ri zs) = true ∧ g86 (ri zs) = !bytesB zs := by
    unfold k86 g86 T86
    rw [hid_eq, hid_eq]
    simp only [okv_ok, okv_leaf, val_ok, val_leaf, a.1, a.2, Bool.true_and, and_self]
  unfold k84 g84 T84
  rw [hid_eq, hid_eq]
  simp only [okv_ok, okv_leaf, val_ok, val_leaf, b.1, b.2, lenI_eq, ri_len, leI, Bool.true_and, Bool.true_or, Bool.and_true, Bool.not_not, true_and]
  cases decide ((zs.length : Int) ≤ n) <;> rfl
/-! The reader of bytes. -/
def CO (B : Int) (c : Gl1Cur) : Prop := CurOk B c.fcode c.fat
theorem CO.mono {B C : Int} {c : Gl1Cur} (h : CO B c) (hB : B ≤ C) : CO C c := CurOk.mono h hB
theorem far_g (s : Int) : 0 ≤ wrapK .i64 (andK .u64 (shrK .u64 s 40) 255) ∧ wrapK .i64 (andK .u64 (shrK .u64 s 40) 255) < 256 := by
  have e : shrK .u64 s 40 = Int.fdiv s 1099511627776 := by
    unfold shrK
    rw [show ((2 : Int) ^ min (Int.toNat 40) IntKind.u64.bits) = 1099511627776 from by decide]
  unfold wrapK andK
  rw [e]
  exact far_rng s
theorem next_d {B : Int} {c : Gl1Cur} (h : CO B c) (hB : B < 4000000000000000000) : k146 c = true ∧ (CO (B + 1) (g146 c).1 ∧ 0 ≤ (g146 c).2 ∧ (g146 c).2 < 256) := by
  refine sat_hid (t := T146 c) (P := fun r => CO (B + 1) r.1 ∧ 0 ≤ r.2 ∧ r.2 < 256) ?_
  obtain ⟨h1, h2, h3⟩ := h
  have ha : addI c.fat 1 = c.fat + 1 := addI_eq (by omega)
  have hc : CurOk (B + 1) c.fcode (c.fat + 1) := ⟨h1, by omega, by omega⟩
  have hv : 0 ≤ y146_0 c ∧ y146_0 c < 256 := by
    unfold y146_0
    cases hl : ltI c.fat (lenI c.fcode)
    · simp
    · have hl' : c.fat < (c.fcode.length : Int) := by simpa using hl
      obtain ⟨z, -, e, z0, z1⟩ := row_at h1 (j := c.fat.toNat) (by omega)
      rw [cond_true, e, wrap_id (by omega)]
      exact ⟨z0, z1⟩
  have hr : (inRow [.int .u8] c.fcode c.fat || !(ltI c.fat (lenI c.fcode))) = true := by
    cases hl : ltI c.fat (lenI c.fcode)
    · simp
    · have hl' : c.fat < (c.fcode.length : Int) := by simpa using hl
      rw [inRow_byte h1 h2 hl']
      rfl
  unfold T146
  simp only [sat_ok', sat_br, sat_leaf, hr, ha, Bool.and_true, true_and]
  exact ⟨fun _ => ⟨hc, hv⟩, fun _ => ⟨hc, far_g _⟩⟩
theorem pick_d {B : Int} {c : Gl1Cur} (n : Int) (h : CO B c) (hB : B < 3000000000000000000) : k73 n c = true ∧ (CO (B + 2) (g73 n c).1 ∧ 0 ≤ (g73 n c).2 ∧ (2 ≤ n → (g73 n c).2 < n) ∧ (n ≤ 1 → (g73 n c).2 = 0)) := by
  refine sat_hid (t := T73 n c) (P := fun r => CO (B + 2) r.1 ∧ 0 ≤ r.2 ∧ (2 ≤ n → r.2 < n) ∧ (n ≤ 1 → r.2 = 0)) ?_
  obtain ⟨k1, c1, v0, v1⟩ := next_d h (by omega)
  obtain ⟨k2, c2, w0, w1⟩ := next_d c1 (by omega)
  unfold T73
  simp only [sat_ok', sat_br, sat_leaf, k1, k2, leI_iff, leI_f, gtI_iff, gtI_f, neI_iff, Bool.and_true, true_and]
  refine ⟨fun hn => ⟨h.mono (by omega), by omega, by omega, fun _ => trivial⟩, fun hn => ⟨fun hb => ⟨by omega, c2.mono (by omega), ?_⟩, fun hb => ⟨by omega, c1.mono (by omega), ?_⟩⟩⟩
  · have e : mulI (g146 c).2 256 = (g146 c).2 * 256 := mulI_eq (by omega)
    rw [e, addI_eq (by omega)]
    obtain ⟨r0, r1⟩ := rem_rng (x := (g146 c).2 * 256 + (g146 (g146 c).1).2) (n := n) (by omega) (by omega)
    exact ⟨r0, fun _ => r1, by omega⟩
  · obtain ⟨r0, r1⟩ := rem_rng (x := (g146 c).2) (n := n) (by omega) (by omega)
    exact ⟨r0, fun _ => r1, by omega⟩
theorem one_d {B : Int} {c : Gl1Cur} (n : Int) (h : CO B c) (hB : B < 3000000000000000000) : k83 n c = true ∧ CO (B + 2) (g83 n c).1 := by
  refine sat_hid (t := T83 n c) (P := fun r => CO (B + 2) r.1) ?_
  obtain ⟨k1, c1, -⟩ := pick_d n h hB
  unfold T83
  simp only [sat_ok', sat_leaf, k1, Bool.and_true, true_and]
  exact c1
theorem among_d {B : Int} {c : Gl1Cur} {r : List Row} (hr : Num r) (hl : 1 ≤ r.length) (h : CO B c) (hB : B < 3000000000000000000) : k91 r c = true ∧ (CO (B + 2) (g91 r c).1 ∧ ∃ j, j < r.length ∧ (g91 r c).2 = intAt r j 0) := by
  refine sat_hid (t := T91 r c) (P := fun q => CO (B + 2) q.1 ∧ ∃ j, j < r.length ∧ q.2 = intAt r j 0) ?_
  obtain ⟨k1, c1, v0, v1, v2⟩ := pick_d (lenI r) h hB
  rw [lenI_eq] at k1 c1 v0 v1 v2
  have hj : (g73 (r.length : Int) c).2 < (r.length : Int) := by
    by_cases h2 : r.length = 1
    · rw [v2 (by omega)]; omega
    · exact v1 (by omega)
  unfold T91
  simp only [sat_ok', sat_leaf, lenI_eq, k1, num_in hr v0 hj, Bool.and_true, true_and]
  exact ⟨c1, _, by omega, rfl⟩
end Go.Proofs.YtihfaondfmeglaaPorts

/- Ports: the plain law. -/
namespace Go.Proofs.YtihfaondfmeglaaPorts
open Go Go.Zq
set_option maxHeartbeats 4000000
set_option maxRecDepth 100000

/-! Devices: draws, and steps by the reference. -/
structure DV (d : GDevice) : Prop where
  i : Num d.In
  o : Num d.Out
  li : d.In.length ≤ 1000
  lo : d.Out.length ≤ 1000
theorem devStep_d {B : Int} {c : Gl1Cur} (h : CO B c) (hB : B < 2000000000000000000) : k118 c = true ∧ CO (B + 30) (g118 c).1 := by
  refine sat_hid (t := T118 c) (P := fun r => CO (B + 30) r.1) ?_
  have A : ∀ {B' : Int} {c' : Gl1Cur} (r : List Int), CO B' c' → B' < 2500000000000000000 → 1 ≤ r.length → k91 (ri r) c' = true ∧ CO (B' + 2) (g91 (ri r) c').1 := fun r h1 h2 h3 => by
    obtain ⟨a, b, -⟩ := among_d (r := ri r) ⟨r, rfl⟩ (by rw [ri_len]; exact h3) h1 (by omega)
    exact ⟨a, b⟩
  have tl : ∀ {c' : Gl1Cur}, CO (B + 8) c' → k83 60 c' = true ∧ CO (B + 30) (g83 60 c').1 ∧ k73 6 (g83 60 c').1 = true ∧ k73 6 (g73 6 (g83 60 c').1).1 = true ∧ k91 [rowI 0, rowI (-1), rowI 256] (g73 6 (g73 6 (g83 60 c').1).1).1 = true ∧ CO (B + 30) (g91 [rowI 0, rowI (-1), rowI 256] (g73 6 (g73 6 (g83 60 c').1).1).1).1 := fun {c'} hc => by
    obtain ⟨a1, a2⟩ := one_d 60 hc (by omega)
    obtain ⟨b1, b2, -⟩ := pick_d 6 a2 (by omega)
    obtain ⟨e1, e2, -⟩ := pick_d 6 b2 (by omega)
    obtain ⟨f1, f2⟩ := A [0, -1, 256] e2 (by omega) (by decide)
    exact ⟨a1, a2.mono (by omega), b1, e1, f1, f2.mono (by omega)⟩
  obtain ⟨a1, a2⟩ := A [1, 1, 1, 2, 2, 3, 3, 4] h (by omega) (by decide)
  have a1' : k91 [rowI 1, rowI 1, rowI 1, rowI 2, rowI 2, rowI 3, rowI 3, rowI 4] c = true := a1
  have a2' : CO (B + 2) (y118_0 c).1 := a2
  obtain ⟨b1, b2, -⟩ := pick_d 256 a2' (by omega)
  obtain ⟨e1, e2, -⟩ := pick_d 4 a2' (by omega)
  obtain ⟨f1, f2⟩ := A [0, 1, 2, 3, 255] e2 (by omega) (by decide)
  have f1' : k91 [rowI 0, rowI 1, rowI 2, rowI 3, rowI 255] (g73 4 (y118_0 c).1).1 = true := f1
  have t1 := tl (b2.mono (by omega))
  have t2 := tl (e2.mono (by omega))
  have t3 := tl (f2.mono (by omega))
  have t4 := tl (a2'.mono (by omega))
  unfold T118
  simp only [sat_ok', sat_br, sat_leaf, a1', b1, e1, f1', Bool.and_true, true_and]
  refine ⟨fun _ => ?_, fun _ => ⟨fun _ => ?_, fun _ => ⟨fun _ => ?_, fun _ => ?_⟩⟩⟩
  · obtain ⟨p1, p2, p3, p4, p5, p6⟩ := t1
    exact ⟨p1, fun _ => ⟨by rw [Bool.and_eq_true, Bool.and_eq_true]; exact ⟨p3, p4, p5⟩, p6⟩, fun _ => p2⟩
  · obtain ⟨p1, p2, p3, p4, p5, p6⟩ := t2
    exact ⟨p1, fun _ => ⟨by rw [Bool.and_eq_true, Bool.and_eq_true]; exact ⟨p3, p4, p5⟩, p6⟩, fun _ => p2⟩
  · obtain ⟨p1, p2, p3, p4, p5, p6⟩ := t3
    exact ⟨p1, fun _ => ⟨by rw [Bool.and_eq_true, Bool.and_eq_true]; exact ⟨p3, p4, p5⟩, p6⟩, fun _ => p2⟩
  · obtain ⟨p1, p2, p3, p4, p5, p6⟩ := t4
    exact ⟨p1, fun _ => ⟨by rw [Bool.and_eq_true, Bool.and_eq_true]; exact ⟨p3, p4, p5⟩, p6⟩, fun _ => p2⟩
/-- Rows of three numbers. -/
def Steps (r : List Row) : Prop := ∃ l : List GDevStep, r = l.map GDevStep.row
theorem steps_in {l : List GDevStep} {i : Nat} (h : i < l.length) : inRow [.int .i64, .int .i64, .int .i64] (l.map GDevStep.row) (i : Int) = true ∧ GDevStep.at (l.map GDevStep.row) i 0 = l[i] := by
  have e : (l.map GDevStep.row).getD i [] = GDevStep.row l[i] := by simp [List.getD_eq_getElem?_getD, h]
  constructor
  · simp only [inRow, hasRow, Int.toNat_natCast, e, List.length_map]
    have : Nat.blt i l.length = true := by simpa using h
    rw [this]
    rfl
  · unfold GDevStep.at intAt cellAt
    rw [e]
    rfl
theorem steps_loop (n : Nat) (c : Gl1Cur) {B : Int} (h : CO B c) (hB : B + 40 * n < 1000000000000000000) (hn : n ≤ 100000) : i108_0 (V108_0.mk c [] (n : Int)) = true ∧ (CO (B + 40 * n) (w108_0 (V108_0.mk c [] (n : Int))).b0 ∧ Steps (w108_0 (V108_0.mk c [] (n : Int))).s3 ∧ (w108_0 (V108_0.mk c [] (n : Int))).s3.length ≤ n) := by
  unfold i108_0 w108_0
  refine loop_w (Post := fun w : V108_0 => CO (B + 40 * n) w.b0 ∧ Steps w.s3 ∧ w.s3.length ≤ n) (loop_sat (fun (m : Nat) (v : V108_0) => CO (B + 40 * (n - m)) v.b0 ∧ Steps v.s3 ∧ v.s3.length + m ≤ n ∧ v.s4 = (m : Int)) _ ?_ 2097152 n _ ⟨h.mono (by omega), ⟨[], rfl⟩, by simp, rfl⟩ (by omega))
  rintro m v ⟨h1, ⟨l, hl⟩, h3, h4⟩
  unfold N108_0
  simp only [sat_ok', sat_br, sat_leaf, gtI_iff, gtI_f, h4, true_and]
  constructor
  · intro hm
    obtain ⟨k1, k2⟩ := devStep_d h1 (by omega)
    refine ⟨by simp [k1]; omega, by simp [y108_0_l_1], m - 1, by omega, k2.mono (by omega), ?_, by simp; omega, ?_⟩
    · exact ⟨l ++ [(g118 v.b0).2], by rw [hl]; simp⟩
    · rw [subI_eq (by omega)]; omega
  · intro hm
    exact ⟨h1.mono (by omega), ⟨l, hl⟩, by omega⟩
theorem devSteps_d {B : Int} {c : Gl1Cur} (h : CO B c) (hB : B < 900000000000000000) : k108 c = true ∧ (CO (B + 10000) (g108 c).1 ∧ Steps (g108 c).2 ∧ (g108 c).2.length ≤ 100) := by
  refine sat_hid (t := T108 c) (P := fun r => CO (B + 10000) r.1 ∧ Steps r.2 ∧ r.2.length ≤ 100) ?_
  obtain ⟨a1, a2, a3, a4, -⟩ := pick_d 20 h (by omega)
  obtain ⟨b1, b2⟩ := one_d 12 a2 (by omega)
  obtain ⟨e1, e2, e3, e4, -⟩ := pick_d 12 b2 (by omega)
  have a4 := a4 (by omega)
  have e4 := e4 (by omega)
  have e2 : CO (B + 2 + 2 + 2) (y108_0 c).1 := e2
  have e3 : 0 ≤ (y108_0 c).2 := e3
  have e4 : (y108_0 c).2 < 12 := e4
  obtain ⟨n1, hn1⟩ : ∃ n : Nat, (n : Int) = (g73 20 c).2 := ⟨(g73 20 c).2.toNat, by omega⟩
  obtain ⟨n2, hn2⟩ : ∃ n : Nat, (n : Int) = addI 70 (y108_0 c).2 := ⟨(70 + (y108_0 c).2).toNat, by rw [addI_eq (by omega)]; omega⟩
  have hn2' : (n2 : Int) = 70 + (y108_0 c).2 := by rw [hn2, addI_eq (by omega)]
  obtain ⟨p1, p2, p3, p4⟩ := steps_loop n1 _ b2 (by omega) (by omega)
  obtain ⟨q1, q2, q3, q4⟩ := steps_loop n2 _ e2 (by omega) (by omega)
  rw [hn1] at p1 p2 p3 p4
  rw [hn2] at q1 q2 q3 q4
  unfold T108 y108_1 y108_3 y108_2 y108_4
  simp only [sat_ok', sat_br, sat_leaf, a1, b1, e1, p1, q1, eqN_self, Bool.and_true, true_and, y108_1, y108_3]
  exact ⟨fun _ => ⟨q2.mono (by omega), q3, by omega⟩, fun _ => ⟨p2.mono (by omega), p3, by omega⟩⟩
end Go.Proofs.YtihfaondfmeglaaPorts

/- Ports: the plain law. -/
namespace Go.Proofs.YtihfaondfmeglaaPorts
open Go Go.Zq
set_option maxHeartbeats 4000000
set_option maxRecDepth 100000

/-! Devices: what each function makes of one. -/
theorem room8 {n : Nat} (h : n ≤ 2000) : leN (mulN n 8) 140737488355328 = true ∧ leN n 140737488355328 = true ∧ leN (mulN (0 + n) 8) 140737488355328 = true ∧ leN (0 + n) 140737488355328 = true := by
  simp only [leN_iff, mulN_eq]
  omega
theorem room1 {n : Nat} (h : n ≤ 2000) : leN (mulN (n + 1) 8) 140737488355328 = true ∧ leN (n + 1) 140737488355328 = true := by
  simp only [leN_iff, mulN_eq]
  omega
theorem z_len {r : List Row} : eqN (0 + r.length) r.length = true ∧ leN (0 + r.length) r.length = true := by simp
theorem tick_s {d : GDevice} (h : DV d) : k162 d = true ∧ DV (g162 d) := by
  refine sat_hid (t := T162 d) (P := DV) ?_
  unfold T162 y162_0
  simp only [sat_ok', sat_br, sat_leaf, eqN_self, Bool.and_true, true_and]
  exact ⟨fun _ => h, fun _ => ⟨fun _ => ⟨fun _ => ⟨h.1, h.2, h.3, h.4⟩, fun _ => ⟨h.1, h.2, h.3, h.4⟩⟩, fun _ => ⟨fun _ => ⟨h.1, h.2, h.3, h.4⟩, fun _ => h⟩⟩⟩
theorem come_s {d : GDevice} (v : Int) (h : DV d) : k163 d v = true ∧ DV (g163 d v) := by
  refine sat_hid (t := T163 d v) (P := DV) ?_
  obtain ⟨r1, r2, r3, r4⟩ := room8 (n := d.In.length) (by have := h.li; omega)
  obtain ⟨s1, s2⟩ := room1 (n := d.In.length) (by have := h.li; omega)
  unfold T163 y163_3 y163_2 y163_1 y163_0
  simp only [sat_ok', sat_br, sat_leaf, eqN_self, z_len.1, z_len.2, r3, r4, s1, s2, ltI_iff, lenI_eq, Bool.and_true, true_and]
  exact ⟨fun hl => ⟨num_app h.1 (num_one v), h.2, by simp; omega, h.4⟩, fun _ => ⟨fun _ => ⟨h.1, h.2, h.3, h.4⟩, fun _ => h⟩⟩
def dRead (d : GDevice) (p : Int) : GDevice × Int := if p = 0 then (d, d.Every) else if p = 1 then ({ d with Rung := false }, bif d.Rung then 1 else 0) else if p = 2 then (if d.In.length = 0 then (d, 0) else ({ d with In := d.In.drop 1 }, intAt d.In 0 0)) else (d, d.In.length)
def dWrite (d : GDevice) (p v : Int) : GDevice := if p = 0 then { d with Every := v, Left := v } else if p = 1 then { d with Rung := false } else if p = 2 then (if d.Out.length < 200 then { d with Out := d.Out ++ [rowI v] } else d) else { d with In := [] }
theorem flag_s (b : Bool) (v : Int) : k178 b v = true ∧ g178 b v = bif b then v else 0 := by
  refine sat_hid (t := T178 b v) (P := fun r => r = bif b then v else 0) ?_
  cases b <;> simp [T178]
theorem flag_i (b : Bool) (v : Int) : k180 b v = true ∧ g180 b v = bif b then v else 0 := by
  refine sat_hid (t := T180 b v) (P := fun r => r = bif b then v else 0) ?_
  cases b <;> simp [T180]
theorem take_drop1 {r : List Row} : List.take (Int.toNat (lenI r) - 1) (List.drop 1 r) = List.drop 1 r := by
  apply List.take_of_length_le
  simp
theorem num_drop {r : List Row} (h : Num r) (n : Nat) : Num (r.drop n) := by
  obtain ⟨a, rfl⟩ := h
  exact ⟨a.drop n, by simp [ri]⟩
theorem dRead_V {d : GDevice} (p : Int) (h : DV d) : DV (dRead d p).1 := by
  unfold dRead
  split
  · exact h
  · split
    · exact ⟨h.1, h.2, h.3, h.4⟩
    · split
      · split
        · exact h
        · exact ⟨num_drop h.1 1, h.2, by have := h.li; simp; omega, h.4⟩
      · exact h
theorem dWrite_V {d : GDevice} (p v : Int) (h : DV d) : DV (dWrite d p v) := by
  unfold dWrite
  split
  · exact ⟨h.1, h.2, h.3, h.4⟩
  · split
    · exact ⟨h.1, h.2, h.3, h.4⟩
    · split
      · split
        · exact ⟨h.1, num_app h.2 (num_one v), h.3, by simp; omega⟩
        · exact h
      · exact ⟨num_nil, h.2, by simp, h.4⟩
theorem read_s {d : GDevice} (p : Int) (h : DV d) : k133 d p = true ∧ g133 d p = dRead d p := by
  refine sat_hid (t := T133 d p) (P := fun r => r = dRead d p) ?_
  obtain ⟨f1, f2⟩ := flag_s d.Rung 1
  obtain ⟨r1, r2, r3, r4⟩ := room8 (n := (d.In.drop 1).length) (by have := h.li; simp; omega)
  unfold T133 y133_7 y133_6 y133_5 y133_4 y133_3 y133_2 y133_1 y133_0
  simp only [sat_ok', sat_br, sat_leaf, eqN_self, same_s, sameR_s, z_len.1, z_len.2, take_drop1, f1, f2, r3, r4, eqI_iff, eqI_f, Bool.and_true, true_and]
  refine ⟨fun e => by simp [dRead, e], fun e0 => ⟨fun e => by simp [dRead, e], fun e1 => ⟨fun e2 => ⟨fun e => ?_, fun e => ?_⟩, fun e2 => by simp [dRead, e0, e1, e2]⟩⟩⟩
  · have : d.In.length = 0 := by simpa using e
    simp [dRead, e2, this]
  · have e : d.In.length ≠ 0 := by simpa using e
    refine ⟨?_, ?_, by simp [dRead, e2, e]⟩
    · rw [Bool.and_eq_true]; exact ⟨by simp; omega, num_has h.1 (by omega)⟩
    · have hL : lenI d.In = (d.In.length : Int) := rfl
      simp only [Bool.and_eq_true, leI_iff, leN_iff, true_and]; omega
theorem write_s {d : GDevice} (p v : Int) (h : DV d) : k134 d p v = true ∧ g134 d p v = dWrite d p v := by
  refine sat_hid (t := T134 d p v) (P := fun r => r = dWrite d p v) ?_
  obtain ⟨r1, r2, r3, r4⟩ := room8 (n := d.Out.length) (by have := h.lo; omega)
  obtain ⟨s1, s2⟩ := room1 (n := d.Out.length) (by have := h.lo; omega)
  unfold T134 y134_3 y134_2 y134_1 y134_0
  simp only [sat_ok', sat_br, sat_leaf, eqN_self, z_len.1, z_len.2, r3, r4, s1, s2, eqI_iff, eqI_f, ltI_iff, ltI_f, lenI_eq, Bool.and_true, true_and]
  refine ⟨fun e => by simp [dWrite, e], fun e0 => ⟨fun e => by simp [dWrite, e], fun e1 => ⟨fun e2 => ⟨fun e => ?_, fun e => ?_⟩, fun e2 => by simp [dWrite, e0, e1, e2]⟩⟩⟩
  · have : d.Out.length < 200 := by omega
    simp [dWrite, e2, this]
  · have : ¬ d.Out.length < 200 := by omega
    simp [dWrite, e2, this]
theorem step_s {d : GDevice} (x : GDevStep) (h : DV d) : k115 d x = true ∧ DV (g115 d x).1 := by
  refine sat_hid (t := T115 d x) (P := fun r => DV r.1) ?_
  obtain ⟨a1, a2⟩ := tick_s h
  obtain ⟨b1, b2⟩ := come_s x.V h
  obtain ⟨c1, c2⟩ := read_s x.K h
  obtain ⟨e1, e2⟩ := write_s x.K x.V h
  have c3 := dRead_V x.K h
  have e3 := dWrite_V x.K x.V h
  rw [← c2] at c3
  rw [← e2] at e3
  unfold T115 y115_6 y115_5 y115_4 y115_3 y115_2 y115_1 y115_0
  simp only [sat_ok', sat_br, sat_leaf, eqN_self, a1, b1, c1, e1, Bool.and_true, true_and]
  exact ⟨fun _ => a2, fun _ => ⟨fun _ => b2, fun _ => ⟨fun _ => c3, fun _ => e3⟩⟩⟩
theorem own_s {d : GDevice} (h : DV d) : k116 d = true ∧ g116 d = d := by
  refine sat_hid (t := T116 d) (P := fun r => r = d) ?_
  obtain ⟨r1, r2, r3, r4⟩ := room8 (n := d.Out.length) (by have := h.lo; omega)
  obtain ⟨s1, s2, s3, s4⟩ := room8 (n := d.In.length) (by have := h.li; omega)
  unfold T116 y116_0
  simp only [sat_ok', sat_leaf, eqN_self, r3, r4, s3, s4, Bool.and_true, true_and]
theorem good_s (x : GDevStep) : k114 x = true := by
  refine (sat_hid (t := T114 x) (P := fun _ => True) ?_).1
  have p : ∀ z, k132 z = true := fun z => by simp [k132, hid_eq, T132]
  unfold T114
  simp [p]
theorem port_s (z : Int) : k132 z = true ∧ g132 z = inB z 0 3 := by
  constructor
  · simp [k132, hid_eq, T132]
  · simp [g132, hid_eq, T132]
theorem new_s : k60 = true ∧ g60 = ⟨8, 8, false, [], [], 0⟩ := by
  refine sat_hid (t := T60) (P := fun r => r = ⟨8, 8, false, [], [], 0⟩) ?_
  simp [T60]
end Go.Proofs.YtihfaondfmeglaaPorts

/- Ports: the plain law. -/
namespace Go.Proofs.YtihfaondfmeglaaPorts
open Go Go.Zq
set_option maxHeartbeats 4000000
set_option maxRecDepth 100000

/-! Drawn devices. -/
def ZD : GDevice := ⟨0, 0, false, [], [], 0⟩
def ND : GDevice := ⟨8, 8, false, [], [], 0⟩
theorem ZD_V : DV ZD := ⟨num_nil, num_nil, by simp [ZD], by simp [ZD]⟩
theorem ND_V : DV ND := ⟨num_nil, num_nil, by simp [ND], by simp [ND]⟩
theorem play_loop (l : List GDevStep) (hl : l.length ≤ 80) : i34_0 (V34_0.mk ZD ND [] (l.map GDevStep.row) (lenI (l.map GDevStep.row)) 0) = true ∧ DV (w34_0 (V34_0.mk ZD ND [] (l.map GDevStep.row) (lenI (l.map GDevStep.row)) 0)).b1 := by
  unfold i34_0 w34_0
  refine loop_w (Post := fun w : V34_0 => DV w.b1) (loop_sat (fun (m : Nat) (v : V34_0) => ∃ i : Nat, DV v.b1 ∧ v.s16 = l.map GDevStep.row ∧ v.s17 = (l.length : Int) ∧ v.s18 = (i : Int) ∧ i + m = l.length ∧ v.s6.length ≤ i) _ ?_ 2097152 l.length _ ⟨0, ND_V, rfl, by simp, rfl, by omega, by simp⟩ (by omega))
  rintro m v ⟨i, hv, h16, h17, h18, hi, h6⟩
  obtain ⟨s1, s2⟩ := room1 (n := v.s6.length) (by omega)
  unfold N34_0 y34_0_l_9 y34_0_l_7 y34_0_l_6 y34_0_l_4 y34_0_l_3 y34_0_l_2 y34_0_l_1 y34_0_l_0
  simp only [sat_ok', sat_br, sat_leaf, eqN_self, z_len.1, s1, s2, h16, h17, h18, good_s, ltI_iff, ltI_f, Bool.and_true, true_and, Int.toNat_natCast]
  constructor
  · intro hlt
    have hil : i < l.length := by omega
    obtain ⟨p1, p2⟩ := steps_in hil
    rw [p1, p2]
    obtain ⟨q1, q2⟩ := step_s l[i] hv
    refine ⟨rfl, fun _ => hv, fun _ => ⟨q1, m - 1, by omega, i + 1, ?_, ?_, by omega, by simp; omega⟩⟩
    · unfold y34_0_l_5
      rw [h16, h18, Int.toNat_natCast, p2]
      exact q2
    · rw [addI_eq (by omega)]; rfl
  · intro _
    exact hv
theorem play_s (r : List Row) (hr : Steps r) : k34 r = true ∧ DV (g34 r).1 := by
  refine sat_hid (t := T34 r) (P := fun q => DV q.1) ?_
  obtain ⟨l, rfl⟩ := hr
  obtain ⟨n1, n2⟩ := new_s
  unfold T34
  simp only [sat_ok', sat_br, sat_leaf, n1, n2, y34_0, y34_1, y34_2, y34_3, y34_4, eqN_self, Bool.and_true, true_and, gtI_iff, gtI_f]
  refine ⟨fun _ => ZD_V, fun hn => ?_⟩
  have hl : l.length ≤ 80 := by simp at hn; omega
  obtain ⟨p1, p2⟩ := play_loop l hl
  obtain ⟨q1, q2⟩ := own_s p2
  unfold ZD ND at p1 p2 q1 q2
  refine ⟨p1, fun _ => ZD_V, fun _ => ⟨q1, ?_⟩⟩
  rw [q2]
  exact p2
theorem device_d {B : Int} {c : Gl1Cur} (h : CO B c) (hB : B < 800000000000000000) : k117 c = true ∧ (CO (B + 20000) (g117 c).1 ∧ DV (g117 c).2) := by
  refine sat_hid (t := T117 c) (P := fun r => CO (B + 20000) r.1 ∧ DV r.2) ?_
  obtain ⟨a1, a2, a3, a4⟩ := devSteps_d h (by omega)
  obtain ⟨b1, b2⟩ := play_s _ a3
  obtain ⟨n1, n2⟩ := new_s
  obtain ⟨e1, e2, -⟩ := pick_d 30 a2 (by omega)
  obtain ⟨f1, f2, -⟩ := among_d (r := [rowI (-1), rowI 255, rowI 256]) ⟨[-1, 255, 256], rfl⟩ (by decide) e2 (by omega)
  have hi : DV { g34 (g108 c).2 |>.1 with In := [rowI 1, rowI 2, rowI 3, rowI 4, rowI 5] } := ⟨⟨[1, 2, 3, 4, 5], rfl⟩, b2.2, by simp, b2.4⟩
  unfold T117 y117_0 y117_1 y117_2 y117_4 y117_5
  simp only [sat_ok', sat_br, sat_leaf, a1, b1, n1, e1, f1, eqN_self, y117_1, y117_4, Bool.and_true, true_and]
  refine ⟨fun _ => ⟨fun _ => ⟨f2.mono (by omega), ?_⟩, fun _ => ⟨fun _ => ⟨e2.mono (by omega), ?_⟩, fun _ => ⟨e2.mono (by omega), ?_⟩⟩⟩, fun _ => ⟨fun _ => ⟨f2.mono (by omega), ⟨b2.1, b2.2, b2.3, b2.4⟩⟩, fun _ => ⟨fun _ => ⟨e2.mono (by omega), hi⟩, fun _ => ⟨e2.mono (by omega), b2⟩⟩⟩⟩
  · rw [n2]; exact ⟨num_nil, num_nil, by simp, by simp⟩
  · rw [n2]; exact ⟨⟨[1, 2, 3, 4, 5], rfl⟩, num_nil, by simp, by simp⟩
  · rw [n2]; exact ND_V
theorem start_c {x : List Row} (h : bytesOk x = true) : CO 0 (Gl1Cur.mk x 0 0) := ⟨h, by simp, by simp⟩
end Go.Proofs.YtihfaondfmeglaaPorts

/- Ports: the plain law. -/
namespace Go.Proofs.YtihfaondfmeglaaPorts
open Go Go.Zq
set_option maxHeartbeats 4000000
set_option maxRecDepth 100000

/-! Good devices, by both. -/
theorem bytes_s {r : List Row} (h : Num r) (hl : r.length ≤ 1000) : k85 r = true := by
  obtain ⟨zs, rfl⟩ := h
  rw [ri_len] at hl
  exact (l4Bytes_t zs (by omega)).1
theorem bytes_i {r : List Row} (h : Num r) (hl : r.length ≤ 1000) (n : Int) : k84 r n = true ∧ g84 r n = (leI (r.length : Int) n && g85 r) := by
  obtain ⟨zs, rfl⟩ := h
  rw [ri_len] at hl
  rw [ri_len, (l4Bytes_t zs (by omega)).2]
  exact areBytes_t zs n (by omega)
structure Good (d : GDevice) : Prop where
  e : 0 ≤ d.Every ∧ d.Every ≤ 255
  l : 0 ≤ d.Left ∧ d.Left ≤ d.Every
  i : d.In.length ≤ 4
  o : d.Out.length ≤ 200
  bi : g85 d.In = true
  bo : g85 d.Out = true
  t : 0 ≤ d.Lost ∧ d.Lost ≤ 1000
theorem good_dev {d : GDevice} (h : DV d) : k36 d = true ∧ k119 d = true ∧ g119 d = g36 d ∧ (g36 d = true ↔ Good d) := by
  obtain ⟨a1, a2⟩ := bytes_i h.1 h.3 4
  obtain ⟨b1, b2⟩ := bytes_i h.2 h.4 200
  have c1 := bytes_s h.1 h.3
  have c2 := bytes_s h.2 h.4
  have hg : Good d ↔ inB d.Every 0 255 = true ∧ inB d.Left 0 d.Every = true ∧ (leI (d.In.length : Int) 4 = true ∧ g85 d.In = true) ∧ (leI (d.Out.length : Int) 200 = true ∧ g85 d.Out = true) ∧ inB d.Lost 0 1000 = true := by
    simp only [inB_iff, leI_iff]
    constructor
    · rintro ⟨x1, x2, x3, x4, x5, x6, x7⟩
      exact ⟨x1, x2, ⟨by omega, x5⟩, ⟨by omega, x6⟩, x7⟩
    · rintro ⟨x1, x2, ⟨x3, x5⟩, ⟨x4, x6⟩, x7⟩
      exact ⟨x1, x2, by omega, by omega, x5, x6, x7⟩
  rw [hg]
  unfold k36 g36 T36 k119 g119 T119 y36_2 y119_2 y36_1 y119_1 y36_0 y119_0
  simp only [hid_eq, okv_ok, okv_leaf, val_ok, val_leaf, within_g, within_k, l1In_g, l1In_k, a1, a2, b1, b2, c1, c2, lenI_eq, Bool.true_and, Bool.and_true, Bool.true_or, true_and]
  generalize inB d.Every 0 255 = b1
  generalize inB d.Left 0 d.Every = b2
  generalize leI (d.In.length : Int) 4 = b3
  generalize leI (d.Out.length : Int) 200 = b4
  generalize g85 d.In = b5
  generalize g85 d.Out = b6
  generalize inB d.Lost 0 1000 = b7
  cases b1 <;> cases b2 <;> cases b3 <;> cases b4 <;> cases b5 <;> cases b6 <;> cases b7 <;> simp
theorem own_i {d : GDevice} (h : DV d) : k113 d = true ∧ g113 d = d := by
  refine sat_hid (t := T113 d) (P := fun r => r = d) ?_
  obtain ⟨r1, r2, r3, r4⟩ := room8 (n := d.Out.length) (by have := h.lo; omega)
  obtain ⟨s1, s2, s3, s4⟩ := room8 (n := d.In.length) (by have := h.li; omega)
  unfold T113 y113_2 y113_1 y113_0
  simp only [sat_ok', sat_leaf, eqN_self, same_s, sameR_s, r1, r2, s1, s2, Bool.and_true, true_and]
/-- A device and the lengths of its lists, as the program hands it on. -/
def lens (r : GDevice × Int) : GDevice × Int × Nat × Nat := (r.1, r.2, r.1.In.length, r.1.Out.length)
theorem read_i {d : GDevice} (p : Int) (h : DV d) : k160 p d = true ∧ g160 p d = lens (dRead d p) := by
  refine sat_hid (t := T160 p d) (P := fun r => r = lens (dRead d p)) ?_
  obtain ⟨f1, f2⟩ := flag_i d.Rung 1
  unfold T160 y160_4 y160_3 y160_2 y160_1 y160_0
  simp only [sat_ok', sat_br, sat_leaf, eqN_self, z_len.1, z_len.2, take_drop1, f1, f2, eqI_iff, eqI_f, List.take_length, Bool.and_true, true_and]
  refine ⟨fun e => by simp [dRead, lens, e], fun e0 => ⟨fun e => by simp [dRead, lens, e], fun e1 => ⟨fun e2 => ⟨fun e => ?_, fun e => ?_⟩, fun e2 => by simp [dRead, lens, e0, e1, e2]⟩⟩⟩
  · have : d.In.length = 0 := by simpa using e
    simp [dRead, lens, e2, this]
  · have e : d.In.length ≠ 0 := by simpa using e
    have hL : lenI d.In = (d.In.length : Int) := rfl
    refine ⟨?_, ?_, ?_, by simp [dRead, lens, e2, e]⟩
    · rw [Bool.and_eq_true]; exact ⟨by simp; omega, num_has h.1 (by omega)⟩
    · simp only [Bool.and_eq_true, leI_iff, leN_iff, true_and]; omega
    · simp only [Bool.and_eq_true, leI_iff, leN_iff, true_and, and_true]; omega
theorem write_i {d : GDevice} (p v : Int) (h : DV d) : k161 p v d = true ∧ g161 p v d = dWrite d p v := by
  refine sat_hid (t := T161 p v d) (P := fun r => r = dWrite d p v) ?_
  obtain ⟨s1, s2⟩ := room1 (n := d.Out.length) (by have := h.lo; omega)
  unfold T161 y161_3 y161_2 y161_1 y161_0
  simp only [sat_ok', sat_br, sat_leaf, eqN_self, z_len.1, z_len.2, s1, s2, eqI_iff, eqI_f, ltI_iff, ltI_f, lenI_eq, Bool.and_true, true_and]
  refine ⟨fun e => by simp [dWrite, e], fun e0 => ⟨fun e => by simp [dWrite, e], fun e1 => ⟨fun e2 => ⟨fun e => ?_, fun e => ?_⟩, fun e2 => by simp [dWrite, e0, e1, e2]⟩⟩⟩
  · have : d.Out.length < 200 := by omega
    simp [dWrite, e2, this]
  · have : ¬ d.Out.length < 200 := by omega
    simp [dWrite, e2, this]
end Go.Proofs.YtihfaondfmeglaaPorts

/- Ports: the plain law. -/
namespace Go.Proofs.YtihfaondfmeglaaPorts
open Go Go.Zq
set_option maxHeartbeats 4000000
set_option maxRecDepth 100000

/-! Ports, and the law. -/
theorem isStep_r (p : Int) : k111 (GDevStep.mk 3 p 0) = true ∧ g111 (GDevStep.mk 3 p 0) = inB p 0 3 := by
  refine sat_hid (t := T111 (GDevStep.mk 3 p 0)) (P := fun r => r = inB p 0 3) ?_
  unfold T111
  simp
theorem isStep_w (p v : Int) : k111 (GDevStep.mk 4 p v) = true ∧ g111 (GDevStep.mk 4 p v) = (inB p 0 3 && inB v 0 255) := by
  refine sat_hid (t := T111 (GDevStep.mk 4 p v)) (P := fun r => r = (inB p 0 3 && inB v 0 255)) ?_
  unfold T111
  simp
theorem step_r {d : GDevice} (p : Int) (h : DV d) : k112 (GDevStep.mk 3 p 0) d = true ∧ g112 (GDevStep.mk 3 p 0) d = lens (dRead d p) := by
  refine sat_hid (t := T112 (GDevStep.mk 3 p 0) d) (P := fun r => r = lens (dRead d p)) ?_
  obtain ⟨a1, a2⟩ := read_i p h
  unfold T112 y112_2 y112_1 y112_0
  simp [a1, a2, lens]
theorem step_w {d : GDevice} (p v : Int) (h : DV d) : k112 (GDevStep.mk 4 p v) d = true ∧ g112 (GDevStep.mk 4 p v) d = lens (dWrite d p v, 0) := by
  refine sat_hid (t := T112 (GDevStep.mk 4 p v) d) (P := fun r => r = lens (dWrite d p v, 0)) ?_
  obtain ⟨a1, a2⟩ := write_i p v h
  unfold T112 y112_2 y112_1 y112_0
  simp [a1, a2, lens]
def told (b : Bool) (r : GDevice × Int) : GDevice × Int × Bool := bif b then (r.1, r.2, true) else (ZD, 0, false)
theorem stepD {d : GDevice} {x : GDevStep} {b : Bool} {r : GDevice × Int} (h : DV d) (hs : k111 x = true ∧ g111 x = b) (hx : k112 x d = true ∧ g112 x d = lens r) (hr : DV r.1) :
    k38 d x = true ∧ g38 d x = told (g36 d && b) r := by
  refine sat_hid (t := T38 d x) (P := fun q => q = told (g36 d && b) r) ?_
  obtain ⟨a1, -, -, -⟩ := good_dev h
  obtain ⟨b1, b2⟩ := own_i h
  obtain ⟨c1, c2⟩ := own_i hr
  obtain ⟨s1, s2⟩ := hs
  obtain ⟨x1, x2⟩ := hx
  have t1 : List.take r.1.In.length r.1.In = r.1.In := List.take_length
  have t2 : List.take r.1.Out.length r.1.Out = r.1.Out := List.take_length
  unfold T38 y38_3 y38_2 y38_1 y38_0
  simp only [sat_ok', sat_br, sat_leaf, a1, b1, b2, s1, s2, x1, x2, lens, t1, t2, c1, c2, eqN_self, z_len.2, Bool.and_true, Bool.true_or, true_and]
  cases g36 d <;> cases b <;> simp [told, ZD]
noncomputable def pRead (d : GDevice) (p : Int) := told (g36 d && inB p 0 3) (dRead d p)
noncomputable def pWrite (d : GDevice) (p v : Int) := told (g36 d && (inB p 0 3 && inB v 0 255)) (dWrite d p v, 0)
theorem pr_i {d : GDevice} (p : Int) (h : DV d) : k51 d p = true ∧ g51 d p = pRead d p := by
  refine sat_hid (t := T51 d p) (P := fun q => q = pRead d p) ?_
  obtain ⟨a1, a2⟩ := stepD h (isStep_r p) (step_r p h) (dRead_V p h)
  unfold T51 y51_1 y51_0
  simp only [sat_ok', sat_leaf, a1, a2, eqN_self, Bool.and_true, true_and]
  rfl
theorem pw_i {d : GDevice} (p v : Int) (h : DV d) : k54 d p v = true ∧ g54 d p v = ((pWrite d p v).1, (pWrite d p v).2.2) := by
  refine sat_hid (t := T54 d p v) (P := fun q => q = ((pWrite d p v).1, (pWrite d p v).2.2)) ?_
  obtain ⟨a1, a2⟩ := stepD h (isStep_w p v) (step_w p v h) (dWrite_V p v h)
  unfold T54 y54_1 y54_0
  simp only [sat_ok', sat_leaf, a1, a2, eqN_self, Bool.and_true, true_and]
  rfl
theorem pr_s {d : GDevice} (p : Int) (h : DV d) : k52 d p = true ∧ g52 d p = pRead d p := by
  refine sat_hid (t := T52 d p) (P := fun q => q = pRead d p) ?_
  obtain ⟨-, a1, a2, -⟩ := good_dev h
  obtain ⟨b1, b2⟩ := own_s h
  obtain ⟨c1, c2⟩ := read_s p h
  obtain ⟨e1, e2⟩ := port_s p
  unfold T52 y52_2 y52_1 y52_0 pRead
  simp only [sat_ok', sat_br, sat_leaf, a1, a2, b1, b2, c1, c2, e1, e2, eqN_self, Bool.and_true, Bool.true_or, true_and]
  cases g36 d <;> cases inB p 0 3 <;> simp [told, ZD]
theorem pw_s {d : GDevice} (p v : Int) (h : DV d) : k55 d p v = true ∧ g55 d p v = ((pWrite d p v).1, (pWrite d p v).2.2) := by
  refine sat_hid (t := T55 d p v) (P := fun q => q = ((pWrite d p v).1, (pWrite d p v).2.2)) ?_
  obtain ⟨-, a1, a2, -⟩ := good_dev h
  obtain ⟨b1, b2⟩ := own_s h
  obtain ⟨c1, c2⟩ := write_s p v h
  obtain ⟨e1, e2⟩ := port_s p
  unfold T55 y55_3 y55_2 y55_1 y55_0 pWrite
  simp only [sat_ok', sat_br, sat_leaf, a1, a2, b1, b2, c1, c2, e1, e2, l1In_g, l1In_k, eqN_self, Bool.and_true, Bool.true_or, true_and]
  cases g36 d <;> cases inB p 0 3 <;> cases inB v 0 255 <;> simp [told, ZD]
theorem told_V {b : Bool} {r : GDevice × Int} (h : DV r.1) : DV (told b r).1 := by
  cases b
  · exact ZD_V
  · exact h
theorem same_num {r : List Row} (h : Num r) (hl : r.length ≤ 1000) : k20 r r = true ∧ g20 r r = true := by
  obtain ⟨zs, rfl⟩ := h
  rw [ri_len] at hl
  obtain ⟨a, b⟩ := sameInts_t zs zs (by omega)
  exact ⟨a, by rw [b]; simp⟩
theorem same_dev {d : GDevice} (h : DV d) : k35 d d = true ∧ g35 d d = true := by
  refine sat_hid (t := T35 d d) (P := fun q => q = true) ?_
  obtain ⟨a1, a2⟩ := same_num h.1 h.3
  obtain ⟨b1, b2⟩ := same_num h.2 h.4
  unfold T35 y35_1 y35_0
  have e1 : ∀ x, eqI x x = true := fun x => by simp
  have e2 : ∀ x, eqB x x = true := fun x => by simp
  simp only [sat_ok', sat_leaf, a1, a2, b1, b2, e1, e2, cond_true, Bool.and_true, Bool.true_or, true_and]
def lev (d : GDevice) : Int := bif d.Rung then 5 else bif gtI (lenI d.In) 0 then 2 else 0
theorem lev_i {d : GDevice} (h : DV d) : k57 d = true ∧ g57 d = (bif g36 d then (lev d, true) else (0, false)) := by
  refine sat_hid (t := T57 d) (P := fun q => q = (bif g36 d then (lev d, true) else (0, false))) ?_
  obtain ⟨a1, -⟩ := good_dev h
  have b : k136 d = true ∧ g136 d = lev d := by
    refine sat_hid (t := T136 d) (P := fun q => q = lev d) ?_
    unfold T136 lev
    cases d.Rung <;> cases gtI (lenI d.In) 0 <;> simp
  unfold T57
  cases g36 d <;> simp [a1, b.1, b.2]
theorem lev_s {d : GDevice} (h : DV d) : k58 d = true ∧ g58 d = (bif g36 d then (lev d, true) else (0, false)) := by
  refine sat_hid (t := T58 d) (P := fun q => q = (bif g36 d then (lev d, true) else (0, false))) ?_
  obtain ⟨-, a1, a2, -⟩ := good_dev h
  have b : k137 d = true ∧ g137 d = lev d := by
    refine sat_hid (t := T137 d) (P := fun q => q = lev d) ?_
    unfold T137 lev
    cases d.Rung <;> cases gtI (lenI d.In) 0 <;> simp
  unfold T58
  rw [a2]
  cases g36 d <;> simp [a1, b.1, b.2]
theorem draw_r {x : List Row} (h : bytesOk x = true) : k50 x = true ∧ DV (g50 x).1 := by
  refine sat_hid (t := T50 x) (P := fun q => DV q.1) ?_
  obtain ⟨a1, a2, a3⟩ := device_d (start_c h) (by omega)
  obtain ⟨b1, b2, -⟩ := pick_d 6 a2 (by omega)
  unfold T50 y50_1 y50_0
  simp only [sat_ok', sat_leaf, a1, b1, eqN_self, Bool.and_true, true_and]
  exact a3
theorem draw_w {x : List Row} (h : bytesOk x = true) : k53 x = true ∧ DV (g53 x).1 := by
  refine sat_hid (t := T53 x) (P := fun q => DV q.1) ?_
  obtain ⟨a1, a2, a3⟩ := device_d (start_c h) (by omega)
  obtain ⟨b1, b2, -⟩ := pick_d 6 a2 (by omega)
  obtain ⟨e1, e2, -⟩ := among_d (r := [rowI (-1), rowI 0, rowI 1, rowI 200, rowI 255, rowI 256]) ⟨[-1, 0, 1, 200, 255, 256], rfl⟩ (by decide) b2 (by omega)
  unfold T53 y53_1 y53_0
  simp only [sat_ok', sat_leaf, a1, b1, e1, eqN_self, Bool.and_true, true_and]
  exact a3
theorem draw_l {x : List Row} (h : bytesOk x = true) : k56 x = true ∧ DV (g56 x) := by
  refine sat_hid (t := T56 x) (P := DV) ?_
  have b : k135 x = true ∧ DV (g135 x) := by
    refine sat_hid (t := T135 x) (P := DV) ?_
    obtain ⟨a1, a2, a3⟩ := device_d (start_c h) (by omega)
    unfold T135 y135_2
    simp only [sat_ok', sat_leaf, a1, eqN_self, Bool.and_true, true_and]
    exact a3
  unfold T56
  simp [b.1, b.2]
theorem okL (x0 x1 : List Row) (h0 : bytesOk x0 = true) (h1 : bytesOk x1 = true) : k7 x0 x1 = true ∧ g7 x0 x1 = true := by
  refine sat_hid (t := T7 x0 x1) (P := fun q => q = true) ?_
  obtain ⟨a1, a2⟩ := draw_r h0
  obtain ⟨b1, b2⟩ := draw_w h1
  obtain ⟨c1, c2⟩ := draw_l h1
  obtain ⟨d1, d2⟩ := pr_i (g50 x0).2 a2
  obtain ⟨e1, e2⟩ := pr_s (g50 x0).2 a2
  obtain ⟨f1, f2⟩ := pw_i (g53 x1).2.1 (g53 x1).2.2 b2
  obtain ⟨i1, i2⟩ := pw_s (g53 x1).2.1 (g53 x1).2.2 b2
  obtain ⟨j1, j2⟩ := lev_i c2
  obtain ⟨m1, m2⟩ := lev_s c2
  obtain ⟨n1, n2⟩ := same_dev (told_V (b := g36 (g50 x0).1 && inB (g50 x0).2 0 3) (dRead_V (g50 x0).2 a2))
  obtain ⟨o1, o2⟩ := same_dev (told_V (b := g36 (g53 x1).1 && (inB (g53 x1).2.1 0 3 && inB (g53 x1).2.2 0 255)) (r := (dWrite (g53 x1).1 (g53 x1).2.1 (g53 x1).2.2, 0)) (dWrite_V (g53 x1).2.1 (g53 x1).2.2 b2))
  obtain ⟨p1, p2⟩ := good_dev c2
  obtain ⟨q1, -, -, q2⟩ := good_dev ND_V
  obtain ⟨r1, r2⟩ := same_dev ND_V
  have s1 : k59 = true ∧ g59 = ND := by
    refine sat_hid (t := T59) (P := fun q => q = ND) ?_
    unfold T59 ND
    simp
  have s2 : k60v1 = true ∧ g60v1 = ND := by
    refine sat_hid (t := T60v1) (P := fun q => q = ND) ?_
    unfold T60v1 ND
    simp
  have s3 : g36 ND = true := q2.2 ⟨by simp [ND], by simp [ND], by simp [ND], by simp [ND], (l4Bytes_t [] (by simp)).2, (l4Bytes_t [] (by simp)).2, by simp [ND]⟩
  have eI : ∀ x, neI x x = false := fun x => by simp
  have eB : ∀ x, eqB x x = true := fun x => by simp
  have hD : g51 (g50 x0).1 (g50 x0).2 = g52 (g50 x0).1 (g50 x0).2 := d2.trans e2.symm
  have third : y7_5 x0 = true → inRow [.int .i64] (g50 x0).1.In 0 = true ∧ leI 1 (lenI (g50 x0).1.In) = true ∧ leI (lenI (g50 x0).1.In) (lenI (g50 x0).1.In) = true ∧ y7_4 x0 = false ∧ k20 (y7_0 x0).1.In (y7_3 x0) = true ∧ g20 (y7_0 x0).1.In (y7_3 x0) = true := fun hy => by
    unfold y7_5 y7_0 at hy
    unfold y7_4 y7_3 y7_0
    rw [d2] at hy ⊢
    generalize (g50 x0).1 = d at *
    generalize (g50 x0).2 = p at *
    cases ho : (pRead d p).2.2
    · rw [ho] at hy; simp at hy
    · rw [ho] at hy
      have hp : p = 2 ∧ 0 < d.In.length := by
        by_cases e : p = 2
        · subst e; simp at hy; exact ⟨rfl, by omega⟩
        · have : eqI p 2 = false := by simp [e]
          rw [this] at hy; simp at hy
      obtain ⟨rfl, hlen⟩ := hp
      have hr : pRead d 2 = ({ d with In := d.In.drop 1 }, intAt d.In 0 0, true) := by
        unfold pRead told at ho ⊢
        cases hb : g36 d && inB 2 0 3
        · rw [hb] at ho; simp at ho
        · have : d.In.length ≠ 0 := by omega
          simp [dRead, this]
      rw [hr, take_drop1]
      have hL : lenI d.In = (d.In.length : Int) := rfl
      obtain ⟨t1, t2⟩ := same_num (num_drop a2.1 1) (by have := a2.li; simp; omega)
      exact ⟨num_in a2.1 (by omega) (by omega), by simp; omega, by simp, eI _, t1, t2⟩
  have h3 : (bif y7_5 x0 then (bif y7_4 x0 then true else !(g20 (y7_0 x0).1.In (y7_3 x0))) else false) = false := by
    cases hy : y7_5 x0
    · rfl
    · obtain ⟨-, -, -, z4, -, z6⟩ := third hy
      rw [z4, z6]; rfl
  have h4 : ((inRow [.int .i64] (g50 x0).1.In 0 && (leI 1 (lenI (g50 x0).1.In) && leI (lenI (g50 x0).1.In) (lenI (g50 x0).1.In) && k20 (y7_0 x0).1.In (y7_3 x0) || y7_4 x0)) || !(y7_5 x0)) = true := by
    cases hy : y7_5 x0
    · simp
    · obtain ⟨z1, z2, z3, z4, z5, z6⟩ := third hy
      rw [z1, z2, z3, z5]; rfl
  have h2 : y7_2 x0 = false := by
    unfold y7_2 y7_0 y7_1
    rw [hD, eB, eI]; rfl
  have h8 : y7_8 x1 = false := by
    unfold y7_8 y7_6 y7_7
    rw [f2, i2, j2, m2, eB, eB, eI]
    rw [show g35 (pWrite (g53 x1).1 (g53 x1).2.1 (g53 x1).2.2).1 (pWrite (g53 x1).1 (g53 x1).2.1 (g53 x1).2.2).1 = true from o2]
    rfl
  have n1' : k35 (y7_0 x0).1 (y7_1 x0).1 = true ∧ g35 (y7_0 x0).1 (y7_1 x0).1 = true := by
    unfold y7_0 y7_1
    rw [hD, e2]
    exact ⟨n1, n2⟩
  have o1' : k35 (y7_6 x1).1 (y7_7 x1).1 = true := by
    unfold y7_6 y7_7
    rw [f2, i2]
    exact o1
  have h9 : (bif (g57 (g56 x1)).2 then (bif !(eqB (g56 x1).Rung (eqI (g57 (g56 x1)).1 5)) then true else (bif !(g56 x1).Rung then !(eqB (gtI (lenI (g56 x1).In) 0) (eqI (g57 (g56 x1)).1 2)) else false)) else false) = false := by
    rw [j2]
    generalize g56 x1 = d
    unfold lev
    cases g36 d
    · rfl
    · cases d.Rung <;> cases gtI (lenI d.In) 0 <;> rfl
  have h10 : eqB (g36 (g56 x1)) (g57 (g56 x1)).2 = true := by
    rw [j2]
    cases g36 (g56 x1) <;> rfl
  unfold T7
  simp only [sat_ok', sat_br, sat_leaf, a1, b1, c1, d1, e1, f1, i1, j1, m1, n1'.1, n1'.2, o1', p1, h2, h3, h4, h8, h9, h10, s1.1, s1.2, s2.1, s2.2, s3, q1, r1, r2, cond_true, cond_false, Bool.not_true, Bool.and_true, Bool.true_and, Bool.true_or, Bool.or_true, Bool.or_false, Bool.false_or, Bool.not_false, true_and, and_true, implies_true, Bool.false_eq_true, Bool.true_eq_false, false_implies]
end Go.Proofs.YtihfaondfmeglaaPorts
