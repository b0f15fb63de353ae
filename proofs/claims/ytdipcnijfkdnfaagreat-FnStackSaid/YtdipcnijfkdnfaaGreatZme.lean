import Derived.Test.YtdipcnijfkdnfaaGreatZqStackQ
import Derived.Test.YtdipcnijfkdnfaaGreatZmc
import Derived.Test.YtdipcnijfkdnfaaGreatZmd
set_option linter.unusedVariables false
set_option linter.unusedSimpArgs false
namespace Go.Proofs.YtdipcnijfkdnfaaGreatStack
open Go Go.Zq
set_option maxHeartbeats 4000000
set_option maxRecDepth 100000
theorem ins_in {l : List GIns} {i : Nat} (h : i < l.length) : inRow [.int .i64, .int .i64, .int .i64, .int .i64, .int .i64, .int .i64, .int .i64] (l.map GIns.row) (i : Int) = true ∧ GIns.at (l.map GIns.row) i 0 = l[i] := by
 have e : (l.map GIns.row).getD i [] = GIns.row l[i] := by simp [List.getD_eq_getElem?_getD, h]
 constructor
 ·simp only [inRow, hasRow, Int.toNat_natCast, e, List.length_map]
  have : Nat.blt i l.length = true := by simpa using h
  rw [this]
  rfl
 ·unfold GIns.at intAt cellAt
  rw [e]
  rfl
theorem room7 {n : Nat} (h : n ≤ 2000) : leN (mulN (n + 1) 56) 140737488355328 = true ∧ leN (n + 1) 140737488355328 = true := by
 simp only [leN_iff, mulN_eq]; omega
def IL (n : Nat) (r : List Row) : Prop := ∃ l : List GIns, r = l.map GIns.row ∧ l.length ≤ n
theorem il_loop (n : Nat) (c : Gl1Cur) {B : Int} (h : CO B c) (hB : B + 420 * n < 500000000000000000) (hn : n ≤ 50) : i202_0 (V202_0.mk c [] (n : Int)) = true ∧ (CO (B + 420 * n) (w202_0 (V202_0.mk c [] (n : Int))).b0 ∧ IL n (w202_0 (V202_0.mk c [] (n : Int))).s3) := by
 unfold i202_0 w202_0
 refine loop_w (Post := fun w : V202_0 => CO (B + 420 * n) w.b0 ∧ IL n w.s3) (loop_sat (fun (m : Nat) (v : V202_0) => CO (B + 420 * (n - m)) v.b0 ∧ v.s4 = (m : Int) ∧ m ≤ n ∧ ∃ l : List GIns, v.s3 = l.map GIns.row ∧ l.length + m = n) _ ?_ 2097152 n _ ⟨h.mono (by omega), rfl, by omega, [], rfl, by simp⟩ (by omega))
 rintro m v ⟨h1, h2, h3, l, h4, h5⟩
 obtain ⟨a1, a2⟩ := ins_d h1 (by omega)
 obtain ⟨r1, r2⟩ := room7 (n := l.length) (by omega)
 unfold N202_0
 simp only [sat_ok', sat_br, sat_leaf, y202_0_l_1, y202_0_l_0, h2, h4, a1, r1, r2, List.length_map, Nat.zero_add, eqN_self, gtI_iff, gtI_f, Bool.and_true, true_and]
 refine ⟨fun hm => ⟨m - 1, by omega, a2.mono (by omega), ?_, by omega, l ++ [(g185 v.b0).2], by simp, by simp; omega⟩, fun hm => ⟨h1.mono (by omega), l, rfl, by omega⟩⟩
 rw [subI_eq (by omega)]; omega
theorem il_set {n : Nat} {r : List Row} (h : IL n r) (x : GIns) (k : Nat) : IL n (r.set k (GIns.row x)) := by
 obtain ⟨l, rfl, h1⟩ := h
 exact ⟨l.set k x, by rw [List.map_set], by simpa using h1⟩
theorem il_rlen {n : Nat} {r : List Row} (h : IL n r) (h0 : 0 < r.length) : beqN (rlen r 0) 7 = true := by
 obtain ⟨l, rfl, h1⟩ := h
 cases l with
 | nil => simp at h0
 | cons a l => rfl
theorem bif_same {α : Type} (b : Bool) (x : α) : (bif b then x else x) = x := by cases b <;> rfl
theorem insl_tail {n : Nat} {B : Int} {c : Gl1Cur} {r : List Row} (h1 : CO B c) (h2 : IL n r) (hB : B < 900000000000000000) : k86 20 c = true ∧ CO (B + 2) (Gl1Cur.mk (bif (gtI (lenI r) 0) then (g86 20 c).1.fcode else c.fcode) (bif (gtI (lenI r) 0) then (g86 20 c).1.fat else c.fat) (bif (gtI (lenI r) 0) then (g86 20 c).1.fseed else c.fseed)) ∧ k123 (Gl1Cur.mk (bif (gtI (lenI r) 0) then (g86 20 c).1.fcode else c.fcode) (bif (gtI (lenI r) 0) then (g86 20 c).1.fat else c.fat) (bif (gtI (lenI r) 0) then (g86 20 c).1.fseed else c.fseed)) = true ∧ CO (B + 502) (g123 (Gl1Cur.mk (bif (gtI (lenI r) 0) then (g86 20 c).1.fcode else c.fcode) (bif (gtI (lenI r) 0) then (g86 20 c).1.fat else c.fat) (bif (gtI (lenI r) 0) then (g86 20 c).1.fseed else c.fseed))).1 := by
 obtain ⟨a1, a2⟩ := one_d 20 h1 (by omega)
 have a3 : CO (B + 2) (Gl1Cur.mk (bif (gtI (lenI r) 0) then (g86 20 c).1.fcode else c.fcode) (bif (gtI (lenI r) 0) then (g86 20 c).1.fat else c.fat) (bif (gtI (lenI r) 0) then (g86 20 c).1.fseed else c.fseed)) := CO_if a2 (h1.mono (by omega))
 obtain ⟨b1, b2⟩ := any_d a3 (by omega)
 exact ⟨a1, a3, b1, b2.mono (by omega)⟩
theorem insl_d {c : Gl1Cur} {B : Int} (h : CO B c) (hB : B < 400000000000000000) : k202 c = true ∧ (CO (B + 30000) (g202 c).1 ∧ IL 50 (g202 c).2) := by
 refine sat_hid (t := T202 c) (P := fun r => CO (B + 30000) r.1 ∧ IL 50 r.2) ?_
 obtain ⟨a1, a2, a3, a4, -⟩ := pick_d 8 h (by omega)
 have a4 := a4 (by omega)
 obtain ⟨b1, b2⟩ := one_d 20 a2 (by omega)
 obtain ⟨c1, c2, c3, c4, -⟩ := pick_d 2 b2 (by omega)
 have c4 := c4 (by omega)
 obtain ⟨m, hm⟩ : ∃ m : Nat, (g89 8 c).2 = (m : Int) := ⟨_, (Int.toNat_of_nonneg a3).symm⟩
 obtain ⟨n, hn⟩ : ∃ n : Nat, addI 40 (g89 2 (g86 20 (g89 8 c).1).1).2 = (n : Int) := ⟨(40 + (g89 2 (g86 20 (g89 8 c).1).1).2).toNat, by rw [addI_eq (by omega)]; omega⟩
 have hn' : n ≤ 41 := by rw [addI_eq (by omega)] at hn; omega
 obtain ⟨d1, d2, d3⟩ := il_loop n _ c2 (by omega) (by omega)
 obtain ⟨e1, e2, e3⟩ := il_loop m _ b2 (by omega) (by omega)
 have d3 : IL 50 _ := ⟨d3.choose, d3.choose_spec.1, by have := d3.choose_spec.2; omega⟩
 have e3 : IL 50 _ := ⟨e3.choose, e3.choose_spec.1, by have := e3.choose_spec.2; omega⟩
 obtain ⟨f1, f2, f3, f4⟩ := insl_tail d2 d3 (by omega)
 obtain ⟨i1, i2, i3, i4⟩ := insl_tail e2 e3 (by omega)
 have tk : ∀ r : List Row, List.take r.length r = r := fun r => List.take_length
 have z : ∀ n : Nat, leN (0 + n) n = true := fun n => by simp
 have pos : ∀ r : List Row, ∀ q : Bool, (bif gtI (lenI r) 0 then q else false) = true → ltI 0 (lenI r) = true ∧ blt 0 r.length = true ∧ (IL 50 r → beqN (rlen r 0) 7 = true) := fun r q hq => by
  cases hg : gtI (lenI r) 0
  ·rw [hg] at hq; simp at hq
  ·rw [gtI_iff, lenI_eq] at hg
   exact ⟨by simp; omega, by simp; omega, fun h => il_rlen h (by omega)⟩
 unfold T202
 simp only [sat_ok', sat_br, sat_leaf, y202_14, y202_13, y202_12, y202_11, y202_10, y202_9, y202_8, y202_7, y202_6, y202_5, y202_4, y202_3, y202_2, y202_1, y202_0, a1, b1, c1, hm, hn, d1, e1, f1, i1, f3, i3, z, bif_same, List.length_set, tk, eqN_self, Bool.and_true, Bool.true_or, true_and]
 have tks : ∀ (r : List Row) (x : Row), List.take r.length (r.set 0 x) = r.set 0 x := fun r x => List.take_of_length_le (by simp)
 simp only [tks, List.length_set, eqN_self, Bool.and_true, true_and]
 refine ⟨fun _ => ⟨fun hq => ?_, fun _ => ⟨f2.mono (by omega), d3⟩⟩, fun _ => ⟨fun hq => ?_, fun _ => ⟨i2.mono (by omega), e3⟩⟩⟩
 ·obtain ⟨p1, p2, p3⟩ := pos _ _ hq
  rw [p1, p2, p3 d3]
  exact ⟨rfl, f4.mono (by omega), il_set d3 _ 0⟩
 ·obtain ⟨p1, p2, p3⟩ := pos _ _ hq
  rw [p1, p2, p3 e3]
  exact ⟨rfl, i4.mono (by omega), il_set e3 _ 0⟩
theorem enc1_s (x : GIns) : k196 x = true ∧ ∃ zs : List Int, g196 x = ri zs ∧ zs.length ≤ 2 := by
 refine sat_hid (t := T196 x) (P := fun r => ∃ zs : List Int, r = ri zs ∧ zs.length ≤ 2) ?_
 unfold T196
 simp only [sat_ok', sat_br, sat_leaf, (ext_s _).1, show leI 0 11 = true from rfl, show leI 0 10 = true from rfl, show leI 0 8 = true from rfl, show leI 0 5 = true from rfl, show leI 0 3 = true from rfl, eqN_self, Bool.and_true, true_and]
 exact ⟨fun _ => ⟨[_, _], rfl, by simp⟩, fun _ => ⟨[_], rfl, by simp⟩⟩
def EL (n : Nat) (r : List Row) : Prop := ∃ zs : List Int, r = ri zs ∧ zs.length ≤ n
theorem ea_loop (l : List GIns) (hl : l.length ≤ 50) (x : List Row) : i201_0 (V201_0.mk x [] (l.map GIns.row) (lenI (l.map GIns.row)) 0) = true ∧ EL 200 (w201_0 (V201_0.mk x [] (l.map GIns.row) (lenI (l.map GIns.row)) 0)).s4 := by
 unfold i201_0 w201_0
 refine loop_w (Post := fun w : V201_0 => EL 200 w.s4) (loop_sat (fun (m : Nat) (v : V201_0) => ∃ i : Nat, v.s7 = l.map GIns.row ∧ v.s8 = (l.length : Int) ∧ v.s9 = (i : Int) ∧ i + m = l.length ∧ EL (2 * i) v.s4) _ ?_ 2097152 l.length _ ⟨0, rfl, by simp, rfl, by omega, [], rfl, by simp⟩ (by omega))
 rintro m v ⟨i, h1, h2, h3, h4, zs, h5, h6⟩
 have done : EL 200 v.s4 := ⟨zs, h5, by omega⟩
 unfold N201_0
 simp only [sat_ok', sat_br, sat_leaf, y201_0_l_2, y201_0_l_1, y201_0_l_0, h1, h2, h3, ltI_iff, ltI_f, true_and, Int.toNat_natCast, (gins_s _).1, Bool.and_true]
 refine ⟨fun hlt => ?_, fun _ => done⟩
 have hi : i < l.length := by omega
 obtain ⟨p1, p2⟩ := ins_in hi
 obtain ⟨q1, ws, q2, q3⟩ := enc1_s l[i]
 have r1 : leN (mulN (zs.length + ws.length) 8) 140737488355328 = true ∧ leN (zs.length + ws.length) 140737488355328 = true := by simp only [leN_iff, mulN_eq]; omega
 rw [p1, p2, q1, q2, h5]
 simp only [ri_len, r1, eqN_self, Nat.zero_add, Bool.and_true, true_and]
 refine ⟨fun _ => ⟨zs, rfl, by omega⟩, fun _ => ⟨m - 1, by omega, i + 1, ?_, by omega, zs ++ ws, ri_append.symm, by rw [List.length_append]; omega⟩⟩
 rw [addI_eq (by omega)]; omega
theorem ea_s {r : List Row} (h : IL 50 r) : k201 r = true ∧ EL 200 (g201 r).1 := by
 obtain ⟨l, rfl, hl⟩ := h
 refine sat_hid (t := T201 (l.map GIns.row)) (P := fun q => EL 200 q.1) ?_
 obtain ⟨a1, a2⟩ := ea_loop l hl (l.map GIns.row)
 have e0 : EL 200 [] := ⟨[], rfl, by simp⟩
 unfold T201
 simp only [sat_ok', sat_br, sat_leaf, y201_1, y201_0, a1, eqN_self, Bool.and_true, true_and]
 exact ⟨fun _ => e0, fun _ => ⟨fun _ => e0, fun _ => a2⟩⟩
end Go.Proofs.YtdipcnijfkdnfaaGreatStack

namespace Go.Proofs.YtdipcnijfkdnfaaGreatStack
open Go Go.Zq
set_option maxHeartbeats 4000000
set_option maxRecDepth 100000
theorem im_loop0 (c : Gl1Cur) (a : Int) {B : Int} (h : CO B c) (hB : B < 300000000000000000) : i149_0 (V149_0.mk c a (ri (List.replicate 384 0)) 384 0) = true ∧ (CO (B + 2000) (w149_0 (V149_0.mk c a (ri (List.replicate 384 0)) 384 0)).b0 ∧ (w149_0 (V149_0.mk c a (ri (List.replicate 384 0)) 384 0)).s4 = a ∧ ∃ zs : List Int, (w149_0 (V149_0.mk c a (ri (List.replicate 384 0)) 384 0)).s5 = ri zs ∧ zs.length = 384) := by
 unfold i149_0 w149_0
 refine loop_w (Post := fun w : V149_0 => CO (B + 2000) w.b0 ∧ w.s4 = a ∧ ∃ zs : List Int, w.s5 = ri zs ∧ zs.length = 384) (loop_sat (fun (m : Nat) (v : V149_0) => CO (B + 4 * (384 - m)) v.b0 ∧ v.s4 = a ∧ v.s16 = 384 ∧ ∃ i : Nat, v.s17 = (i : Int) ∧ i + m = 384 ∧ ∃ zs : List Int, v.s5 = ri zs ∧ zs.length = 384) _ ?_ 2097152 384 _ ⟨h.mono (by omega), rfl, rfl, 0, rfl, by omega, _, rfl, by simp⟩ (by omega))
 rintro m v ⟨h1, h2, h3, i, h4, h5, zs, h6, h7⟩
 obtain ⟨a1, a2⟩ := one_d 8 h1 (by omega)
 obtain ⟨b1, b2, -⟩ := pick_d 256 a2 (by omega)
 have e1 : addI (i : Int) 1 = ((i + 1 : Nat) : Int) := by rw [addI_eq (by omega)]; omega
 unfold N149_0
 simp only [sat_ok', sat_br, sat_leaf, y149_0_l_2, y149_0_l_1, y149_0_l_0, h2, h3, h4, h6, e1, a1, b1, lenI_eq, ri_len, h7, ri_set, List.length_set, Nat.zero_add, Int.toNat_natCast, ltI_iff, ltI_f, eqN_self, Bool.and_true, true_and]
 refine ⟨fun hi => ⟨fun _ => ?_, fun _ => ⟨m - 1, by omega, a2.mono (by omega), i + 1, rfl, by omega, zs, rfl, h7⟩⟩, fun _ => ⟨h1.mono (by omega), zs, rfl, h7⟩⟩
 have hi' : i < zs.length := by omega
 have l0 : leI 0 (i : Int) = true := by simp
 have l1 : ltI (i : Int) ((384 : Nat) : Int) = true := by rw [ltI_iff]; omega
 have l2 : blt i 384 = true := by simp; omega
 have l3 : beqN (rlen (ri zs) i) 1 = true := by rw [ri_rlen hi']; rfl
 rw [l0, l1, l2, l3]
 refine ⟨rfl, m - 1, by omega, b2.mono (by omega), i + 1, rfl, by omega, _, rfl, by rw [List.length_set]; exact h7⟩
theorem im_loop1 (c : Gl1Cur) (a : Int) (ys ws : List Int) {B : Int} (h : CO B c) (ha : 0 ≤ a) (ha1 : a ≤ 100) (hy : ys.length = 384) (hw : ws.length ≤ 300) : i149_1 (V149_1.mk c a (ri ys) (ri ws) (lenI (ri ws)) 0) = true ∧ (CO B (w149_1 (V149_1.mk c a (ri ys) (ri ws) (lenI (ri ws)) 0)).b0 ∧ (w149_1 (V149_1.mk c a (ri ys) (ri ws) (lenI (ri ws)) 0)).s4 = a ∧ ∃ zs : List Int, (w149_1 (V149_1.mk c a (ri ys) (ri ws) (lenI (ri ws)) 0)).s5 = ri zs ∧ zs.length = 384) := by
 unfold i149_1 w149_1
 refine loop_w (Post := fun w : V149_1 => CO B w.b0 ∧ w.s4 = a ∧ ∃ zs : List Int, w.s5 = ri zs ∧ zs.length = 384) (loop_sat (fun (m : Nat) (v : V149_1) => CO B v.b0 ∧ v.s4 = a ∧ v.s34 = ri ws ∧ v.s35 = (ws.length : Int) ∧ ∃ i : Nat, v.s36 = (i : Int) ∧ i + m = ws.length ∧ ∃ zs : List Int, v.s5 = ri zs ∧ zs.length = 384) _ ?_ 2097152 ws.length _ ⟨h, rfl, rfl, by simp [ri_len], 0, rfl, by omega, ys, rfl, hy⟩ (by omega))
 rintro m v ⟨h1, h2, h8, h3, i, h4, h5, zs, h6, h7⟩
 obtain ⟨an, rfl⟩ := Int.eq_ofNat_of_zero_le ha
 have e1 : addI (i : Int) 1 = ((i + 1 : Nat) : Int) := by rw [addI_eq (by omega)]; omega
 have e2 : mulI 2 (i : Int) = ((2 * i : Nat) : Int) := by rw [mulI_eq (by omega)]; omega
 have e3 : addI (an : Int) ((2 * i : Nat) : Int) = ((an + 2 * i : Nat) : Int) := by rw [addI_eq (by omega)]; omega
 have e4 : addI ((an + 2 * i : Nat) : Int) 1 = ((an + 2 * i + 1 : Nat) : Int) := by rw [addI_eq (by omega)]; omega
 unfold N149_1
 simp only [sat_ok', sat_br, sat_leaf, y149_1_l_7, y149_1_l_6, y149_1_l_5, y149_1_l_4, y149_1_l_3, y149_1_l_2, y149_1_l_1, y149_1_l_0, h2, h3, h4, h6, h8, e1, e2, e3, e4, lenI_eq, ri_len, h7, ri_set, List.length_set, Nat.zero_add, Int.toNat_natCast, ltI_iff, ltI_f, eqN_self, Bool.and_true, true_and]
 refine ⟨fun hi => ?_, fun _ => ⟨h1, zs, rfl, h7⟩⟩
 have hi' : i < ws.length := by omega
 have l0 : ∀ n : Nat, leI 0 (n : Int) = true := fun n => by simp
 have l1 : ltI (i : Int) (ws.length : Int) = true := by rw [ltI_iff]; omega
 have l2 : hasRow [.int .i64] (ri ws) i 0 = true := num_has ⟨ws, rfl⟩ (by rw [ri_len]; exact hi')
 rw [l0, l1, l2]
 refine ⟨rfl, by simp, fun hb => ?_, fun _ => ⟨m - 1, by omega, h1, i + 1, rfl, by omega, zs, rfl, h7⟩⟩
 have hb' : an + 2 * i + 1 < zs.length := by omega
 have l4 : ltI ((an + 2 * i : Nat) : Int) ((384 : Nat) : Int) = true := by rw [ltI_iff]; omega
 have l5 : blt (an + 2 * i) 384 = true := by simp; omega
 have l6 : beqN (rlen (ri zs) (an + 2 * i)) 1 = true := by rw [ri_rlen (by omega)]; rfl
 have l7 : blt (an + 2 * i + 1) 384 = true := by simp; omega
 have l8 : ltI ((an + 2 * i + 1 : Nat) : Int) ((384 : Nat) : Int) = true := by rw [ltI_iff]; omega
 have l9 : ∀ z, beqN (rlen (ri (zs.set (an + 2 * i) z)) (an + 2 * i + 1)) 1 = true := fun z => by rw [ri_rlen (by rw [List.length_set]; omega)]; rfl
 have l10 : leI 0 8 = true := rfl
 simp only [l0, l1, l2, l4, l5, l6, l7, l8, l9, l10, Bool.and_true, true_and]
 exact ⟨m - 1, by omega, h1, i + 1, rfl, by omega, _, rfl, by rw [List.length_set, List.length_set]; exact h7⟩
theorem image_d {c : Gl1Cur} {B : Int} (h : CO B c) (hB : B < 200000000000000000) : k149 c = true ∧ (CO (B + 40000) (g149 c).1 ∧ (∃ zs : List Int, (g149 c).2.1 = ri zs ∧ zs.length = 384) ∧ 0 ≤ (g149 c).2.2 ∧ (g149 c).2.2 ≤ 60) := by
 refine sat_hid (t := T149 c) (P := fun r => CO (B + 40000) r.1 ∧ (∃ zs : List Int, r.2.1 = ri zs ∧ zs.length = 384) ∧ 0 ≤ r.2.2 ∧ r.2.2 ≤ 60) ?_
 obtain ⟨a1, a2, a3, a4, -⟩ := pick_d 30 h (by omega)
 have a4 := a4 (by omega)
 have e0 : List.replicate 384 (rowI 0) = ri (List.replicate 384 0) := by simp [ri, List.map_replicate, rowI]
 have e1 : mulI 2 (g89 30 c).2 = 2 * (g89 30 c).2 := mulI_eq (by omega)
 obtain ⟨b1, b2, b3, zs, b4, b5⟩ := im_loop0 (g89 30 c).1 (2 * (g89 30 c).2) a2 (by omega)
 obtain ⟨c1, c2, c3⟩ := insl_d b2 (by omega)
 obtain ⟨d1, ws, d2, d3⟩ := ea_s c3
 obtain ⟨f1, f2, f3, ys, f4, f5⟩ := im_loop1 _ (2 * (g89 30 c).2) zs ws c2 (by omega) (by omega) b5 (by omega)
 unfold T149
 simp only [sat_ok', sat_br, sat_leaf, y149_4, y149_3, y149_2, y149_1, y149_0, a1, e0, e1, b1, b3, b4, c1, d1, d2, f1, f3, f4, eqN_self, Bool.and_true, true_and]
 exact ⟨by simp, f2.mono (by omega), ⟨ys, rfl, f5⟩, by omega, by omega⟩
end Go.Proofs.YtdipcnijfkdnfaaGreatStack

namespace Go.Proofs.YtdipcnijfkdnfaaGreatStack
open Go Go.Zq
set_option maxHeartbeats 4000000
set_option maxRecDepth 100000
theorem amongW {B t : Int} {c : Gl1Cur} (r : List Int) (h1 : CO B c) (h2 : B < 2500000000000000000) (h3 : 1 ≤ r.length) (h4 : words t r = true) : k90 (ri r) c = true ∧ CO (B + 2) (g90 (ri r) c).1 ∧ 0 ≤ (g90 (ri r) c).2 ∧ (g90 (ri r) c).2 ≤ t := by
 obtain ⟨a, b, j, c1, c2⟩ := among_d (r := ri r) ⟨r, rfl⟩ (by rw [ri_len]; exact h3) h1 (by omega)
 rw [ri_len] at c1
 rw [ri_int c1] at c2
 have := inB_iff.1 (List.all_eq_true.1 h4 _ (List.getElem_mem c1))
 rw [c2]
 exact ⟨a, b, this⟩
def r0 : RM := ⟨[0, 0, 0, 0], [0, 0, 0, 0], 0, 0, 0, 7, true, false⟩
theorem newR_s : k94 = true ∧ g94 = r0.g := by
 refine sat_hid (t := T94) (P := fun q => q = r0.g) ?_
 unfold T94
 simp only [sat_ok', sat_leaf, eqN_self, Bool.and_true, true_and]
 rfl
theorem regs_loop (c : Gl1Cur) (b1 : GRegs) {B : Int} (h : CO B c) (hB : B < 300000000000000000) : i150_0 (V150_0.mk c b1 r0.g 0) = true ∧ (CO (B + 20) (w150_0 (V150_0.mk c b1 r0.g 0)).b0 ∧ ∃ ds az : List Int, (w150_0 (V150_0.mk c b1 r0.g 0)).b2 = RM.g ⟨ds, az, 0, 0, 0, 7, true, false⟩ ∧ ds.length = 4 ∧ az.length = 4 ∧ words 65535 ds = true ∧ words 65535 az = true) := by
 unfold i150_0 w150_0
 refine loop_w (Post := fun w : V150_0 => CO (B + 20) w.b0 ∧ ∃ ds az : List Int, w.b2 = RM.g ⟨ds, az, 0, 0, 0, 7, true, false⟩ ∧ ds.length = 4 ∧ az.length = 4 ∧ words 65535 ds = true ∧ words 65535 az = true) (loop_sat (fun (m : Nat) (v : V150_0) => CO (B + 4 * (4 - m)) v.b0 ∧ ∃ i : Nat, v.s4 = (i : Int) ∧ i + m = 4 ∧ ∃ ds az : List Int, v.b2 = RM.g ⟨ds, az, 0, 0, 0, 7, true, false⟩ ∧ ds.length = 4 ∧ az.length = 4 ∧ words 65535 ds = true ∧ words 65535 az = true) _ ?_ 2097152 4 _ ⟨h.mono (by omega), 0, rfl, by omega, _, _, rfl, rfl, rfl, by decide, by decide⟩ (by omega))
 rintro m v ⟨h1, i, h4, h5, ds, az, h6, h7, h8, h9, h10⟩
 obtain ⟨a1, a2, a3, a4⟩ := amongW [0, 1, 2, 5, 128, 255, 32768, 65535] h1 (by omega) (by decide) (t := 65535) (by decide)
 obtain ⟨b1, b2, b3, b4⟩ := amongW [0, 2, 20, 40, 100, 300, 301, 384, 448, 500, 65534] a2 (by omega) (by decide) (t := 65535) (by decide)
 simp only [ri_cons, ri_nil] at a1 a2 a3 a4 b1 b2 b3 b4
 have e1 : addI (i : Int) 1 = ((i + 1 : Nat) : Int) := by rw [addI_eq (by omega)]; omega
 unfold N150_0
 by_cases hi : i < 4
 ·obtain ⟨s1, s2, s3, s4, -⟩ := set_at (l := ds) (i := (i : Int)) (v := 0) h7 (inB_iff.2 (by omega))
  obtain ⟨u1, u2, u3, u4, -⟩ := set_at (l := az) (i := (i : Int)) (v := 0) h8 (inB_iff.2 (by omega))
  rw [Nat.zero_add, Int.toNat_natCast] at s1 s2 u1 u2
  have l0 : ltI (i : Int) 4 = true := by rw [ltI_iff]; omega
  simp only [sat_ok', sat_br, sat_leaf, y150_0_l_16, y150_0_l_15, y150_0_l_14, y150_0_l_13, y150_0_l_12, y150_0_l_11, y150_0_l_10, y150_0_l_9, y150_0_l_8, y150_0_l_7, y150_0_l_6, y150_0_l_5, y150_0_l_4, y150_0_l_3, y150_0_l_2, y150_0_l_1, y150_0_l_0, h4, h6, l0, e1, a1, b1, r_D, r_A, r_Other, r_PC, r_Flags, r_Mask, r_Super, r_Trace, lenI_eq, ri_len, ri_set, List.length_set, Nat.zero_add, Int.toNat_natCast, s1, s2, s3, s4, u1, u2, u3, u4, eqN_self, same_s, sameR_s, Bool.and_true, true_and, Bool.true_eq_false, false_implies, and_true, forall_const]
  exact ⟨m - 1, by omega, b2.mono (by omega), i + 1, rfl, by omega, _, _, rfl, by rw [List.length_set]; exact h7, by rw [List.length_set]; exact h8, words_set h9 a3 a4, words_set h10 b3 b4⟩
 ·have l0 : ltI (i : Int) 4 = false := by rw [ltI_f]; omega
  simp only [sat_ok', sat_br, sat_leaf, h4, l0, Bool.and_true, true_and, Bool.false_eq_true, false_implies, forall_const]
  exact ⟨h1.mono (by omega), ds, az, h6, h7, h8, h9, h10⟩
theorem regs_ex {d a : List Int} {x y z f mk : Int} {p q : Bool} (hd : d.length = 4) (wd : words 65536 d = true) (ha : a.length = 4) (wa : words 65535 a = true) (hx : 0 ≤ x ∧ x ≤ 65535) (hy : 0 ≤ y ∧ y ≤ 65535) (hz : 0 ≤ z ∧ z ≤ 65535) (hf : 0 ≤ f ∧ f < 32) (hm : 0 ≤ mk ∧ mk ≤ 8) : ∃ r : RM, GRegs.mk (ri d) (ri (a.set 3 x)) y z f mk p q = r.g ∧ r.Ok 65536 :=
 ⟨⟨d, a.set 3 x, y, z, f, mk, p, q⟩, rfl, by decide, by decide, hd, by rw [List.length_set]; exact ha, wd, words_set wa hx.1 hx.2, inB_iff.2 hy, inB_iff.2 hz, inB_iff.2 ⟨hf.1, (by omega : f ≤ 31)⟩, inB_iff.2 ⟨hm.1, (by omega : mk ≤ 65536 - 65528)⟩⟩
theorem regs_d {c : Gl1Cur} {B : Int} (h : CO B c) (hB : B < 200000000000000000) : k150 c = true ∧ (CO (B + 60) (g150 c).1 ∧ ∃ r : RM, (g150 c).2 = r.g ∧ r.Ok 65536) := by
 refine sat_hid (t := T150 c) (P := fun q => CO (B + 60) q.1 ∧ ∃ r : RM, q.2 = r.g ∧ r.Ok 65536) ?_
 obtain ⟨n1, n2⟩ := newR_s
 obtain ⟨a1, a2, ds, az, a3, a4, a5, a6, a7⟩ := regs_loop c ⟨[], [], 0, 0, 0, 0, false, false⟩ h (by omega)
 rw [← n2] at a1 a2 a3
 obtain ⟨b1, b2, b3, b4⟩ := amongW [200, 202, 380, 65534, 0, 301] a2 (by omega) (by decide) (t := 65535) (by decide)
 obtain ⟨c1, c2, c3, c4⟩ := amongW [300, 0, 447] b2 (by omega) (by decide) (t := 65535) (by decide)
 obtain ⟨d1, d2, d3, d4⟩ := amongW [0, 2, 10, 40, 384, 3, 448] c2 (by omega) (by decide) (t := 65535) (by decide)
 simp only [ri_cons, ri_nil] at b1 b2 b3 b4 c1 c2 c3 c4 d1 d2 d3 d4
 obtain ⟨e1, e2, e3, e4, -⟩ := pick_d 32 d2 (by omega)
 have e4 := e4 (by omega)
 obtain ⟨f1, f2, f3, f4, -⟩ := pick_d 8 e2 (by omega)
 have f4 := f4 (by omega)
 obtain ⟨i1, i2⟩ := one_d 3 f2 (by omega)
 obtain ⟨j1, j2⟩ := one_d 8 i2 (by omega)
 obtain ⟨l1, l2, -⟩ := pick_d 60 j2 (by omega)
 obtain ⟨s1, s2, s3, s4, -⟩ := set_at (l := ds) (i := 0) (v := 0) a4 (by decide)
 obtain ⟨u1, u2, u3, u4, -⟩ := set_at (l := az) (i := 3) (v := 0) a5 (by decide)
 rw [Nat.zero_add] at s1 s2 u1 u2
 have t0 : Int.toNat 0 = 0 := rfl
 rw [t0] at s1 s2
 rw [toN3] at u1 u2
 have wd : words 65536 ds = true := by
  unfold words at a6 ⊢
  rw [List.all_eq_true] at *
  intro z hz
  have := inB_iff.1 (a6 z hz)
  exact inB_iff.2 (by omega)
 unfold T150
 simp only [sat_ok', sat_br, sat_leaf, y150_18, y150_17, y150_16, y150_15, y150_14, y150_13, y150_12, y150_11, y150_10, y150_9, y150_8, y150_7, y150_6, y150_5, y150_4, y150_3, y150_2, y150_1, y150_0, n1, a1, a3, b1, c1, d1, e1, f1, i1, j1, l1, r_D, r_A, r_Other, r_PC, r_Flags, r_Mask, r_Super, r_Trace, lenI_eq, ri_len, ri_set, List.length_set, s1, s2, s3, s4, u1, u2, u3, u4, eqN_self, same_s, sameR_s, Bool.and_true, true_and]
 have ds4 : (ds.set 0 65536).length = 4 := by rw [List.length_set]; exact a4
 have ds5 : words 65536 (ds.set 0 65536) = true := words_set wd (by decide) (by decide)
 have lz := l2.mono (C := B + 60) (by omega)
 exact ⟨fun _ => ⟨lz, regs_ex ds4 ds5 a5 a7 ⟨b3, b4⟩ ⟨c3, c4⟩ ⟨d3, d4⟩ ⟨e3, e4⟩ ⟨f3, by omega⟩⟩, fun _ => ⟨fun _ => ⟨lz, regs_ex a4 wd a5 a7 ⟨b3, b4⟩ ⟨c3, c4⟩ ⟨d3, d4⟩ ⟨e3, e4⟩ ⟨by decide, by decide⟩⟩, fun _ => ⟨lz, regs_ex a4 wd a5 a7 ⟨b3, b4⟩ ⟨c3, c4⟩ ⟨d3, d4⟩ ⟨e3, e4⟩ ⟨f3, by omega⟩⟩⟩⟩
end Go.Proofs.YtdipcnijfkdnfaaGreatStack

namespace Go.Proofs.YtdipcnijfkdnfaaGreatStack
open Go Go.Zq
set_option maxHeartbeats 4000000
set_option maxRecDepth 100000
theorem byte_g (x : Int) : g172 x = !inB x 0 255 := by
 simp [g172, hid_eq, T172]
theorem byte_k (x : Int) : k172 x = true := by
 simp [k172, hid_eq, T172]
theorem idx_loop (zs : List Int) (hl : zs.length < 1000000) : i227v1_0 (V227v1_0.mk (ri zs) (lenI (ri zs)) 0) = true ∧ 0 ≤ (w227v1_0 (V227v1_0.mk (ri zs) (lenI (ri zs)) 0)).s8 ∧ (ltI (w227v1_0 (V227v1_0.mk (ri zs) (lenI (ri zs)) 0)).s8 (w227v1_0 (V227v1_0.mk (ri zs) (lenI (ri zs)) 0)).s7 = !bytesB zs) := by
 unfold i227v1_0 w227v1_0
 refine loop_w (Post := fun w => 0 ≤ w.s8 ∧ ltI w.s8 w.s7 = !bytesB zs) (loop_sat (fun n v => ∃ i : Nat, v = V227v1_0.mk (ri zs) (lenI (ri zs)) i ∧ i ≤ zs.length ∧ n = zs.length - i ∧ ∀ j (hj : j < zs.length), j < i → inB zs[j] 0 255 = true) _ ?_ 2097152 zs.length _ ⟨0, rfl, by omega, by omega, fun j _ h => absurd h (by omega)⟩ (by omega))
 rintro n v ⟨i, rfl, hi, rfl, hall⟩
 unfold N227v1_0
 simp only [sat_ok', sat_br, sat_leaf, lenI_eq, ri_len, ltI_iff, ltI_f, true_and, Int.toNat_natCast]
 constructor
 ·intro h
  have hi' : i < zs.length := by omega
  rw [ri_inr hi', ri_int hi', byte_k, byte_g]
  refine ⟨rfl, fun hz => ?_, fun hz => ?_⟩
  ·rw [bytesB_f hi' (by simpa using hz)]
   exact ⟨by omega, by simpa [ltI] using h⟩
  ·refine ⟨_, ?_, i + 1, ?_, by omega, rfl, ?_⟩
   ·omega
   ·rw [addI_eq (by omega)]; rfl
   ·intro j hj hji
    by_cases e : j = i
    ·subst e; simpa using hz
    ·exact hall j hj (by omega)
 ·intro h
  rw [bytesB_t fun j hj => hall j hj (by omega)]
  exact ⟨by omega, by simpa [ltI] using h⟩
theorem idx_t (zs : List Int) (hl : zs.length < 1000000) : k171v1 (ri zs) = true ∧ g171v1 (ri zs) = !bytesB zs := by
 obtain ⟨h1, h2, h3⟩ := idx_loop zs hl
 have a : k227v1 (ri zs) = true ∧ geI (g227v1 (ri zs)) 0 = !bytesB zs := by
  unfold k227v1 g227v1 T227v1 y227v1_0
  rw [hid_eq, hid_eq]
  simp only [okv_ok, okv_br, okv_leaf, val_ok, val_br, val_leaf, h1, h3, Bool.true_and]
  cases bytesB zs
  ·exact ⟨rfl, by simpa using h2⟩
  ·exact ⟨rfl, rfl⟩
 have b : k171v1 (ri zs) = true ∧ g171v1 (ri zs) = !bytesB zs := by
  unfold k171v1 g171v1 T171v1
  rw [hid_eq, hid_eq]
  simp only [okv_ok, okv_leaf, val_ok, val_leaf, a.1, a.2, Bool.true_and, and_self]
 exact b
theorem acc_g (x : GAccess) : g174 x = !accB x := by
 simp [g174, hid_eq, T174, (acc_i x).2]
theorem acc_k (x : GAccess) : k174 x = true := by
 simp [k174, hid_eq, T174, (acc_i x).1]
theorem idxA_loop (l : List GAccess) (hl : l.length < 1000000) : i228_0 (V228_0.mk (l.map GAccess.row) (lenI (l.map GAccess.row)) 0) = true ∧ 0 ≤ (w228_0 (V228_0.mk (l.map GAccess.row) (lenI (l.map GAccess.row)) 0)).s8 ∧ (ltI (w228_0 (V228_0.mk (l.map GAccess.row) (lenI (l.map GAccess.row)) 0)).s8 (w228_0 (V228_0.mk (l.map GAccess.row) (lenI (l.map GAccess.row)) 0)).s7 = !l.all accB) := by
 unfold i228_0 w228_0
 refine loop_w (Post := fun w => 0 ≤ w.s8 ∧ ltI w.s8 w.s7 = !l.all accB) (loop_sat (fun n v => ∃ i : Nat, v = V228_0.mk (l.map GAccess.row) (lenI (l.map GAccess.row)) i ∧ i ≤ l.length ∧ n = l.length - i ∧ ∀ j (hj : j < l.length), j < i → accB l[j] = true) _ ?_ 2097152 l.length _ ⟨0, rfl, by omega, by omega, fun j _ h => absurd h (by omega)⟩ (by omega))
 rintro n v ⟨i, rfl, hi, rfl, hall⟩
 unfold N228_0
 simp only [sat_ok', sat_br, sat_leaf, lenI_eq, List.length_map, ltI_iff, ltI_f, true_and, Int.toNat_natCast]
 constructor
 ·intro h
  have hi' : i < l.length := by omega
  obtain ⟨p1, p2⟩ := acc_in hi'
  rw [p1, p2, acc_k, acc_g]
  refine ⟨rfl, fun hz => ?_, fun hz => ?_⟩
  ·rw [all_f hi' (by simpa using hz)]
   exact ⟨by omega, by simpa [ltI] using h⟩
  ·refine ⟨_, ?_, i + 1, ?_, by omega, rfl, ?_⟩
   ·omega
   ·rw [addI_eq (by omega)]; rfl
   ·intro j hj hji
    by_cases e : j = i
    ·subst e; simpa using hz
    ·exact hall j hj (by omega)
 ·intro h
  rw [all_t fun j hj => hall j hj (by omega)]
  exact ⟨by omega, by simpa [ltI] using h⟩
theorem idxA_t (l : List GAccess) (hl : l.length < 1000000) : k173 (l.map GAccess.row) = true ∧ g173 (l.map GAccess.row) = !l.all accB := by
 obtain ⟨h1, h2, h3⟩ := idxA_loop l hl
 have a : k228 (l.map GAccess.row) = true ∧ geI (g228 (l.map GAccess.row)) 0 = !l.all accB := by
  unfold k228 g228 T228 y228_0
  rw [hid_eq, hid_eq]
  simp only [okv_ok, okv_br, okv_leaf, val_ok, val_br, val_leaf, h1, h3, Bool.true_and]
  cases l.all accB
  ·exact ⟨rfl, by simpa using h2⟩
  ·exact ⟨rfl, rfl⟩
 have b : k173 (l.map GAccess.row) = true ∧ g173 (l.map GAccess.row) = !l.all accB := by
  unfold k173 g173 T173
  rw [hid_eq, hid_eq]
  simp only [okv_ok, okv_leaf, val_ok, val_leaf, a.1, a.2, Bool.true_and, and_self]
 exact b
def goodB (zs : List Int) (l : List GAccess) : Bool := eqI (zs.length : Int) 512 && (leI (l.length : Int) 400 && (bytesB zs && l.all accB))
theorem good_i (zs : List Int) (l : List GAccess) (hz : zs.length < 1000000) (hl : l.length < 1000000) : k111 ⟨ri zs, l.map GAccess.row⟩ = true ∧ g111 ⟨ri zs, l.map GAccess.row⟩ = goodB zs l := by
 refine sat_hid (t := T111 ⟨ri zs, l.map GAccess.row⟩) (P := fun r => r = goodB zs l) ?_
 obtain ⟨a1, a2⟩ := idx_t zs hz
 obtain ⟨b1, b2⟩ := idxA_t l hl
 unfold T111 goodB
 simp only [sat_ok', sat_leaf, y111_2, y111_1, y111_0, Bool.cond_self, a1, a2, b1, b2, lenI_eq, ri_len, List.length_map, Bool.and_true, Bool.true_or, true_and]
 cases eqI (zs.length : Int) 512 <;> cases leI (l.length : Int) 400 <;> cases bytesB zs <;> cases l.all accB <;> rfl
def putA (xs : List Int) (i : Nat) : List Int := xs.take i ++ List.replicate (512 - i) 0
def putB (A ys : List Int) (i : Nat) : List Int := A.take 384 ++ (ys.take i ++ A.drop (384 + i))
theorem putA_len {xs : List Int} {i : Nat} (h : i ≤ xs.length) (hx : xs.length ≤ 384) : (putA xs i).length = 512 := by
 simp [putA]; omega
theorem putA_succ {xs : List Int} {i : Nat} (h : i < xs.length) (hx : xs.length ≤ 384) : (putA xs i).set i xs[i] = putA xs (i + 1) := by
 unfold putA
 have e : 512 - i = (512 - (i + 1)) + 1 := by omega
 have l : (xs.take i).length = i := by simp; omega
 rw [e, List.replicate_succ, List.set_append_right _ _ (by omega), l, Nat.sub_self, List.set_cons_zero, List.take_succ_eq_append_getElem h, List.append_assoc, List.singleton_append]
theorem putB_succ {A ys : List Int} {i : Nat} (hA : A.length = 512) (h : i < ys.length) (hy : ys.length ≤ 64) : (putB A ys i).set (384 + i) ys[i] = putB A ys (i + 1) := by
 unfold putB
 have l1 : (A.take 384).length = 384 := by simp; omega
 have l2 : (ys.take i).length = i := by simp; omega
 rw [List.set_append_right _ _ (by omega), l1, show 384 + i - 384 = i from by omega, List.set_append_right _ _ (by omega), l2, Nat.sub_self, List.take_succ_eq_append_getElem h, List.drop_eq_getElem_cons (show 384 + i < A.length by omega), List.set_cons_zero, show 384 + (i + 1) = 384 + i + 1 from rfl, List.append_assoc, List.singleton_append]
theorem newA (xs ys : List Int) (hx : xs.length ≤ 384) : i93_0 (V93_0.mk ⟨[], []⟩ ⟨ri (putA xs 0), []⟩ (ri ys) (ri xs) (xs.length : Int) 0) = true ∧ w93_0 (V93_0.mk ⟨[], []⟩ ⟨ri (putA xs 0), []⟩ (ri ys) (ri xs) (xs.length : Int) 0) = V93_0.mk ⟨[], []⟩ ⟨ri (putA xs xs.length), []⟩ (ri ys) (ri xs) (xs.length : Int) (xs.length : Int) := by
 refine loop_st (N := N93_0) (fun i => V93_0.mk ⟨[], []⟩ ⟨ri (putA xs i), []⟩ (ri ys) (ri xs) (xs.length : Int) (i : Int)) xs.length (by omega) (fun i hi => ?_) ?_
 ·have hl := putA_len (xs := xs) (i := i) (by omega) hx
  have hl2 := putA_len (xs := xs) (i := i + 1) (by omega) hx
  have l1 : ltI (i : Int) (xs.length : Int) = true := by rw [ltI_iff]; omega
  have l2 : ltI (i : Int) ((512 : Nat) : Int) = true := by rw [ltI_iff]; omega
  have l3 : leI 0 (i : Int) = true := by simp
  have a1 : addI (i : Int) 1 = ((i + 1 : Nat) : Int) := by rw [addI_eq (by omega)]; omega
  have b1 : blt i 512 = true := by simp; omega
  have b2 : beqN (rlen (ri (putA xs i)) i) 1 = true := by rw [ri_rlen (by omega)]; rfl
  unfold N93_0
  simp only [sat_ok', sat_br, sat_leaf, y93_0_l_5, y93_0_l_4, y93_0_l_3, y93_0_l_2, y93_0_l_1, y93_0_l_0, lenI_eq, ri_len, hl, hl2, ri_set, List.length_set, List.length_nil, ri_inr hi, ri_int hi, Int.toNat_natCast, Nat.zero_add, putA_succ hi hx, l1, l2, l3, a1, b1, b2, eqN_self, Bool.and_true, true_and, Bool.true_eq_false, false_implies, and_true, forall_const]
 ·have l1 : ltI (xs.length : Int) (xs.length : Int) = false := by simp
  unfold N93_0
  simp only [sat_ok', sat_br, sat_leaf, l1, true_and, Bool.false_eq_true, false_implies, implies_true]
theorem putB_len {A ys : List Int} {i : Nat} (hA : A.length = 512) (h : i ≤ ys.length) (hy : ys.length ≤ 64) : (putB A ys i).length = 512 := by
 simp [putB]; omega
theorem newB (A ys : List Int) (hA : A.length = 512) (hy : ys.length ≤ 64) : i93_1 (V93_1.mk ⟨[], []⟩ ⟨ri (putB A ys 0), []⟩ (ri ys) (ys.length : Int) 0) = true ∧ w93_1 (V93_1.mk ⟨[], []⟩ ⟨ri (putB A ys 0), []⟩ (ri ys) (ys.length : Int) 0) = V93_1.mk ⟨[], []⟩ ⟨ri (putB A ys ys.length), []⟩ (ri ys) (ys.length : Int) (ys.length : Int) := by
 refine loop_st (N := N93_1) (fun i => V93_1.mk ⟨[], []⟩ ⟨ri (putB A ys i), []⟩ (ri ys) (ys.length : Int) (i : Int)) ys.length (by omega) (fun i hi => ?_) ?_
 ·have hl := putB_len (A := A) (ys := ys) (i := i) hA (by omega) hy
  have hl2 := putB_len (A := A) (ys := ys) (i := i + 1) hA (by omega) hy
  have l1 : ltI (i : Int) (ys.length : Int) = true := by rw [ltI_iff]; omega
  have a1 : addI (i : Int) 1 = ((i + 1 : Nat) : Int) := by rw [addI_eq (by omega)]; omega
  have a2 : addI 384 (i : Int) = ((384 + i : Nat) : Int) := by rw [addI_eq (by omega)]; omega
  have l2 : ltI ((384 + i : Nat) : Int) ((512 : Nat) : Int) = true := by rw [ltI_iff]; omega
  have l3 : leI 0 ((384 + i : Nat) : Int) = true := by rw [leI_iff]; omega
  have b1 : blt (384 + i) 512 = true := by simp; omega
  have b2 : beqN (rlen (ri (putB A ys i)) (384 + i)) 1 = true := by rw [ri_rlen (by omega)]; rfl
  unfold N93_1
  simp only [sat_ok', sat_br, sat_leaf, y93_1_l_5, y93_1_l_4, y93_1_l_3, y93_1_l_2, y93_1_l_1, y93_1_l_0, lenI_eq, ri_len, hl, hl2, ri_set, List.length_set, List.length_nil, ri_inr hi, ri_int hi, a2, Int.toNat_natCast, Nat.zero_add, putB_succ hA hi hy, l1, l2, l3, a1, b1, b2, eqN_self, Bool.and_true, true_and, Bool.true_eq_false, false_implies, and_true, forall_const]
 ·have l1 : ltI (ys.length : Int) (ys.length : Int) = false := by simp
  unfold N93_1
  simp only [sat_ok', sat_br, sat_leaf, l1, true_and, Bool.false_eq_true, false_implies, implies_true]
def newR (xs ys : List Int) : GBus × Bool := bif bytesB xs && (bytesB ys && (leI (xs.length : Int) 384 && leI (ys.length : Int) 64)) then (⟨ri (putB (putA xs xs.length) ys ys.length), []⟩, true) else (⟨[], []⟩, false)
theorem gt_le (a b : Int) : gtI a b = !leI a b := by
 cases h : leI a b
 ·rw [leI_f] at h; exact gtI_iff.2 h
 ·rw [leI_iff] at h; exact gtI_f.2 h
theorem new_s (xs ys : List Int) (hx : xs.length < 1000000) (hy : ys.length < 1000000) : k93 (ri xs) (ri ys) = true ∧ g93 (ri xs) (ri ys) = newR xs ys := by
 refine sat_hid (t := T93 (ri xs) (ri ys)) (P := fun r => r = newR xs ys) ?_
 obtain ⟨a1, a2⟩ := l4Bytes_t xs hx
 obtain ⟨b1, b2⟩ := l4Bytes_t ys hy
 unfold T93
 have hc : (bif (bif (bif (!(bytesB xs)) then true else (!(bytesB ys))) then true else (gtI (xs.length : Int) 384)) then true else (gtI (ys.length : Int) 64)) = !(bytesB xs && (bytesB ys && (leI (xs.length : Int) 384 && leI (ys.length : Int) 64))) := by
  rw [gt_le, gt_le]
  cases bytesB xs <;> cases bytesB ys <;> cases leI (xs.length : Int) 384 <;> cases leI (ys.length : Int) 64 <;> rfl
 unfold newR
 cases hg : bytesB xs && (bytesB ys && (leI (xs.length : Int) 384 && leI (ys.length : Int) 64))
 ·simp only [sat_ok', sat_br, sat_leaf, a1, a2, b1, b2, lenI_eq, ri_len, hc, hg, Bool.not_false, cond_false, Bool.and_true, Bool.true_or, true_and, Bool.true_eq_false, false_implies, forall_const, and_true]
 ·have hg' := hg
  simp only [Bool.and_eq_true, leI_iff] at hg'
  obtain ⟨g1, g2, g3, g4⟩ := hg'
  obtain ⟨c1, c2⟩ := newA xs ys (by omega)
  have hA := putA_len (xs := xs) (i := xs.length) (Nat.le_refl _) (by omega)
  obtain ⟨d1, d2⟩ := newB (putA xs xs.length) ys hA (by omega)
  have e0 : List.replicate 512 (rowI 0) = ri (putA xs 0) := by simp [putA, ri, List.map_replicate, rowI]
  have e1 : putB (putA xs xs.length) ys 0 = putA xs xs.length := by simp [putB]
  rw [e1] at d1 d2
  simp only [sat_ok', sat_br, sat_leaf, y93_8, y93_7, y93_6, y93_5, y93_4, y93_3, y93_2, y93_1, y93_0, e0, a1, a2, b1, b2, c1, c2, d1, d2, lenI_eq, ri_len, hc, hg, eqN_self, Bool.not_true, cond_true, Bool.and_true, Bool.true_or, true_and, Bool.false_eq_true, false_implies, forall_const]
theorem bytesB_app {xs ys : List Int} : bytesB (xs ++ ys) = (bytesB xs && bytesB ys) := by simp [bytesB]
theorem bytesB_rep {n : Nat} : bytesB (List.replicate n 0) = true := by
 unfold bytesB
 rw [List.all_eq_true]
 intro z hz
 rw [List.eq_of_mem_replicate hz]; rfl
theorem bytesB_sub {xs ys : List Int} (h : ∀ z ∈ ys, z ∈ xs) (hb : bytesB xs = true) : bytesB ys = true := by
 unfold bytesB at *
 rw [List.all_eq_true] at *
 exact fun z hz => hb z (h z hz)
theorem put_bytes {xs ys : List Int} (hx : bytesB xs = true) (hy : bytesB ys = true) : bytesB (putB (putA xs xs.length) ys ys.length) = true := by
 have hA : bytesB (putA xs xs.length) = true := by unfold putA; rw [List.take_length, bytesB_app, hx, bytesB_rep]; rfl
 unfold putB
 rw [List.take_length, bytesB_app, bytesB_app, hy, bytesB_sub (fun z hz => List.mem_of_mem_take hz) hA, bytesB_sub (fun z hz => List.mem_of_mem_drop hz) hA]; rfl
end Go.Proofs.YtdipcnijfkdnfaaGreatStack

namespace Go.Proofs.YtdipcnijfkdnfaaGreatStack
open Go Go.Zq
set_option maxHeartbeats 4000000
set_option maxRecDepth 100000
def nR (pc : Int) : RM := ⟨[0, 0, 0, 0], [0, 0, 0, 384], 0, pc, 0, 7, true, false⟩
def cR (xs : List Int) (pc : Int) : GCpu × Bool := bif (newR xs []).2 && inB pc 0 65535 then (⟨(nR pc).g, (newR xs []).1, false, false⟩, true) else (⟨⟨[], [], 0, 0, 0, 0, false, false⟩, ⟨[], []⟩, false, false⟩, false)
theorem nR_ok {pc : Int} (h : inB pc 0 65535 = true) : (nR pc).Ok 65536 := ⟨by decide, by decide, rfl, rfl, (by decide : words 65536 [0, 0, 0, 0] = true), (by decide : words 65535 [0, 0, 0, 384] = true), (by decide : inB 0 0 65535 = true), h, (by decide : inB 0 0 31 = true), (by decide : inB 7 0 (65536 - 65528) = true)⟩
theorem ncpu_s (xs : List Int) (pc : Int) (hx : xs.length < 1000000) : k20 (ri xs) pc = true ∧ g20 (ri xs) pc = cR xs pc := by
 refine sat_hid (t := T20 (ri xs) pc) (P := fun q => q = cR xs pc) ?_
 obtain ⟨a1, a2⟩ := new_s xs [] hx (by decide)
 obtain ⟨n1, n2⟩ := newR_s
 have a1' : k93 (ri xs) [] = true := a1
 have a2' : g93 (ri xs) [] = newR xs [] := a2
 have l3 : ltI 3 ((4 : Nat) : Int) = true := by decide
 have b3 : blt 3 4 = true := by decide
 have r3 : beqN (rlen (ri r0.a) 3) 1 = true := by rw [ri_rlen (by decide)]; rfl
 have l4 : r0.a.length = 4 := rfl
 unfold T20 cR
 simp only [sat_ok', sat_br, sat_leaf, y20_2, y20_1, y20_0, a1', a2', n1, n2, (wrd_s _).1, (wrd_s _).2, r_D, r_A, r_Other, r_PC, r_Flags, r_Mask, r_Super, r_Trace, lenI_eq, ri_len, l4, l3, b3, r3, ri_set, List.length_set, eqN_self, Bool.and_true, Bool.true_or, true_and]
 cases (newR xs []).2 <;> cases inB pc 0 65535 <;> simp <;> rfl
def CG (t : Int) (c : GCpu) : Prop := ∃ r zs l s h, c = cpuG r zs l s h ∧ RM.Ok t r ∧ BusOk zs l
theorem newR_bus {xs : List Int} (h : (newR xs []).2 = true) : ∃ zs, (newR xs []).1 = bus zs [] ∧ BusOk zs [] := by
 unfold newR at h ⊢
 cases hg : bytesB xs && (bytesB [] && (leI (xs.length : Int) 384 && leI (([] : List Int).length : Int) 64))
 ·rw [hg] at h; simp at h
 ·simp only [Bool.and_eq_true, leI_iff] at hg
  obtain ⟨g1, g2, g3, g4⟩ := hg
  refine ⟨_, rfl, putB_len (putA_len (Nat.le_refl _) (by omega)) (Nat.le_refl _) (by omega), put_bytes g1 g2, by decide, rfl⟩
theorem cR_true {xs : List Int} {pc : Int} (h : (cR xs pc).2 = true) : ∃ zs, (cR xs pc).1 = cpuG (nR pc) zs [] false false ∧ BusOk zs [] ∧ inB pc 0 65535 = true := by
 unfold cR at h ⊢
 cases hg : (newR xs []).2 && inB pc 0 65535
 ·rw [hg] at h; simp at h
 ·rw [Bool.and_eq_true] at hg
  obtain ⟨zs, h1, h2⟩ := newR_bus hg.1
  exact ⟨zs, by rw [cond_true, h1]; rfl, h2, hg.2⟩
theorem cR_nil : (cR [] 0).2 = true := by decide +kernel
theorem cpu_end {B t : Int} {c : Gl1Cur} {r : RM} {zs : List Int} {p pc : Int} (hc : CO B c) (hr : r.Ok 65536) (hb : BusOk zs []) (hp : inB pc 0 65535 = true) (s h : Bool) : CG 65536 (GCpu.mk (RM.g { r with pc := pc }) (bus zs []) s h) ∧ CG 65536 (GCpu.mk r.g (bus zs []) s h) :=
 ⟨⟨_, zs, [], s, h, rfl, hr.setP hp, hb⟩, ⟨_, zs, [], s, h, rfl, hr, hb⟩⟩
theorem cpu_d {c : Gl1Cur} {B : Int} (h : CO B c) (hB : B < 100000000000000000) : k71 c = true ∧ (CO (B + 50000) (g71 c).1 ∧ CG 65536 (g71 c).2) := by
 refine sat_hid (t := T71 c) (P := fun q => CO (B + 50000) q.1 ∧ CG 65536 q.2) ?_
 obtain ⟨a1, a2, ⟨xs, a3, a4⟩, a5, a6⟩ := image_d h (by omega)
 obtain ⟨b1, b2, r, b3, b4⟩ := regs_d a2 (by omega)
 obtain ⟨c1, c2⟩ := ncpu_s xs (g149 c).2.2 (by omega)
 obtain ⟨d1, d2⟩ := ncpu_s [] 0 (by decide)
 have d1 : k20 [] 0 = true := d1
 have d2 : g20 [] 0 = cR [] 0 := d2
 obtain ⟨z0, e1, e2, e3⟩ := cR_true cR_nil
 obtain ⟨f1, f2, -⟩ := pick_d 60 b2 (by omega)
 have lz := f2.mono (C := B + 50000) (by omega)
 unfold T71
 cases hg : (cR xs (g149 c).2.2).2
 ·have q := cpu_end (t := 0) (p := 0) f2 b4 e2 e3
  simp only [sat_ok', sat_br, sat_leaf, y71_7, y71_6, y71_5, y71_4, y71_3, y71_2, y71_1, y71_0, a1, a3, b1, b3, c1, c2, d1, d2, e1, f1, hg, cpuG, r_D, r_A, r_Other, r_PC, r_Flags, r_Mask, r_Super, r_Trace, set_pc, show (nR 0).pc = 0 from rfl, eqN_self, Bool.not_false, Bool.and_true, true_and, Bool.true_eq_false, false_implies, and_true, forall_const]
  exact ⟨fun _ => ⟨lz, (q _ _).1⟩, fun _ => ⟨fun _ => ⟨lz, (q _ _).1⟩, fun _ => ⟨fun _ => ⟨lz, (q _ _).2⟩, fun _ => ⟨lz, (q _ _).1⟩⟩⟩⟩
 ·obtain ⟨zs, i1, i2, i3⟩ := cR_true hg
  have q := cpu_end (t := 0) (p := 0) f2 b4 i2 i3
  simp only [sat_ok', sat_br, sat_leaf, y71_7, y71_6, y71_5, y71_4, y71_3, y71_2, y71_1, y71_0, a1, a3, b1, b3, c1, c2, i1, f1, hg, cpuG, r_D, r_A, r_Other, r_PC, r_Flags, r_Mask, r_Super, r_Trace, set_pc, show ∀ p, (nR p).pc = p from fun _ => rfl, eqN_self, Bool.not_true, Bool.and_true, true_and, Bool.false_eq_true, false_implies, forall_const]
  exact ⟨fun _ => ⟨lz, (q _ _).1⟩, fun _ => ⟨fun _ => ⟨lz, (q _ _).1⟩, fun _ => ⟨fun _ => ⟨lz, (q _ _).2⟩, fun _ => ⟨lz, (q _ _).1⟩⟩⟩⟩
end Go.Proofs.YtdipcnijfkdnfaaGreatStack

namespace Go.Proofs.YtdipcnijfkdnfaaGreatStack
open Go Go.Zq
set_option maxHeartbeats 4000000
set_option maxRecDepth 100000
theorem eqS_loop (xs ys : List Int) (hl : xs.length < 1000000) (he : xs.length = ys.length) : i96_0 (V96_0.mk (ri xs) (ri ys) (lenI (ri xs)) 0) = true ∧ (ltI (w96_0 (V96_0.mk (ri xs) (ri ys) (lenI (ri xs)) 0)).s13 (w96_0 (V96_0.mk (ri xs) (ri ys) (lenI (ri xs)) 0)).s12 = !decide (xs = ys)) := by
 unfold i96_0 w96_0
 refine loop_w (Post := fun w => ltI w.s13 w.s12 = !decide (xs = ys)) (loop_sat (fun n v => ∃ i : Nat, v = V96_0.mk (ri xs) (ri ys) (lenI (ri xs)) i ∧ i ≤ xs.length ∧ n = xs.length - i ∧ ∀ j (hj : j < xs.length), j < i → xs[j] = ys[j]) _ ?_ 2097152 xs.length _ ⟨0, rfl, by omega, by omega, fun j _ h => absurd h (by omega)⟩ (by omega))
 rintro n v ⟨i, rfl, hi, rfl, hall⟩
 unfold N96_0
 simp only [sat_ok', sat_br, sat_leaf, lenI_eq, ri_len, ltI_iff, ltI_f, true_and, Int.toNat_natCast]
 constructor
 ·intro h
  have hi' : i < xs.length := by omega
  have hy' : i < ys.length := by omega
  rw [ri_inr hi', ri_int hi', ri_inr hy', ri_int hy']
  refine ⟨rfl, fun hz => ?_, fun hz => ?_⟩
  ·have : xs ≠ ys := fun e => by subst e; simp at hz
   rw [decide_eq_false this]
   simpa [ltI] using h
  ·refine ⟨_, ?_, i + 1, ?_, by omega, rfl, ?_⟩
   ·omega
   ·rw [addI_eq (by omega)]; rfl
   ·intro j hj hji
    by_cases e : j = i
    ·subst e; simpa using hz
    ·exact hall j hj (by omega)
 ·intro h
  rw [decide_eq_true (List.ext_getElem he fun j h1 h2 => hall j h1 (by omega))]
  simpa [ltI] using h
theorem eqS_t (xs ys : List Int) (hl : xs.length < 1000000) : k96 (ri xs) (ri ys) = true ∧ g96 (ri xs) (ri ys) = decide (xs = ys) := by
 unfold k96 g96 T96 y96_0
 rw [hid_eq, hid_eq]
 by_cases he : xs.length = ys.length
 ·obtain ⟨h1, h2⟩ := eqS_loop xs ys hl he
  have e : neI (lenI (ri xs)) (lenI (ri ys)) = false := by simp [he, ri_len]
  simp only [okv_ok, okv_br, okv_leaf, val_ok, val_br, val_leaf, h1, h2, e, Bool.true_and, cond_false]
  cases decide (xs = ys) <;> exact ⟨rfl, rfl⟩
 ·have e : neI (lenI (ri xs)) (lenI (ri ys)) = true := by simp [ri_len]; omega
  have : xs ≠ ys := fun e => he (by rw [e])
  simp only [okv_ok, okv_br, okv_leaf, val_ok, val_br, val_leaf, e, decide_eq_false this, Bool.true_and, cond_true, and_self]
theorem l1S_loop (xs ys : List Int) (hl : xs.length < 1000000) (he : xs.length = ys.length) : i99_0 (V99_0.mk (ri xs) (ri ys) (lenI (ri xs)) 0) = true ∧ (ltI (w99_0 (V99_0.mk (ri xs) (ri ys) (lenI (ri xs)) 0)).s13 (w99_0 (V99_0.mk (ri xs) (ri ys) (lenI (ri xs)) 0)).s12 = !decide (xs = ys)) := by
 unfold i99_0 w99_0
 refine loop_w (Post := fun w => ltI w.s13 w.s12 = !decide (xs = ys)) (loop_sat (fun n v => ∃ i : Nat, v = V99_0.mk (ri xs) (ri ys) (lenI (ri xs)) i ∧ i ≤ xs.length ∧ n = xs.length - i ∧ ∀ j (hj : j < xs.length), j < i → xs[j] = ys[j]) _ ?_ 2097152 xs.length _ ⟨0, rfl, by omega, by omega, fun j _ h => absurd h (by omega)⟩ (by omega))
 rintro n v ⟨i, rfl, hi, rfl, hall⟩
 unfold N99_0
 simp only [sat_ok', sat_br, sat_leaf, lenI_eq, ri_len, ltI_iff, ltI_f, true_and, Int.toNat_natCast]
 constructor
 ·intro h
  have hi' : i < xs.length := by omega
  have hy' : i < ys.length := by omega
  rw [ri_inr hi', ri_int hi', ri_inr hy', ri_int hy']
  refine ⟨rfl, fun hz => ?_, fun hz => ?_⟩
  ·have : xs ≠ ys := fun e => by subst e; simp at hz
   rw [decide_eq_false this]
   simpa [ltI] using h
  ·refine ⟨_, ?_, i + 1, ?_, by omega, rfl, ?_⟩
   ·omega
   ·rw [addI_eq (by omega)]; rfl
   ·intro j hj hji
    by_cases e : j = i
    ·subst e; simpa using hz
    ·exact hall j hj (by omega)
 ·intro h
  rw [decide_eq_true (List.ext_getElem he fun j h1 h2 => hall j h1 (by omega))]
  simpa [ltI] using h
theorem l1S_t (xs ys : List Int) (hl : xs.length < 1000000) : k99 (ri xs) (ri ys) = true ∧ g99 (ri xs) (ri ys) = decide (xs = ys) := by
 unfold k99 g99 T99 y99_0
 rw [hid_eq, hid_eq]
 by_cases he : xs.length = ys.length
 ·obtain ⟨h1, h2⟩ := l1S_loop xs ys hl he
  have e : neI (lenI (ri xs)) (lenI (ri ys)) = false := by simp [he, ri_len]
  simp only [okv_ok, okv_br, okv_leaf, val_ok, val_br, val_leaf, h1, h2, e, Bool.true_and, cond_false]
  cases decide (xs = ys) <;> exact ⟨rfl, rfl⟩
 ·have e : neI (lenI (ri xs)) (lenI (ri ys)) = true := by simp [ri_len]; omega
  have : xs ≠ ys := fun e => he (by rw [e])
  simp only [okv_ok, okv_br, okv_leaf, val_ok, val_br, val_leaf, e, decide_eq_false this, Bool.true_and, cond_true, and_self]
def accE (p : GAccess × GAccess) : Bool := eqI p.1.Kind p.2.Kind && (eqI p.1.Size p.2.Size && (eqI p.1.Addr p.2.Addr && (eqI p.1.Value p.2.Value && (eqI p.1.Code p.2.Code && true))))
def logE (l m : List GAccess) : Bool := eqI (l.length : Int) (m.length : Int) && (l.zip m).all accE
theorem zip_self : ∀ {l : List GAccess} {p : GAccess × GAccess}, p ∈ l.zip l → p.1 = p.2
 | [], p, h => by simp at h
 | a :: l, p, h => by
   rw [List.zip_cons_cons, List.mem_cons] at h
   rcases h with rfl | h
   ·rfl
   ·exact zip_self h
theorem logE_self (l : List GAccess) : logE l l = true := by
 unfold logE
 rw [show eqI (l.length : Int) (l.length : Int) = true by simp, Bool.true_and, List.all_eq_true]
 intro p hp
 have : p.1 = p.2 := zip_self hp
 unfold accE
 rw [this]
 simp
def regE (r q : RM) : Bool := decide (r.d = q.d) && (decide (r.a = q.a) && (eqI r.oth q.oth && (eqI r.pc q.pc && (eqI r.fl q.fl && (eqI r.mask q.mask && (eqB r.sup q.sup && eqB r.tr q.tr))))))
theorem regE_self (r : RM) : regE r r = true := by simp [regE]
theorem b2 (a b : Bool) : (bif a then b else false) = (a && b) := by cases a <;> rfl
theorem logL_loop (l m : List GAccess) (hl : l.length < 1000000) (he : l.length = m.length) : i157_0 (V157_0.mk (l.map GAccess.row) (m.map GAccess.row) (lenI (l.map GAccess.row)) 0) = true ∧ (ltI (w157_0 (V157_0.mk (l.map GAccess.row) (m.map GAccess.row) (lenI (l.map GAccess.row)) 0)).s13 (w157_0 (V157_0.mk (l.map GAccess.row) (m.map GAccess.row) (lenI (l.map GAccess.row)) 0)).s12 = !(l.zip m).all accE) := by
 unfold i157_0 w157_0
 refine loop_w (Post := fun w : V157_0 => ltI w.s13 w.s12 = !(l.zip m).all accE) (loop_sat (fun n v => ∃ i : Nat, v = V157_0.mk (l.map GAccess.row) (m.map GAccess.row) (lenI (l.map GAccess.row)) i ∧ i ≤ l.length ∧ n = l.length - i ∧ ∀ j (hj : j < (l.zip m).length), j < i → accE (l.zip m)[j] = true) _ ?_ 2097152 l.length _ ⟨0, rfl, by omega, by omega, fun j _ h => absurd h (by omega)⟩ (by omega))
 rintro n v ⟨i, rfl, hi, rfl, hall⟩
 have hz : (l.zip m).length = l.length := by simp; omega
 unfold N157_0
 simp only [sat_ok', sat_br, sat_leaf, lenI_eq, List.length_map, ltI_iff, ltI_f, true_and, Int.toNat_natCast]
 constructor
 ·intro h
  have hi' : i < l.length := by omega
  have hy' : i < m.length := by omega
  obtain ⟨p1, p2⟩ := acc_in hi'
  obtain ⟨q1, q2⟩ := acc_in hy'
  have hzi : i < (l.zip m).length := by omega
  have ez : (l.zip m)[i] = (l[i], m[i]) := by simp
  have cond : (!(eqI (intAt (l.map GAccess.row) i 0) (intAt (m.map GAccess.row) i 0) && (eqI (intAt (l.map GAccess.row) i 1) (intAt (m.map GAccess.row) i 1) && (eqI (intAt (l.map GAccess.row) i 2) (intAt (m.map GAccess.row) i 2) && (eqI (intAt (l.map GAccess.row) i 3) (intAt (m.map GAccess.row) i 3) && (eqI (intAt (l.map GAccess.row) i 4) (intAt (m.map GAccess.row) i 4) && true)))))) = !accE (l.zip m)[i] := by
   rw [ez]
   have a0 : intAt (l.map GAccess.row) i 0 = l[i].Kind := congrArg GAccess.Kind p2
   have a1 : intAt (l.map GAccess.row) i 1 = l[i].Size := congrArg GAccess.Size p2
   have a2 : intAt (l.map GAccess.row) i 2 = l[i].Addr := congrArg GAccess.Addr p2
   have a3 : intAt (l.map GAccess.row) i 3 = l[i].Value := congrArg GAccess.Value p2
   have a4 : intAt (l.map GAccess.row) i 4 = l[i].Code := congrArg GAccess.Code p2
   have c0 : intAt (m.map GAccess.row) i 0 = m[i].Kind := congrArg GAccess.Kind q2
   have c1 : intAt (m.map GAccess.row) i 1 = m[i].Size := congrArg GAccess.Size q2
   have c2 : intAt (m.map GAccess.row) i 2 = m[i].Addr := congrArg GAccess.Addr q2
   have c3 : intAt (m.map GAccess.row) i 3 = m[i].Value := congrArg GAccess.Value q2
   have c4 : intAt (m.map GAccess.row) i 4 = m[i].Code := congrArg GAccess.Code q2
   rw [a0, a1, a2, a3, a4, c0, c1, c2, c3, c4]
   rfl
  rw [p1, q1, cond]
  refine ⟨rfl, fun hq => ?_, fun hq => ?_⟩
  ·rw [all_f hzi (by simpa using hq)]
   simpa [ltI] using h
  ·refine ⟨_, ?_, i + 1, ?_, by omega, rfl, ?_⟩
   ·omega
   ·rw [addI_eq (by omega)]; rfl
   ·intro j hj hji
    by_cases e : j = i
    ·subst e; simpa using hq
    ·exact hall j hj (by omega)
 ·intro h
  rw [all_t fun j hj => hall j hj (by omega)]
  simpa [ltI] using h
theorem logL_t (l m : List GAccess) (hl : l.length < 1000000) : k157 (l.map GAccess.row) (m.map GAccess.row) = true ∧ g157 (l.map GAccess.row) (m.map GAccess.row) = logE l m := by
 refine sat_hid (t := T157 (l.map GAccess.row) (m.map GAccess.row)) (P := fun q => q = logE l m) ?_
 unfold T157 logE
 by_cases he : l.length = m.length
 ·obtain ⟨h1, h2⟩ := logL_loop l m hl he
  have e : neI (lenI (l.map GAccess.row)) (lenI (m.map GAccess.row)) = false := by simp [he]
  have e2 : eqI (l.length : Int) (m.length : Int) = true := by simp [he]
  simp only [sat_ok', sat_br, sat_leaf, y157_0, h1, h2, e, e2, Bool.true_and, true_and, Bool.false_eq_true, false_implies, forall_const]
  cases (l.zip m).all accE <;> simp
 ·have e : neI (lenI (l.map GAccess.row)) (lenI (m.map GAccess.row)) = true := by simp; omega
  have e2 : eqI (l.length : Int) (m.length : Int) = false := by simp; omega
  simp only [sat_ok', sat_br, sat_leaf, e, e2, Bool.false_and, true_and, Bool.true_eq_false, false_implies, forall_const, and_true]
theorem logI_loop (l m : List GAccess) (hl : l.length < 1000000) (he : l.length = m.length) : i97_0 (V97_0.mk (l.map GAccess.row) (m.map GAccess.row) (lenI (l.map GAccess.row)) 0) = true ∧ (ltI (w97_0 (V97_0.mk (l.map GAccess.row) (m.map GAccess.row) (lenI (l.map GAccess.row)) 0)).s13 (w97_0 (V97_0.mk (l.map GAccess.row) (m.map GAccess.row) (lenI (l.map GAccess.row)) 0)).s12 = !(l.zip m).all accE) := by
 unfold i97_0 w97_0
 refine loop_w (Post := fun w : V97_0 => ltI w.s13 w.s12 = !(l.zip m).all accE) (loop_sat (fun n v => ∃ i : Nat, v = V97_0.mk (l.map GAccess.row) (m.map GAccess.row) (lenI (l.map GAccess.row)) i ∧ i ≤ l.length ∧ n = l.length - i ∧ ∀ j (hj : j < (l.zip m).length), j < i → accE (l.zip m)[j] = true) _ ?_ 2097152 l.length _ ⟨0, rfl, by omega, by omega, fun j _ h => absurd h (by omega)⟩ (by omega))
 rintro n v ⟨i, rfl, hi, rfl, hall⟩
 have hz : (l.zip m).length = l.length := by simp; omega
 unfold N97_0
 simp only [sat_ok', sat_br, sat_leaf, lenI_eq, List.length_map, ltI_iff, ltI_f, true_and, Int.toNat_natCast]
 constructor
 ·intro h
  have hi' : i < l.length := by omega
  have hy' : i < m.length := by omega
  obtain ⟨p1, p2⟩ := acc_in hi'
  obtain ⟨q1, q2⟩ := acc_in hy'
  have hzi : i < (l.zip m).length := by omega
  have ez : (l.zip m)[i] = (l[i], m[i]) := by simp
  have cond : (!(eqI (intAt (l.map GAccess.row) i 0) (intAt (m.map GAccess.row) i 0) && (eqI (intAt (l.map GAccess.row) i 1) (intAt (m.map GAccess.row) i 1) && (eqI (intAt (l.map GAccess.row) i 2) (intAt (m.map GAccess.row) i 2) && (eqI (intAt (l.map GAccess.row) i 3) (intAt (m.map GAccess.row) i 3) && (eqI (intAt (l.map GAccess.row) i 4) (intAt (m.map GAccess.row) i 4) && true)))))) = !accE (l.zip m)[i] := by
   rw [ez]
   have a0 : intAt (l.map GAccess.row) i 0 = l[i].Kind := congrArg GAccess.Kind p2
   have a1 : intAt (l.map GAccess.row) i 1 = l[i].Size := congrArg GAccess.Size p2
   have a2 : intAt (l.map GAccess.row) i 2 = l[i].Addr := congrArg GAccess.Addr p2
   have a3 : intAt (l.map GAccess.row) i 3 = l[i].Value := congrArg GAccess.Value p2
   have a4 : intAt (l.map GAccess.row) i 4 = l[i].Code := congrArg GAccess.Code p2
   have c0 : intAt (m.map GAccess.row) i 0 = m[i].Kind := congrArg GAccess.Kind q2
   have c1 : intAt (m.map GAccess.row) i 1 = m[i].Size := congrArg GAccess.Size q2
   have c2 : intAt (m.map GAccess.row) i 2 = m[i].Addr := congrArg GAccess.Addr q2
   have c3 : intAt (m.map GAccess.row) i 3 = m[i].Value := congrArg GAccess.Value q2
   have c4 : intAt (m.map GAccess.row) i 4 = m[i].Code := congrArg GAccess.Code q2
   rw [a0, a1, a2, a3, a4, c0, c1, c2, c3, c4]
   rfl
  rw [p1, q1, cond]
  refine ⟨rfl, fun hq => ?_, fun hq => ?_⟩
  ·rw [all_f hzi (by simpa using hq)]
   simpa [ltI] using h
  ·refine ⟨_, ?_, i + 1, ?_, by omega, rfl, ?_⟩
   ·omega
   ·rw [addI_eq (by omega)]; rfl
   ·intro j hj hji
    by_cases e : j = i
    ·subst e; simpa using hq
    ·exact hall j hj (by omega)
 ·intro h
  rw [all_t fun j hj => hall j hj (by omega)]
  simpa [ltI] using h
theorem logI_t (l m : List GAccess) (hl : l.length < 1000000) : k97 (l.map GAccess.row) (m.map GAccess.row) = true ∧ g97 (l.map GAccess.row) (m.map GAccess.row) = logE l m := by
 refine sat_hid (t := T97 (l.map GAccess.row) (m.map GAccess.row)) (P := fun q => q = logE l m) ?_
 unfold T97 logE
 by_cases he : l.length = m.length
 ·obtain ⟨h1, h2⟩ := logI_loop l m hl he
  have e : neI (lenI (l.map GAccess.row)) (lenI (m.map GAccess.row)) = false := by simp [he]
  have e2 : eqI (l.length : Int) (m.length : Int) = true := by simp [he]
  simp only [sat_ok', sat_br, sat_leaf, y97_0, h1, h2, e, e2, Bool.true_and, true_and, Bool.false_eq_true, false_implies, forall_const]
  cases (l.zip m).all accE <;> simp
 ·have e : neI (lenI (l.map GAccess.row)) (lenI (m.map GAccess.row)) = true := by simp; omega
  have e2 : eqI (l.length : Int) (m.length : Int) = false := by simp; omega
  simp only [sat_ok', sat_br, sat_leaf, e, e2, Bool.false_and, true_and, Bool.true_eq_false, false_implies, forall_const, and_true]
theorem logS_loop (l m : List GAccess) (hl : l.length < 1000000) (he : l.length = m.length) : i100_0 (V100_0.mk (l.map GAccess.row) (m.map GAccess.row) (lenI (l.map GAccess.row)) 0) = true ∧ (ltI (w100_0 (V100_0.mk (l.map GAccess.row) (m.map GAccess.row) (lenI (l.map GAccess.row)) 0)).s13 (w100_0 (V100_0.mk (l.map GAccess.row) (m.map GAccess.row) (lenI (l.map GAccess.row)) 0)).s12 = !(l.zip m).all accE) := by
 unfold i100_0 w100_0
 refine loop_w (Post := fun w : V100_0 => ltI w.s13 w.s12 = !(l.zip m).all accE) (loop_sat (fun n v => ∃ i : Nat, v = V100_0.mk (l.map GAccess.row) (m.map GAccess.row) (lenI (l.map GAccess.row)) i ∧ i ≤ l.length ∧ n = l.length - i ∧ ∀ j (hj : j < (l.zip m).length), j < i → accE (l.zip m)[j] = true) _ ?_ 2097152 l.length _ ⟨0, rfl, by omega, by omega, fun j _ h => absurd h (by omega)⟩ (by omega))
 rintro n v ⟨i, rfl, hi, rfl, hall⟩
 have hz : (l.zip m).length = l.length := by simp; omega
 unfold N100_0
 simp only [sat_ok', sat_br, sat_leaf, lenI_eq, List.length_map, ltI_iff, ltI_f, true_and, Int.toNat_natCast]
 constructor
 ·intro h
  have hi' : i < l.length := by omega
  have hy' : i < m.length := by omega
  obtain ⟨p1, p2⟩ := acc_in hi'
  obtain ⟨q1, q2⟩ := acc_in hy'
  have hzi : i < (l.zip m).length := by omega
  have ez : (l.zip m)[i] = (l[i], m[i]) := by simp
  have cond : (!(eqI (intAt (l.map GAccess.row) i 0) (intAt (m.map GAccess.row) i 0) && (eqI (intAt (l.map GAccess.row) i 1) (intAt (m.map GAccess.row) i 1) && (eqI (intAt (l.map GAccess.row) i 2) (intAt (m.map GAccess.row) i 2) && (eqI (intAt (l.map GAccess.row) i 3) (intAt (m.map GAccess.row) i 3) && (eqI (intAt (l.map GAccess.row) i 4) (intAt (m.map GAccess.row) i 4) && true)))))) = !accE (l.zip m)[i] := by
   rw [ez]
   have a0 : intAt (l.map GAccess.row) i 0 = l[i].Kind := congrArg GAccess.Kind p2
   have a1 : intAt (l.map GAccess.row) i 1 = l[i].Size := congrArg GAccess.Size p2
   have a2 : intAt (l.map GAccess.row) i 2 = l[i].Addr := congrArg GAccess.Addr p2
   have a3 : intAt (l.map GAccess.row) i 3 = l[i].Value := congrArg GAccess.Value p2
   have a4 : intAt (l.map GAccess.row) i 4 = l[i].Code := congrArg GAccess.Code p2
   have c0 : intAt (m.map GAccess.row) i 0 = m[i].Kind := congrArg GAccess.Kind q2
   have c1 : intAt (m.map GAccess.row) i 1 = m[i].Size := congrArg GAccess.Size q2
   have c2 : intAt (m.map GAccess.row) i 2 = m[i].Addr := congrArg GAccess.Addr q2
   have c3 : intAt (m.map GAccess.row) i 3 = m[i].Value := congrArg GAccess.Value q2
   have c4 : intAt (m.map GAccess.row) i 4 = m[i].Code := congrArg GAccess.Code q2
   rw [a0, a1, a2, a3, a4, c0, c1, c2, c3, c4]
   rfl
  rw [p1, q1, cond]
  refine ⟨rfl, fun hq => ?_, fun hq => ?_⟩
  ·rw [all_f hzi (by simpa using hq)]
   simpa [ltI] using h
  ·refine ⟨_, ?_, i + 1, ?_, by omega, rfl, ?_⟩
   ·omega
   ·rw [addI_eq (by omega)]; rfl
   ·intro j hj hji
    by_cases e : j = i
    ·subst e; simpa using hq
    ·exact hall j hj (by omega)
 ·intro h
  rw [all_t fun j hj => hall j hj (by omega)]
  simpa [ltI] using h
theorem logS_t (l m : List GAccess) (hl : l.length < 1000000) : k100 (l.map GAccess.row) (m.map GAccess.row) = true ∧ g100 (l.map GAccess.row) (m.map GAccess.row) = logE l m := by
 refine sat_hid (t := T100 (l.map GAccess.row) (m.map GAccess.row)) (P := fun q => q = logE l m) ?_
 unfold T100 logE
 by_cases he : l.length = m.length
 ·obtain ⟨h1, h2⟩ := logS_loop l m hl he
  have e : neI (lenI (l.map GAccess.row)) (lenI (m.map GAccess.row)) = false := by simp [he]
  have e2 : eqI (l.length : Int) (m.length : Int) = true := by simp [he]
  simp only [sat_ok', sat_br, sat_leaf, y100_0, h1, h2, e, e2, Bool.true_and, true_and, Bool.false_eq_true, false_implies, forall_const]
  cases (l.zip m).all accE <;> simp
 ·have e : neI (lenI (l.map GAccess.row)) (lenI (m.map GAccess.row)) = true := by simp; omega
  have e2 : eqI (l.length : Int) (m.length : Int) = false := by simp; omega
  simp only [sat_ok', sat_br, sat_leaf, e, e2, Bool.false_and, true_and, Bool.true_eq_false, false_implies, forall_const, and_true]
end Go.Proofs.YtdipcnijfkdnfaaGreatStack

namespace Go.Proofs.YtdipcnijfkdnfaaGreatStack
open Go Go.Zq
set_option maxHeartbeats 4000000
set_option maxRecDepth 100000
theorem regL_t (r q : RM) (hr : r.d.length < 1000000) (ha : r.a.length < 1000000) : k13 r.g q.g = true ∧ g13 r.g q.g = regE r q := by
 refine sat_hid (t := T13 r.g q.g) (P := fun z => z = regE r q) ?_
 obtain ⟨a1, a2⟩ := sameInts_t r.d q.d hr
 obtain ⟨c1, c2⟩ := sameInts_t r.a q.a ha
 unfold T13 regE
 simp only [sat_ok', sat_leaf, r_D, r_A, r_Other, r_PC, r_Flags, r_Mask, r_Super, r_Trace, a1, a2, c1, c2, b2, Bool.and_assoc, Bool.true_or, Bool.and_true, true_and]
theorem regI_t (r q : RM) (hr : r.d.length < 1000000) (ha : r.a.length < 1000000) : k95 r.g q.g = true ∧ g95 r.g q.g = regE r q := by
 refine sat_hid (t := T95 r.g q.g) (P := fun z => z = regE r q) ?_
 obtain ⟨a1, a2⟩ := eqS_t r.d q.d hr
 obtain ⟨c1, c2⟩ := eqS_t r.a q.a ha
 unfold T95 regE
 simp only [sat_ok', sat_leaf, r_D, r_A, r_Other, r_PC, r_Flags, r_Mask, r_Super, r_Trace, a1, a2, c1, c2, b2, Bool.and_assoc, Bool.true_or, Bool.and_true, true_and]
theorem regS_t (r q : RM) (hr : r.d.length < 1000000) (ha : r.a.length < 1000000) : k98 r.g q.g = true ∧ g98 r.g q.g = regE r q := by
 refine sat_hid (t := T98 r.g q.g) (P := fun z => z = regE r q) ?_
 obtain ⟨a1, a2⟩ := l1S_t r.d q.d hr
 obtain ⟨c1, c2⟩ := l1S_t r.a q.a ha
 unfold T98 regE
 simp only [sat_ok', sat_leaf, r_D, r_A, r_Other, r_PC, r_Flags, r_Mask, r_Super, r_Trace, a1, a2, c1, c2, b2, Bool.and_assoc, Bool.true_or, Bool.and_true, true_and]
def cpuE (r : RM) (zs : List Int) (l : List GAccess) (s h : Bool) (q : RM) (ys : List Int) (m : List GAccess) (s' h' : Bool) : Bool := regE r q && (decide (zs = ys) && (logE l m && (eqB s s' && eqB h h')))
theorem cpuE_self (r : RM) (zs : List Int) (l : List GAccess) (s h : Bool) : cpuE r zs l s h r zs l s h = true := by simp [cpuE, regE_self, logE_self]
theorem sameB_t (zs ys : List Int) (l m : List GAccess) (hz : zs.length < 1000000) (hl : l.length < 1000000) : k82 (bus zs l) (bus ys m) = true ∧ g82 (bus zs l) (bus ys m) = (decide (zs = ys) && logE l m) := by
 refine sat_hid (t := T82 (bus zs l) (bus ys m)) (P := fun z => z = (decide (zs = ys) && logE l m)) ?_
 obtain ⟨a1, a2⟩ := sameInts_t zs ys hz
 obtain ⟨c1, c2⟩ := logL_t l m hl
 unfold T82
 simp only [sat_ok', sat_leaf, bus_B, bus_L, a1, a2, c1, c2, b2, Bool.true_or, Bool.and_true, true_and]
structure Sz (r : RM) (zs : List Int) (l : List GAccess) : Prop where
 d : r.d.length < 1000000
 a : r.a.length < 1000000
 z : zs.length < 1000000
 l : l.length < 1000000
theorem sameC_t (r q : RM) (zs ys : List Int) (l m : List GAccess) (s h s' h' : Bool) (z : Sz r zs l) : k11 (cpuG r zs l s h) (cpuG q ys m s' h') = true ∧ g11 (cpuG r zs l s h) (cpuG q ys m s' h') = cpuE r zs l s h q ys m s' h' := by
 refine sat_hid (t := T11 (cpuG r zs l s h) (cpuG q ys m s' h')) (P := fun w => w = cpuE r zs l s h q ys m s' h') ?_
 obtain ⟨a1, a2⟩ := regL_t r q z.d z.a
 obtain ⟨c1, c2⟩ := sameB_t zs ys l m z.z z.l
 unfold T11 cpuE cpuG
 simp only [sat_ok', sat_leaf, a1, a2, c1, c2, b2, Bool.and_assoc, Bool.true_or, Bool.and_true, true_and]
theorem sameI_t (r q : RM) (zs ys : List Int) (l m : List GAccess) (s h s' h' : Bool) (z : Sz r zs l) : k21 (cpuG r zs l s h) (cpuG q ys m s' h') = true ∧ g21 (cpuG r zs l s h) (cpuG q ys m s' h') = cpuE r zs l s h q ys m s' h' := by
 refine sat_hid (t := T21 (cpuG r zs l s h) (cpuG q ys m s' h')) (P := fun w => w = cpuE r zs l s h q ys m s' h') ?_
 obtain ⟨a1, a2⟩ := regI_t r q z.d z.a
 obtain ⟨c1, c2⟩ := eqS_t zs ys z.z
 obtain ⟨d1, d2⟩ := logI_t l m z.l
 unfold T21 cpuE cpuG
 simp only [sat_ok', sat_leaf, y21_0, bus_B, bus_L, a1, a2, c1, c2, d1, d2, b2, Bool.and_assoc, Bool.true_or, Bool.and_true, true_and]
theorem sameS_t (r q : RM) (zs ys : List Int) (l m : List GAccess) (s h s' h' : Bool) (z : Sz r zs l) : k22 (cpuG r zs l s h) (cpuG q ys m s' h') = true ∧ g22 (cpuG r zs l s h) (cpuG q ys m s' h') = cpuE r zs l s h q ys m s' h' := by
 refine sat_hid (t := T22 (cpuG r zs l s h) (cpuG q ys m s' h')) (P := fun w => w = cpuE r zs l s h q ys m s' h') ?_
 obtain ⟨a1, a2⟩ := regS_t r q z.d z.a
 obtain ⟨c1, c2⟩ := l1S_t zs ys z.z
 obtain ⟨d1, d2⟩ := logS_t l m z.l
 unfold T22 cpuE cpuG
 simp only [sat_ok', sat_leaf, y22_0, bus_B, bus_L, a1, a2, c1, c2, d1, d2, b2, Bool.and_assoc, Bool.true_or, Bool.and_true, true_and]
end Go.Proofs.YtdipcnijfkdnfaaGreatStack

namespace Go.Proofs.YtdipcnijfkdnfaaGreatStack
open Go Go.Zq
set_option maxHeartbeats 4000000
set_option maxRecDepth 100000
theorem words_f {t : Int} {zs : List Int} {i : Nat} (h : i < zs.length) (hz : inB zs[i] 0 t = false) : words t zs = false := all_f h hz
theorem words_t {t : Int} {zs : List Int} (h : ∀ j (hj : j < zs.length), inB zs[j] 0 t = true) : words t zs = true := all_t h
theorem wd_g (x : Int) : g226 x = !inB x 0 65535 := by
 simp [g226, hid_eq, T226, (word_i _).2]
theorem wd_k (x : Int) : k226 x = true := by
 simp [k226, hid_eq, T226, (word_i _).1]
theorem idxW_loop (zs : List Int) (hl : zs.length < 1000000) : i227_0 (V227_0.mk (ri zs) (lenI (ri zs)) 0) = true ∧ 0 ≤ (w227_0 (V227_0.mk (ri zs) (lenI (ri zs)) 0)).s8 ∧ (ltI (w227_0 (V227_0.mk (ri zs) (lenI (ri zs)) 0)).s8 (w227_0 (V227_0.mk (ri zs) (lenI (ri zs)) 0)).s7 = !words 65535 zs) := by
 unfold i227_0 w227_0
 refine loop_w (Post := fun w => 0 ≤ w.s8 ∧ ltI w.s8 w.s7 = !words 65535 zs) (loop_sat (fun n v => ∃ i : Nat, v = V227_0.mk (ri zs) (lenI (ri zs)) i ∧ i ≤ zs.length ∧ n = zs.length - i ∧ ∀ j (hj : j < zs.length), j < i → inB zs[j] 0 65535 = true) _ ?_ 2097152 zs.length _ ⟨0, rfl, by omega, by omega, fun j _ h => absurd h (by omega)⟩ (by omega))
 rintro n v ⟨i, rfl, hi, rfl, hall⟩
 unfold N227_0
 simp only [sat_ok', sat_br, sat_leaf, lenI_eq, ri_len, ltI_iff, ltI_f, true_and, Int.toNat_natCast]
 constructor
 ·intro h
  have hi' : i < zs.length := by omega
  rw [ri_inr hi', ri_int hi', wd_k, wd_g]
  refine ⟨rfl, fun hz => ?_, fun hz => ?_⟩
  ·rw [words_f hi' (by simpa using hz)]
   exact ⟨by omega, by simpa [ltI] using h⟩
  ·refine ⟨_, ?_, i + 1, ?_, by omega, rfl, ?_⟩
   ·omega
   ·rw [addI_eq (by omega)]; rfl
   ·intro j hj hji
    by_cases e : j = i
    ·subst e; simpa using hz
    ·exact hall j hj (by omega)
 ·intro h
  rw [words_t fun j hj => hall j hj (by omega)]
  exact ⟨by omega, by simpa [ltI] using h⟩
theorem idxW_t (zs : List Int) (hl : zs.length < 1000000) : k171 (ri zs) = true ∧ g171 (ri zs) = !words 65535 zs := by
 obtain ⟨h1, h2, h3⟩ := idxW_loop zs hl
 have a : k227 (ri zs) = true ∧ geI (g227 (ri zs)) 0 = !words 65535 zs := by
  unfold k227 g227 T227 y227_0
  rw [hid_eq, hid_eq]
  simp only [okv_ok, okv_br, okv_leaf, val_ok, val_br, val_leaf, h1, h3, Bool.true_and]
  cases words 65535 zs
  ·exact ⟨rfl, by simpa using h2⟩
  ·exact ⟨rfl, rfl⟩
 have b : k171 (ri zs) = true ∧ g171 (ri zs) = !words 65535 zs := by
  unfold k171 g171 T171
  rw [hid_eq, hid_eq]
  simp only [okv_ok, okv_leaf, val_ok, val_leaf, a.1, a.2, Bool.true_and, and_self]
 exact b
theorem areW_t (zs : List Int) (hl : zs.length < 1000000) : k169 (ri zs) = true ∧ g169 (ri zs) = (eqI (zs.length : Int) 4 && words 65535 zs) := by
 refine sat_hid (t := T169 (ri zs)) (P := fun q => q = (eqI (zs.length : Int) 4 && words 65535 zs)) ?_
 obtain ⟨a1, a2⟩ := idxW_t zs hl
 unfold T169
 simp only [sat_ok', sat_leaf, a1, a2, b2, lenI_eq, ri_len, Bool.not_not, Bool.true_or, Bool.and_true, true_and]
def goodR (r : RM) : Bool := (eqI (r.d.length : Int) 4 && words 65535 r.d) && ((eqI (r.a.length : Int) 4 && words 65535 r.a) && (inB r.oth 0 65535 && (inB r.pc 0 65535 && (inB r.fl 0 31 && inB r.mask 0 7))))
theorem goodR_i (r : RM) (hd : r.d.length < 1000000) (ha : r.a.length < 1000000) : k110 r.g = true ∧ g110 r.g = goodR r := by
 refine sat_hid (t := T110 r.g) (P := fun q => q = goodR r) ?_
 obtain ⟨a1, a2⟩ := areW_t r.d hd
 obtain ⟨c1, c2⟩ := areW_t r.a ha
 unfold T110 goodR
 simp only [sat_ok', sat_leaf, y110_3, y110_2, y110_1, y110_0, r_D, r_A, r_Other, r_PC, r_Flags, r_Mask, r_Super, r_Trace, a1, a2, c1, c2, (word_i _).1, (word_i _).2, (flags_i _).1, (flags_i _).2, within_g, within_k, b2, Bool.and_assoc, Bool.true_or, Bool.and_true, true_and]
theorem four_loop (zs : List Int) (hl : zs.length < 1000000) (x : List Row) : i206_0 (V206_0.mk x (ri zs) (lenI (ri zs)) 0) = true ∧ ((w206_0 (V206_0.mk x (ri zs) (lenI (ri zs)) 0)).s0 = x ∧ ltI (w206_0 (V206_0.mk x (ri zs) (lenI (ri zs)) 0)).s7 (w206_0 (V206_0.mk x (ri zs) (lenI (ri zs)) 0)).s6 = !words 65535 zs) := by
 unfold i206_0 w206_0
 refine loop_w (Post := fun w : V206_0 => w.s0 = x ∧ ltI w.s7 w.s6 = !words 65535 zs) (loop_sat (fun n v => ∃ i : Nat, v = V206_0.mk x (ri zs) (lenI (ri zs)) i ∧ i ≤ zs.length ∧ n = zs.length - i ∧ ∀ j (hj : j < zs.length), j < i → inB zs[j] 0 65535 = true) _ ?_ 2097152 zs.length _ ⟨0, rfl, by omega, by omega, fun j _ h => absurd h (by omega)⟩ (by omega))
 rintro n v ⟨i, rfl, hi, rfl, hall⟩
 unfold N206_0
 simp only [sat_ok', sat_br, sat_leaf, lenI_eq, ri_len, ltI_iff, ltI_f, true_and, Int.toNat_natCast]
 constructor
 ·intro h
  have hi' : i < zs.length := by omega
  rw [ri_inr hi', ri_int hi', (wrd_s _).2, (wrd_s _).1]
  refine ⟨rfl, rfl, fun hz => ?_, fun hz => ?_⟩
  ·rw [words_f hi' (by simpa using hz)]
   simpa [ltI] using h
  ·refine ⟨_, ?_, i + 1, ?_, by omega, rfl, ?_⟩
   ·omega
   ·rw [addI_eq (by omega)]; rfl
   ·intro j hj hji
    by_cases e : j = i
    ·subst e; simpa using hz
    ·exact hall j hj (by omega)
 ·intro h
  rw [words_t fun j hj => hall j hj (by omega)]
  simpa [ltI] using h
theorem four_t (zs : List Int) (hl : zs.length < 1000000) : k206 (ri zs) = true ∧ g206 (ri zs) = (eqI (zs.length : Int) 4 && words 65535 zs) := by
 refine sat_hid (t := T206 (ri zs)) (P := fun q => q = (eqI (zs.length : Int) 4 && words 65535 zs)) ?_
 obtain ⟨h1, h0, h2⟩ := four_loop zs hl (ri zs)
 simp only [lenI_eq, ri_len] at h1 h0 h2
 unfold T206
 simp only [sat_ok', sat_br, sat_leaf, y206_0, h1, h0, h2, lenI_eq, ri_len, eqN_self, Bool.and_true, true_and]
 cases words 65535 zs <;> simp
theorem goodR_s (r : RM) (hd : r.d.length < 1000000) (ha : r.a.length < 1000000) : k154 r.g = true ∧ g154 r.g = goodR r := by
 refine sat_hid (t := T154 r.g) (P := fun q => q = goodR r) ?_
 obtain ⟨a1, a2⟩ := four_t r.d hd
 obtain ⟨c1, c2⟩ := four_t r.a ha
 unfold T154 goodR
 simp only [sat_ok', sat_leaf, y154_3, y154_2, y154_1, y154_0, r_D, r_A, r_Other, r_PC, r_Flags, r_Mask, r_Super, r_Trace, a1, a2, c1, c2, (wrd_s _).1, (wrd_s _).2, (flags_s _).1, (flags_s _).2, l1In_g, l1In_k, eqN_self, b2, Bool.and_assoc, Bool.true_or, Bool.and_true, true_and]
def goodC (r : RM) (zs : List Int) (l : List GAccess) (s h : Bool) : Bool := goodR r && (goodB zs l && !(s && h))
structure Sm (r : RM) (zs : List Int) (l : List GAccess) : Prop where
 d : r.d.length ≤ 1000
 a : r.a.length ≤ 1000
 z : zs.length ≤ 512
 l : l.length ≤ 1000
theorem Sm.of {t : Int} {r : RM} {zs : List Int} {l : List GAccess} (h : r.Ok t) (b : BusOk zs l) : Sm r zs l := by
 have h1 := h.d4
 have h2 := h.a4
 have h3 := b.hz
 have h4 := b.hl
 exact ⟨by omega, by omega, by omega, by omega⟩
theorem Sm.sz {r : RM} {zs : List Int} {l : List GAccess} (m : Sm r zs l) : Sz r zs l := ⟨by have := m.d; omega, by have := m.a; omega, by have := m.z; omega, by have := m.l; omega⟩
theorem Sm.len {r : RM} {zs : List Int} {l : List GAccess} (m : Sm r zs l) (s h : Bool) : LenC (cpuG r zs l s h) := by
 have h1 := m.d
 have h2 := m.a
 have h3 := m.z
 have h4 := m.l
 refine ⟨?_, ?_, ?_, ?_⟩
 ·show (ri r.d).length ≤ 2000; rw [ri_len]; omega
 ·show (ri r.a).length ≤ 2000; rw [ri_len]; omega
 ·show (ri zs).length ≤ 2000; rw [ri_len]; omega
 ·show (l.map GAccess.row).length ≤ 2000; rw [List.length_map]; omega
theorem goodC_i {r : RM} {zs : List Int} {l : List GAccess} (s h : Bool) (m : Sm r zs l) : k30 (cpuG r zs l s h) = true ∧ g30 (cpuG r zs l s h) = goodC r zs l s h := by
 refine sat_hid (t := T30 (cpuG r zs l s h)) (P := fun q => q = goodC r zs l s h) ?_
 obtain ⟨a1, a2⟩ := goodR_i r (by have := m.d; omega) (by have := m.a; omega)
 obtain ⟨c1, c2⟩ := good_i zs l (by have := m.z; omega) (by have := m.l; omega)
 have c1' : k111 (bus zs l) = true := c1
 have c2' : g111 (bus zs l) = goodB zs l := c2
 unfold T30 goodC cpuG
 simp only [sat_ok', sat_leaf, a1, a2, c1', c2', b2, Bool.and_assoc, Bool.true_or, Bool.and_true, true_and]
theorem goodC_s {r : RM} {zs : List Int} {l : List GAccess} (s h : Bool) (m : Sm r zs l) : k76 (cpuG r zs l s h) = true ∧ g76 (cpuG r zs l s h) = goodC r zs l s h := by
 refine sat_hid (t := T76 (cpuG r zs l s h)) (P := fun q => q = goodC r zs l s h) ?_
 obtain ⟨a1, a2⟩ := goodR_s r (by have := m.d; omega) (by have := m.a; omega)
 obtain ⟨c1, c2⟩ := good_s (b := bus zs l) (zs := zs) (l := l) ⟨⟨zs, rfl⟩, ⟨l, rfl⟩, by rw [bus_B, ri_len]; exact m.z, by rw [bus_L, List.length_map]; exact m.l⟩ rfl rfl
 unfold T76 goodC cpuG goodB
 simp only [sat_ok', sat_leaf, a1, a2, c1, c2, eqN_self, b2, Bool.and_assoc, Bool.true_or, Bool.and_true, true_and]
theorem good_ok {r : RM} {zs : List Int} {l : List GAccess} {s h : Bool} (g : goodC r zs l s h = true) : r.Ok 65535 ∧ BusOk zs l := by
 unfold goodC goodR goodB at g
 simp only [Bool.and_eq_true, eqI_iff, leI_iff] at g
 obtain ⟨⟨⟨a1, a2⟩, ⟨a3, a4⟩, a5, a6, a7, a8⟩, ⟨b1, b2, b3, b4⟩, -⟩ := g
 exact ⟨⟨by decide, by decide, by omega, by omega, a2, a4, a5, a6, a7, a8⟩, ⟨by omega, b3, by omega, b4⟩⟩
theorem ownR_i {r : GRegs} (h1 : r.D.length ≤ 2000) (h2 : r.A.length ≤ 2000) : k151 r = true ∧ g151 r = r := by
 refine sat_hid (t := T151 r) (P := fun q => q = r) ?_
 obtain ⟨a1, a2, a3, a4, a5, a6, a7, a8, a9⟩ := roomB h1
 obtain ⟨c1, c2, c3, c4, c5, c6, c7, c8, c9⟩ := roomB h2
 unfold T151
 simp only [sat_ok', sat_leaf, y151_2, y151_1, y151_0, eqN_self, same_s, sameR_s, Bool.and_true, true_and, (z_len).1, (z_len).2, a1, a3, a4, a6, c1, c3, c4, c6]
theorem ownB_i {b : GBus} (h1 : b.Bytes.length ≤ 2000) (h2 : b.Log.length ≤ 2000) : k152 b = true ∧ g152 b = b := by
 refine sat_hid (t := T152 b) (P := fun r => r = b) ?_
 obtain ⟨a1, a2, a3, a4, a5, a6, a7, a8, a9⟩ := roomB h1
 obtain ⟨c1, c2, c3, c4, c5, c6, c7, c8, c9⟩ := roomB h2
 unfold T152
 simp only [sat_ok', sat_leaf, y152_1, y152_0, eqN_self, same_s, sameR_s, Bool.and_true, true_and, (z_len).1, (z_len).2, a1, a4, a6, c2, c5, c6]
theorem ownC_i {c : GCpu} (h : LenC c) : k74 c = true ∧ g74 c = c := by
 refine sat_hid (t := T74 c) (P := fun r => r = c) ?_
 obtain ⟨h1, h2, h3, h4⟩ := h
 unfold T74
 simp only [sat_ok', sat_leaf, y74_8, y74_7, y74_6, y74_5, y74_4, y74_3, y74_2, y74_1, y74_0, ownR_i h1 h2, ownB_i h3 h4, eqN_self, same_s, sameR_s, Bool.and_true, true_and]
end Go.Proofs.YtdipcnijfkdnfaaGreatStack

namespace Go.Proofs.YtdipcnijfkdnfaaGreatStack
open Bool renaming and_true → qt
open Go Go.Zq
set_option maxHeartbeats 4000000
set_option maxRecDepth 100000
theorem fine_code {m : MM} {k s a v : Int} (h : m.f.Vector = 0) : fine (accM m k s a v).1 = eqI (codeO k s a) 0 := by
 unfold accM fine
 dsimp only
 rw [h]
 cases hc : eqI (codeO k s a) 0
 ·have : neI (codeO k s a) 0 = true := by rw [eqI_f] at hc; exact neI_iff.2 hc
  rw [this]
  cases eqI (codeO k s a) 2 <;> rfl
 ·have : neI (codeO k s a) 0 = false := by rw [eqI_iff] at hc; exact neI_f.2 hc
  rw [this, Bool.false_and, cond_false, h]; rfl
def mm (r : RM) (zs : List Int) (l : List GAccess) (s : Bool) : MM := ⟨r, zs, l, s, f0⟩
theorem push_i {v t : Int} {r : RM} {zs : List Int} {l : List GAccess} {s h : Bool} (hr : r.Ok t) (hb : BusOk zs l) (h0 : 0 ≤ v) (h1 : v ≤ 65535) : k75 v (cpuG r zs l s h) = true ∧ g75 v (cpuG r zs l s h) = (cpuG (pushM (mm r zs l s) v).r (pushM (mm r zs l s) v).zs (pushM (mm r zs l s) v).l s h, (dat r.a 3 - 2) % 65536, codeO 2 2 ((dat r.a 3 - 2) % 65536)) := by
 refine sat_hid (t := T75 v (cpuG r zs l s h)) (P := fun q => q = (cpuG (pushM (mm r zs l s) v).r (pushM (mm r zs l s) v).zs (pushM (mm r zs l s) v).l s h, (dat r.a 3 - 2) % 65536, codeO 2 2 ((dat r.a 3 - 2) % 65536))) ?_
 have hm : (mm r zs l s).Ok t := ⟨hr, hb⟩
 obtain ⟨b1, b2, b3, b4, b5, b6, b7⟩ := a3_facts hr
 have fa := fit_word hm h0 h1
 obtain ⟨a1, a2⟩ := touch_i (k := 2) (a := (dat r.a 3 - 2) % 65536) (fa.t hm) fa.ha (fun e => absurd e (by decide))
 have a1' : k153 2 2 ((dat r.a 3 - 2) % 65536) v (bus zs l) = true := a1
 have a2' : g153 2 2 ((dat r.a 3 - 2) % 65536) v (bus zs l) = (bus (tB 2 2 ((dat r.a 3 - 2) % 65536) v zs) (tL 2 2 ((dat r.a 3 - 2) % 65536) v zs l), 0, codeO 2 2 ((dat r.a 3 - 2) % 65536)) := a2
 have hf : fine (accM (mm r zs l s) 2 2 ((dat r.a 3 - 2) % 65536) v).1 = eqI (codeO 2 2 ((dat r.a 3 - 2) % 65536)) 0 := fine_code rfl
 unfold T75 pushM
 simp only [sat_ok', sat_br, sat_leaf, y75_7, y75_6, y75_5, y75_4, y75_3, y75_2, y75_1, y75_0, show (cpuG r zs l s h).R = r.g from rfl, show (cpuG r zs l s h).Bus = bus zs l from rfl, show (cpuG r zs l s h).Stop = s from rfl, show (cpuG r zs l s h).Halt = h from rfl, r_D, r_A, r_Other, r_PC, r_Flags, r_Mask, r_Super, r_Trace, lenI_eq, ri_len, b1, b2, b3, b4, b5, b6, a1', a2', ri_set, List.length_set, eqN_self, qt, true_and]
 have e : (mm r zs l s).r = r := rfl
 rw [e, hf]
 refine ⟨fun q => by rw [q]; rfl, fun q => by rw [q]; rfl⟩
theorem pop_i {t : Int} {r : RM} {zs : List Int} {l : List GAccess} {s h : Bool} (hr : r.Ok t) (hb : BusOk zs l) : k83 (cpuG r zs l s h) = true ∧ g83 (cpuG r zs l s h) = (cpuG (popM (mm r zs l s)).1.r (popM (mm r zs l s)).1.zs (popM (mm r zs l s)).1.l s h, (popM (mm r zs l s)).2, dat r.a 3, codeO 1 2 (dat r.a 3)) := by
 refine sat_hid (t := T83 (cpuG r zs l s h)) (P := fun q => q = (cpuG (popM (mm r zs l s)).1.r (popM (mm r zs l s)).1.zs (popM (mm r zs l s)).1.l s h, (popM (mm r zs l s)).2, dat r.a 3, codeO 1 2 (dat r.a 3))) ?_
 have hm : (mm r zs l s).Ok t := ⟨hr, hb⟩
 obtain ⟨b1, b2, b3, b4, b5, b6, b7⟩ := a3_facts hr
 have fa := fit_pop hm
 obtain ⟨a1, a2⟩ := touch_i (k := 1) (a := dat r.a 3) (fa.t hm) fa.ha (fun e => rfl)
 have a1' : k153 1 2 (dat r.a 3) 0 (bus zs l) = true := a1
 have a2' : g153 1 2 (dat r.a 3) 0 (bus zs l) = (bus (tB 1 2 (dat r.a 3) 0 zs) (tL 1 2 (dat r.a 3) 0 zs l), tV 1 2 (dat r.a 3) 0 zs, codeO 1 2 (dat r.a 3)) := a2
 have hf : fine (accM (mm r zs l s) 1 2 (dat r.a 3) 0).1 = eqI (codeO 1 2 (dat r.a 3)) 0 := fine_code rfl
 unfold T83 popM
 simp only [sat_ok', sat_br, sat_leaf, y83_7, y83_6, y83_5, y83_4, y83_3, y83_2, y83_1, y83_0, show (cpuG r zs l s h).R = r.g from rfl, show (cpuG r zs l s h).Bus = bus zs l from rfl, show (cpuG r zs l s h).Stop = s from rfl, show (cpuG r zs l s h).Halt = h from rfl, r_D, r_A, r_Other, r_PC, r_Flags, r_Mask, r_Super, r_Trace, lenI_eq, ri_len, b1, b2, b3, b4, b5, b7, a1', a2', ri_set, List.length_set, eqN_self, qt, true_and]
 have e : (mm r zs l s).r = r := rfl
 rw [e, hf]
 refine ⟨fun q => by rw [q]; rfl, fun q => by rw [q]; rfl⟩
def zC : GCpu := ⟨⟨[], [], 0, 0, 0, 0, false, false⟩, ⟨[], []⟩, false, false⟩
def pushR (r : RM) (zs : List Int) (l : List GAccess) (s h : Bool) (v : Int) : GCpu × Bool × Bool := bif goodC r zs l s h && inB v 0 65535 then (cpuG (pushM (mm r zs l s) v).r (pushM (mm r zs l s) v).zs (pushM (mm r zs l s) v).l s h, fine (pushM (mm r zs l s) v), true) else (zC, false, false)
theorem push_fine (r : RM) (zs : List Int) (l : List GAccess) (s : Bool) (v : Int) : fine (pushM (mm r zs l s) v) = eqI (codeO 2 2 ((dat r.a 3 - 2) % 65536)) 0 := by
 have hf : fine (accM (mm r zs l s) 2 2 ((dat r.a 3 - 2) % 65536) v).1 = eqI (codeO 2 2 ((dat r.a 3 - 2) % 65536)) 0 := fine_code rfl
 have e : (mm r zs l s).r = r := rfl
 unfold pushM
 rw [e, hf]
 cases hc : eqI (codeO 2 2 ((dat r.a 3 - 2) % 65536)) 0
 ·rw [cond_false, hf, hc]
 ·rw [cond_true]
  rw [hc] at hf
  exact hf
theorem pop_fine (r : RM) (zs : List Int) (l : List GAccess) (s : Bool) : fine (popM (mm r zs l s)).1 = eqI (codeO 1 2 (dat r.a 3)) 0 := by
 have hf : fine (accM (mm r zs l s) 1 2 (dat r.a 3) 0).1 = eqI (codeO 1 2 (dat r.a 3)) 0 := fine_code rfl
 have e : (mm r zs l s).r = r := rfl
 unfold popM
 rw [e, hf]
 cases hc : eqI (codeO 1 2 (dat r.a 3)) 0
 ·rw [cond_false, hf, hc]
 ·rw [cond_true]
  rw [hc] at hf
  exact hf
theorem push_stop (m : MM) (v : Int) : (pushM m v).stop = m.stop := by
 unfold pushM
 exact cpair (P := fun z : MM => z.stop = m.stop) (fun _ => rfl) (fun _ => rfl)
theorem pop_stop (m : MM) : (popM m).1.stop = m.stop := by
 unfold popM
 exact cpair (P := fun z : MM => z.stop = m.stop) (fun _ => rfl) (fun _ => rfl)
theorem pushW_i {r : RM} {zs : List Int} {l : List GAccess} (s h : Bool) (v : Int) (m : Sm r zs l) : k9 (cpuG r zs l s h) v = true ∧ g9 (cpuG r zs l s h) v = pushR r zs l s h v := by
 refine sat_hid (t := T9 (cpuG r zs l s h) v) (P := fun q => q = pushR r zs l s h v) ?_
 obtain ⟨a1, a2⟩ := goodC_i s h m
 obtain ⟨c1, c2⟩ := ownC_i (m.len s h)
 unfold T9 pushR
 cases hg : goodC r zs l s h
 ·simp only [sat_ok', sat_br, sat_leaf, y9_7, y9_6, y9_5, y9_4, y9_3, y9_2, y9_1, y9_0, a1, a2, hg, (word_i _).1, (word_i _).2, Bool.not_false, Bool.not_true, Bool.false_and, cond_true, cond_false, Bool.true_or, Bool.or_true, qt, true_and, Bool.true_eq_false, false_implies, and_true, forall_const]
  rfl
 ·obtain ⟨g1, g2⟩ := good_ok hg
  cases hv : inB v 0 65535
  ·simp only [sat_ok', sat_br, sat_leaf, y9_7, y9_6, y9_5, y9_4, y9_3, y9_2, y9_1, y9_0, a1, a2, hg, hv, (word_i _).1, (word_i _).2, Bool.not_false, Bool.not_true, Bool.and_false, cond_true, cond_false, Bool.true_or, Bool.or_true, qt, true_and, Bool.true_eq_false, false_implies, and_true, forall_const]
   rfl
  ·have hv' := inB_iff.1 hv
   obtain ⟨p1, p2⟩ := push_i (s := s) (h := h) g1 g2 hv'.1 hv'.2
   simp only [sat_ok', sat_br, sat_leaf, y9_7, y9_6, y9_5, y9_4, y9_3, y9_2, y9_1, y9_0, a1, a2, c1, c2, p1, p2, hg, hv, push_fine, (word_i _).1, (word_i _).2, eqN_self, Bool.not_false, Bool.not_true, Bool.and_self, cond_true, cond_false, Bool.true_or, Bool.or_true, qt, true_and, Bool.false_eq_true, false_implies, forall_const]
theorem pushW_s {r : RM} {zs : List Int} {l : List GAccess} (s h : Bool) (v : Int) (m : Sm r zs l) : k10 (cpuG r zs l s h) v = true ∧ g10 (cpuG r zs l s h) v = pushR r zs l s h v := by
 refine sat_hid (t := T10 (cpuG r zs l s h) v) (P := fun q => q = pushR r zs l s h v) ?_
 obtain ⟨a1, a2⟩ := goodC_s s h m
 unfold T10 pushR
 cases hg : goodC r zs l s h
 ·simp only [sat_ok', sat_br, sat_leaf, y10_25, y10_24, y10_23, y10_22, y10_21, y10_20, y10_19, y10_18, y10_17, y10_16, y10_15, y10_14, y10_13, y10_12, y10_11, y10_10, y10_9, y10_8, y10_7, y10_6, y10_5, y10_4, y10_3, y10_2, y10_1, y10_0, a1, a2, hg, (wrd_s _).1, (wrd_s _).2, Bool.not_false, Bool.not_true, Bool.false_and, cond_true, cond_false, Bool.true_or, Bool.or_true, qt, true_and, Bool.true_eq_false, false_implies, and_true, forall_const]
  rfl
 ·obtain ⟨g1, g2⟩ := good_ok hg
  cases hv : inB v 0 65535
  ·simp only [sat_ok', sat_br, sat_leaf, y10_25, y10_24, y10_23, y10_22, y10_21, y10_20, y10_19, y10_18, y10_17, y10_16, y10_15, y10_14, y10_13, y10_12, y10_11, y10_10, y10_9, y10_8, y10_7, y10_6, y10_5, y10_4, y10_3, y10_2, y10_1, y10_0, a1, a2, hg, hv, (wrd_s _).1, (wrd_s _).2, Bool.not_false, Bool.not_true, Bool.and_false, cond_true, cond_false, Bool.true_or, Bool.or_true, qt, true_and, Bool.true_eq_false, false_implies, and_true, forall_const]
   rfl
  ·have hv' := inB_iff.1 hv
   obtain ⟨d1, d2⟩ := start_m (s := s) (h := h) g1 g2
   have hm : (mm r zs l s).Ok 65535 := ⟨g1, g2⟩
   have d2' : g78 (cpuG r zs l s h) = (mm r zs l s).g := d2
   obtain ⟨p1, p2⟩ := push_m hm hv'.1 hv'.2
   have p3 := push_ok hm hv'.1 hv'.2
   obtain ⟨q1, q2⟩ := cpu_m p3
   have ps : (pushM (mm r zs l s) v).stop = s := push_stop _ _
   have hf : eqI (pushM (mm r zs l s) v).f.Vector 0 = fine (pushM (mm r zs l s) v) := rfl
   simp only [sat_ok', sat_br, sat_leaf, y10_25, y10_24, y10_23, y10_22, y10_21, y10_20, y10_19, y10_18, y10_17, y10_16, y10_15, y10_14, y10_13, y10_12, y10_11, y10_10, y10_9, y10_8, y10_7, y10_6, y10_5, y10_4, y10_3, y10_2, y10_1, y10_0, a1, a2, d1, d2', p1, p2, q1, q2, ps, hg, hv, fine_s, g_ffault, hf, (wrd_s _).1, (wrd_s _).2, eqN_self, same_s, sameR_s, Bool.not_false, Bool.not_true, Bool.and_self, cond_true, cond_false, Bool.true_or, Bool.or_true, qt, true_and, Bool.false_eq_true, false_implies, forall_const]
   rfl
def popR (r : RM) (zs : List Int) (l : List GAccess) (s h : Bool) : GCpu × Int × Bool × Bool := bif goodC r zs l s h then (cpuG (popM (mm r zs l s)).1.r (popM (mm r zs l s)).1.zs (popM (mm r zs l s)).1.l s h, (popM (mm r zs l s)).2, fine (popM (mm r zs l s)).1, true) else (zC, 0, false, false)
theorem popW_i {r : RM} {zs : List Int} {l : List GAccess} (s h : Bool) (m : Sm r zs l) : k12 (cpuG r zs l s h) = true ∧ g12 (cpuG r zs l s h) = popR r zs l s h := by
 refine sat_hid (t := T12 (cpuG r zs l s h)) (P := fun q => q = popR r zs l s h) ?_
 obtain ⟨a1, a2⟩ := goodC_i s h m
 obtain ⟨c1, c2⟩ := ownC_i (m.len s h)
 unfold T12 popR
 cases hg : goodC r zs l s h
 ·simp only [sat_ok', sat_br, sat_leaf, y12_5, y12_4, y12_3, y12_2, y12_1, y12_0, a1, a2, hg, Bool.not_false, Bool.not_true, cond_true, cond_false, qt, true_and, Bool.true_eq_false, false_implies, and_true, forall_const]
  rfl
 ·obtain ⟨g1, g2⟩ := good_ok hg
  obtain ⟨p1, p2⟩ := pop_i (s := s) (h := h) g1 g2
  simp only [sat_ok', sat_br, sat_leaf, y12_5, y12_4, y12_3, y12_2, y12_1, y12_0, a1, a2, c1, c2, p1, p2, hg, pop_fine, eqN_self, Bool.not_false, Bool.not_true, cond_true, cond_false, qt, true_and, Bool.false_eq_true, false_implies, forall_const]
theorem popW_s {r : RM} {zs : List Int} {l : List GAccess} (s h : Bool) (m : Sm r zs l) : k16 (cpuG r zs l s h) = true ∧ g16 (cpuG r zs l s h) = popR r zs l s h := by
 refine sat_hid (t := T16 (cpuG r zs l s h)) (P := fun q => q = popR r zs l s h) ?_
 obtain ⟨a1, a2⟩ := goodC_s s h m
 unfold T16 popR
 cases hg : goodC r zs l s h
 ·simp only [sat_ok', sat_br, sat_leaf, y16_22, y16_21, y16_20, y16_19, y16_18, y16_17, y16_16, y16_15, y16_14, y16_13, y16_12, y16_11, y16_10, y16_9, y16_8, y16_7, y16_6, y16_5, y16_4, y16_3, y16_2, y16_1, y16_0, a1, a2, hg, Bool.not_false, Bool.not_true, cond_true, cond_false, qt, true_and, Bool.true_eq_false, false_implies, and_true, forall_const]
  rfl
 ·obtain ⟨g1, g2⟩ := good_ok hg
  obtain ⟨d1, d2⟩ := start_m (s := s) (h := h) g1 g2
  have hm : (mm r zs l s).Ok 65535 := ⟨g1, g2⟩
  have d2' : g78 (cpuG r zs l s h) = (mm r zs l s).g := d2
  obtain ⟨p1, p2⟩ := pop_m hm
  have p3 := (pop_ok hm).1
  obtain ⟨q1, q2⟩ := cpu_m p3
  have ps : (popM (mm r zs l s)).1.stop = s := pop_stop _
  have hf : eqI (popM (mm r zs l s)).1.f.Vector 0 = fine (popM (mm r zs l s)).1 := rfl
  simp only [sat_ok', sat_br, sat_leaf, y16_22, y16_21, y16_20, y16_19, y16_18, y16_17, y16_16, y16_15, y16_14, y16_13, y16_12, y16_11, y16_10, y16_9, y16_8, y16_7, y16_6, y16_5, y16_4, y16_3, y16_2, y16_1, y16_0, a1, a2, d1, d2', p1, p2, q1, q2, ps, hg, fine_s, g_ffault, hf, eqN_self, same_s, sameR_s, Bool.not_false, Bool.not_true, cond_true, cond_false, qt, true_and, Bool.false_eq_true, false_implies, forall_const]
  rfl
end Go.Proofs.YtdipcnijfkdnfaaGreatStack

namespace Go.Proofs.YtdipcnijfkdnfaaGreatStack
open Go Go.Zq
set_option maxHeartbeats 4000000
set_option maxRecDepth 100000
theorem byteA_g (x : Int) : g225 x = !inB x 0 255 := by
 simp [g225, hid_eq, T225]
theorem byteA_k (x : Int) : k225 x = true := by
 simp [k225, hid_eq, T225]
theorem idxPa_loop (zs : List Int) (hl : zs.length < 1000000) : i227v2_0 (V227v2_0.mk (ri zs) (lenI (ri zs)) 0) = true ∧ 0 ≤ (w227v2_0 (V227v2_0.mk (ri zs) (lenI (ri zs)) 0)).s8 ∧ (ltI (w227v2_0 (V227v2_0.mk (ri zs) (lenI (ri zs)) 0)).s8 (w227v2_0 (V227v2_0.mk (ri zs) (lenI (ri zs)) 0)).s7 = !bytesB zs) := by
 unfold i227v2_0 w227v2_0
 refine loop_w (Post := fun w => 0 ≤ w.s8 ∧ ltI w.s8 w.s7 = !bytesB zs) (loop_sat (fun n v => ∃ i : Nat, v = V227v2_0.mk (ri zs) (lenI (ri zs)) i ∧ i ≤ zs.length ∧ n = zs.length - i ∧ ∀ j (hj : j < zs.length), j < i → inB zs[j] 0 255 = true) _ ?_ 2097152 zs.length _ ⟨0, rfl, by omega, by omega, fun j _ h => absurd h (by omega)⟩ (by omega))
 rintro n v ⟨i, rfl, hi, rfl, hall⟩
 unfold N227v2_0
 simp only [sat_ok', sat_br, sat_leaf, lenI_eq, ri_len, ltI_iff, ltI_f, true_and, Int.toNat_natCast]
 constructor
 ·intro h
  have hi' : i < zs.length := by omega
  rw [ri_inr hi', ri_int hi', byteA_k, byteA_g]
  refine ⟨rfl, fun hz => ?_, fun hz => ?_⟩
  ·rw [bytesB_f hi' (by simpa using hz)]
   exact ⟨by omega, by simpa [ltI] using h⟩
  ·refine ⟨_, ?_, i + 1, ?_, by omega, rfl, ?_⟩
   ·omega
   ·rw [addI_eq (by omega)]; rfl
   ·intro j hj hji
    by_cases e : j = i
    ·subst e; simpa using hz
    ·exact hall j hj (by omega)
 ·intro h
  rw [bytesB_t fun j hj => hall j hj (by omega)]
  exact ⟨by omega, by simpa [ltI] using h⟩
theorem areBytesPa_t (zs : List Int) (n : Int) (hl : zs.length < 1000000) : k163 (ri zs) n = true ∧ g163 (ri zs) n = (decide ((zs.length : Int) ≤ n) && bytesB zs) := by
 obtain ⟨h1, h2, h3⟩ := idxPa_loop zs hl
 have a : k227v2 (ri zs) = true ∧ geI (g227v2 (ri zs)) 0 = !bytesB zs := by
  unfold k227v2 g227v2 T227v2 y227v2_0
  rw [hid_eq, hid_eq]
  simp only [okv_ok, okv_br, okv_leaf, val_ok, val_br, val_leaf, h1, h3, Bool.true_and]
  cases bytesB zs
  ·exact ⟨rfl, by simpa using h2⟩
  ·exact ⟨rfl, rfl⟩
 have b : k171v2 (ri zs) = true ∧ g171v2 (ri zs) = !bytesB zs := by
  unfold k171v2 g171v2 T171v2
  rw [hid_eq, hid_eq]
  simp only [okv_ok, okv_leaf, val_ok, val_leaf, a.1, a.2, Bool.true_and, and_self]
 unfold k163 g163 T163
 rw [hid_eq, hid_eq]
 simp only [okv_ok, okv_leaf, val_ok, val_leaf, b.1, b.2, lenI_eq, ri_len, leI, Bool.true_and, Bool.true_or, Bool.and_true, Bool.not_not, true_and]
 cases decide ((zs.length : Int) ≤ n) <;> rfl
end Go.Proofs.YtdipcnijfkdnfaaGreatStack

namespace Go.Proofs.YtdipcnijfkdnfaaGreatStack
open Go Go.Zq
set_option maxHeartbeats 4000000
set_option maxRecDepth 100000
theorem idxPb_loop (zs : List Int) (hl : zs.length < 1000000) : i227v3_0 (V227v3_0.mk (ri zs) (lenI (ri zs)) 0) = true ∧ 0 ≤ (w227v3_0 (V227v3_0.mk (ri zs) (lenI (ri zs)) 0)).s8 ∧ (ltI (w227v3_0 (V227v3_0.mk (ri zs) (lenI (ri zs)) 0)).s8 (w227v3_0 (V227v3_0.mk (ri zs) (lenI (ri zs)) 0)).s7 = !bytesB zs) := by
 unfold i227v3_0 w227v3_0
 refine loop_w (Post := fun w => 0 ≤ w.s8 ∧ ltI w.s8 w.s7 = !bytesB zs) (loop_sat (fun n v => ∃ i : Nat, v = V227v3_0.mk (ri zs) (lenI (ri zs)) i ∧ i ≤ zs.length ∧ n = zs.length - i ∧ ∀ j (hj : j < zs.length), j < i → inB zs[j] 0 255 = true) _ ?_ 2097152 zs.length _ ⟨0, rfl, by omega, by omega, fun j _ h => absurd h (by omega)⟩ (by omega))
 rintro n v ⟨i, rfl, hi, rfl, hall⟩
 unfold N227v3_0
 simp only [sat_ok', sat_br, sat_leaf, lenI_eq, ri_len, ltI_iff, ltI_f, true_and, Int.toNat_natCast]
 constructor
 ·intro h
  have hi' : i < zs.length := by omega
  rw [ri_inr hi', ri_int hi', byteA_k, byteA_g]
  refine ⟨rfl, fun hz => ?_, fun hz => ?_⟩
  ·rw [bytesB_f hi' (by simpa using hz)]
   exact ⟨by omega, by simpa [ltI] using h⟩
  ·refine ⟨_, ?_, i + 1, ?_, by omega, rfl, ?_⟩
   ·omega
   ·rw [addI_eq (by omega)]; rfl
   ·intro j hj hji
    by_cases e : j = i
    ·subst e; simpa using hz
    ·exact hall j hj (by omega)
 ·intro h
  rw [bytesB_t fun j hj => hall j hj (by omega)]
  exact ⟨by omega, by simpa [ltI] using h⟩
theorem areBytesPb_t (zs : List Int) (n : Int) (hl : zs.length < 1000000) : k163v1 (ri zs) n = true ∧ g163v1 (ri zs) n = (decide ((zs.length : Int) ≤ n) && bytesB zs) := by
 obtain ⟨h1, h2, h3⟩ := idxPb_loop zs hl
 have a : k227v3 (ri zs) = true ∧ geI (g227v3 (ri zs)) 0 = !bytesB zs := by
  unfold k227v3 g227v3 T227v3 y227v3_0
  rw [hid_eq, hid_eq]
  simp only [okv_ok, okv_br, okv_leaf, val_ok, val_br, val_leaf, h1, h3, Bool.true_and]
  cases bytesB zs
  ·exact ⟨rfl, by simpa using h2⟩
  ·exact ⟨rfl, rfl⟩
 have b : k171v3 (ri zs) = true ∧ g171v3 (ri zs) = !bytesB zs := by
  unfold k171v3 g171v3 T171v3
  rw [hid_eq, hid_eq]
  simp only [okv_ok, okv_leaf, val_ok, val_leaf, a.1, a.2, Bool.true_and, and_self]
 unfold k163v1 g163v1 T163v1
 rw [hid_eq, hid_eq]
 simp only [okv_ok, okv_leaf, val_ok, val_leaf, b.1, b.2, lenI_eq, ri_len, leI, Bool.true_and, Bool.true_or, Bool.and_true, Bool.not_not, true_and]
 cases decide ((zs.length : Int) ≤ n) <;> rfl
theorem new_i (xs ys : List Int) (hx : xs.length < 1000000) (hy : ys.length < 1000000) : k91 (ri xs) (ri ys) = true ∧ g91 (ri xs) (ri ys) = newR xs ys := by
 refine sat_hid (t := T91 (ri xs) (ri ys)) (P := fun r => r = newR xs ys) ?_
 obtain ⟨a1, a2⟩ := areBytesPa_t xs 384 hx
 obtain ⟨b1, b2⟩ := areBytesPb_t ys 64 hy
 have hc : (bif (!(decide ((xs.length : Int) ≤ 384) && bytesB xs)) then true else (!(decide ((ys.length : Int) ≤ 64) && bytesB ys))) = !(bytesB xs && (bytesB ys && (leI (xs.length : Int) 384 && leI (ys.length : Int) 64))) := by
  unfold leI
  cases bytesB xs <;> cases bytesB ys <;> cases decide ((xs.length : Int) ≤ 384) <;> cases decide ((ys.length : Int) ≤ 64) <;> rfl
 unfold T91 newR
 cases hg : bytesB xs && (bytesB ys && (leI (xs.length : Int) 384 && leI (ys.length : Int) 64))
 ·simp only [sat_ok', sat_br, sat_leaf, a1, a2, b1, b2, hc, hg, Bool.not_false, cond_false, Bool.and_true, Bool.true_or, true_and, Bool.true_eq_false, false_implies, forall_const, and_true]
 ·have hg' := hg
  simp only [Bool.and_eq_true, leI_iff] at hg'
  obtain ⟨g1, g2, g3, g4⟩ := hg'
  have e0 : List.replicate 512 (rowI 0) = ri (List.replicate 512 0) := by simp [ri, List.map_replicate, rowI]
  have y0 : y91_0 (ri xs) = ri (putA xs xs.length) := by
   unfold y91_0 putA
   rw [e0, ri_len, minN_eq, Nat.min_eq_left (by omega), Nat.zero_add, List.take_of_length_le (by rw [ri_len]; omega), List.take_length]
   simp only [ri, ← List.map_drop, ← List.map_append, List.drop_replicate]
  have hA := putA_len (xs := xs) (i := xs.length) (Nat.le_refl _) (by omega)
  have y2 : y91_2 (ri xs) (ri ys) = ri (putB (putA xs xs.length) ys ys.length) := by
   unfold y91_2 putB
   rw [y0, ri_len, minN_eq, Nat.min_eq_left (by omega), List.take_of_length_le (l := ri ys) (by rw [ri_len]; omega), List.take_length]
   simp only [ri, ← List.map_drop, ← List.map_take, ← List.map_append]
  have hB := putB_len (A := putA xs xs.length) (ys := ys) (i := ys.length) hA (Nat.le_refl _) (by omega)
  have tk : List.take 512 (ri (putB (putA xs xs.length) ys ys.length)) = ri (putB (putA xs xs.length) ys ys.length) := List.take_of_length_le (by rw [ri_len, hB]; exact Nat.le_refl _)
  have z0 : leN 512 512 = true := rfl
  have z1 : eqN 512 512 = true := rfl
  simp only [sat_ok', sat_br, sat_leaf, y91_1, y0, y2, tk, a1, a2, b1, b2, hc, hg, ri_len, hA, hB, z0, z1, Bool.not_true, cond_true, Bool.and_true, Bool.true_or, true_and, Bool.false_eq_true, false_implies, forall_const]
end Go.Proofs.YtdipcnijfkdnfaaGreatStack

namespace Go.Proofs.YtdipcnijfkdnfaaGreatStack
open Go Go.Zq
set_option maxHeartbeats 4000000
set_option maxRecDepth 100000
theorem newAv (xs ys : List Int) (hx : xs.length ≤ 384) : i93v1_0 (V93v1_0.mk ⟨[], []⟩ ⟨ri (putA xs 0), []⟩ (ri ys) (ri xs) (xs.length : Int) 0) = true ∧ w93v1_0 (V93v1_0.mk ⟨[], []⟩ ⟨ri (putA xs 0), []⟩ (ri ys) (ri xs) (xs.length : Int) 0) = V93v1_0.mk ⟨[], []⟩ ⟨ri (putA xs xs.length), []⟩ (ri ys) (ri xs) (xs.length : Int) (xs.length : Int) := by
 refine loop_st (N := N93v1_0) (fun i => V93v1_0.mk ⟨[], []⟩ ⟨ri (putA xs i), []⟩ (ri ys) (ri xs) (xs.length : Int) (i : Int)) xs.length (by omega) (fun i hi => ?_) ?_
 ·have hl := putA_len (xs := xs) (i := i) (by omega) hx
  have hl2 := putA_len (xs := xs) (i := i + 1) (by omega) hx
  have l1 : ltI (i : Int) (xs.length : Int) = true := by rw [ltI_iff]; omega
  have l2 : ltI (i : Int) ((512 : Nat) : Int) = true := by rw [ltI_iff]; omega
  have l3 : leI 0 (i : Int) = true := by simp
  have a1 : addI (i : Int) 1 = ((i + 1 : Nat) : Int) := by rw [addI_eq (by omega)]; omega
  have b1 : blt i 512 = true := by simp; omega
  have b2 : beqN (rlen (ri (putA xs i)) i) 1 = true := by rw [ri_rlen (by omega)]; rfl
  unfold N93v1_0
  simp only [sat_ok', sat_br, sat_leaf, y93v1_0_l_5, y93v1_0_l_4, y93v1_0_l_3, y93v1_0_l_2, y93v1_0_l_1, y93v1_0_l_0, lenI_eq, ri_len, hl, hl2, ri_set, List.length_set, List.length_nil, ri_inr hi, ri_int hi, Int.toNat_natCast, Nat.zero_add, putA_succ hi hx, l1, l2, l3, a1, b1, b2, eqN_self, Bool.and_true, true_and, Bool.true_eq_false, false_implies, and_true, forall_const]
 ·have l1 : ltI (xs.length : Int) (xs.length : Int) = false := by simp
  unfold N93v1_0
  simp only [sat_ok', sat_br, sat_leaf, l1, true_and, Bool.false_eq_true, false_implies, implies_true]
theorem newBv (A ys : List Int) (hA : A.length = 512) (hy : ys.length ≤ 64) : i93v1_1 (V93v1_1.mk ⟨[], []⟩ ⟨ri (putB A ys 0), []⟩ (ri ys) (ys.length : Int) 0) = true ∧ w93v1_1 (V93v1_1.mk ⟨[], []⟩ ⟨ri (putB A ys 0), []⟩ (ri ys) (ys.length : Int) 0) = V93v1_1.mk ⟨[], []⟩ ⟨ri (putB A ys ys.length), []⟩ (ri ys) (ys.length : Int) (ys.length : Int) := by
 refine loop_st (N := N93v1_1) (fun i => V93v1_1.mk ⟨[], []⟩ ⟨ri (putB A ys i), []⟩ (ri ys) (ys.length : Int) (i : Int)) ys.length (by omega) (fun i hi => ?_) ?_
 ·have hl := putB_len (A := A) (ys := ys) (i := i) hA (by omega) hy
  have hl2 := putB_len (A := A) (ys := ys) (i := i + 1) hA (by omega) hy
  have l1 : ltI (i : Int) (ys.length : Int) = true := by rw [ltI_iff]; omega
  have a1 : addI (i : Int) 1 = ((i + 1 : Nat) : Int) := by rw [addI_eq (by omega)]; omega
  have a2 : addI 384 (i : Int) = ((384 + i : Nat) : Int) := by rw [addI_eq (by omega)]; omega
  have l2 : ltI ((384 + i : Nat) : Int) ((512 : Nat) : Int) = true := by rw [ltI_iff]; omega
  have l3 : leI 0 ((384 + i : Nat) : Int) = true := by rw [leI_iff]; omega
  have b1 : blt (384 + i) 512 = true := by simp; omega
  have b2 : beqN (rlen (ri (putB A ys i)) (384 + i)) 1 = true := by rw [ri_rlen (by omega)]; rfl
  unfold N93v1_1
  simp only [sat_ok', sat_br, sat_leaf, y93v1_1_l_5, y93v1_1_l_4, y93v1_1_l_3, y93v1_1_l_2, y93v1_1_l_1, y93v1_1_l_0, lenI_eq, ri_len, hl, hl2, ri_set, List.length_set, List.length_nil, ri_inr hi, ri_int hi, a2, Int.toNat_natCast, Nat.zero_add, putB_succ hA hi hy, l1, l2, l3, a1, b1, b2, eqN_self, Bool.and_true, true_and, Bool.true_eq_false, false_implies, and_true, forall_const]
 ·have l1 : ltI (ys.length : Int) (ys.length : Int) = false := by simp
  unfold N93v1_1
  simp only [sat_ok', sat_br, sat_leaf, l1, true_and, Bool.false_eq_true, false_implies, implies_true]
theorem new_sv (xs ys : List Int) (hx : xs.length < 1000000) (hy : ys.length < 1000000) : k93v1 (ri xs) (ri ys) = true ∧ g93v1 (ri xs) (ri ys) = newR xs ys := by
 refine sat_hid (t := T93v1 (ri xs) (ri ys)) (P := fun r => r = newR xs ys) ?_
 obtain ⟨a1, a2⟩ := l4Bytes_tv1 xs hx
 obtain ⟨b1, b2⟩ := l4Bytes_t ys hy
 unfold T93v1
 have hc : (bif (bif (bif (!(bytesB xs)) then true else (!(bytesB ys))) then true else (gtI (xs.length : Int) 384)) then true else (gtI (ys.length : Int) 64)) = !(bytesB xs && (bytesB ys && (leI (xs.length : Int) 384 && leI (ys.length : Int) 64))) := by
  rw [gt_le, gt_le]
  cases bytesB xs <;> cases bytesB ys <;> cases leI (xs.length : Int) 384 <;> cases leI (ys.length : Int) 64 <;> rfl
 unfold newR
 cases hg : bytesB xs && (bytesB ys && (leI (xs.length : Int) 384 && leI (ys.length : Int) 64))
 ·simp only [sat_ok', sat_br, sat_leaf, a1, a2, b1, b2, lenI_eq, ri_len, hc, hg, Bool.not_false, cond_false, Bool.and_true, Bool.true_or, true_and, Bool.true_eq_false, false_implies, forall_const, and_true]
 ·have hg' := hg
  simp only [Bool.and_eq_true, leI_iff] at hg'
  obtain ⟨g1, g2, g3, g4⟩ := hg'
  obtain ⟨c1, c2⟩ := newAv xs ys (by omega)
  have hA := putA_len (xs := xs) (i := xs.length) (Nat.le_refl _) (by omega)
  obtain ⟨d1, d2⟩ := newBv (putA xs xs.length) ys hA (by omega)
  have e0 : List.replicate 512 (rowI 0) = ri (putA xs 0) := by simp [putA, ri, List.map_replicate, rowI]
  have e1 : putB (putA xs xs.length) ys 0 = putA xs xs.length := by simp [putB]
  rw [e1] at d1 d2
  simp only [sat_ok', sat_br, sat_leaf, y93v1_8, y93v1_7, y93v1_6, y93v1_5, y93v1_4, y93v1_3, y93v1_2, y93v1_1, y93v1_0, e0, a1, a2, b1, b2, c1, c2, d1, d2, lenI_eq, ri_len, hc, hg, eqN_self, Bool.not_true, cond_true, Bool.and_true, Bool.true_or, true_and, Bool.false_eq_true, false_implies, forall_const]
end Go.Proofs.YtdipcnijfkdnfaaGreatStack

namespace Go.Proofs.YtdipcnijfkdnfaaGreatStack
open Go Go.Zq
set_option maxHeartbeats 4000000
set_option maxRecDepth 100000
theorem ncpu_sv (xs : List Int) (pc : Int) (hx : xs.length < 1000000) : k20v1 (ri xs) pc = true ∧ g20v1 (ri xs) pc = cR xs pc := by
 refine sat_hid (t := T20v1 (ri xs) pc) (P := fun q => q = cR xs pc) ?_
 obtain ⟨a1, a2⟩ := new_sv xs [] hx (by decide)
 obtain ⟨n1, n2⟩ := newR_s
 have a1' : k93v1 (ri xs) [] = true := a1
 have a2' : g93v1 (ri xs) [] = newR xs [] := a2
 have l3 : ltI 3 ((4 : Nat) : Int) = true := by decide
 have b3 : blt 3 4 = true := by decide
 have r3 : beqN (rlen (ri r0.a) 3) 1 = true := by rw [ri_rlen (by decide)]; rfl
 have l4 : r0.a.length = 4 := rfl
 unfold T20v1 cR
 simp only [sat_ok', sat_br, sat_leaf, y20v1_2, y20v1_1, y20v1_0, a1', a2', n1, n2, (wrd_s _).1, (wrd_s _).2, r_D, r_A, r_Other, r_PC, r_Flags, r_Mask, r_Super, r_Trace, lenI_eq, ri_len, l4, l3, b3, r3, ri_set, List.length_set, eqN_self, Bool.and_true, Bool.true_or, true_and]
 cases (newR xs []).2 <;> cases inB pc 0 65535 <;> simp <;> rfl
theorem newR_i : k92 = true ∧ g92 = r0.g := by
 refine sat_hid (t := T92) (P := fun q => q = r0.g) ?_
 unfold T92
 simp only [sat_ok', sat_leaf, y92_0, List.length_replicate, eqN_self, same_s, sameR_s, Bool.and_true, true_and]
 rfl
theorem ncpu_i (xs : List Int) (pc : Int) (hx : xs.length < 1000000) : k19 (ri xs) pc = true ∧ g19 (ri xs) pc = cR xs pc := by
 refine sat_hid (t := T19 (ri xs) pc) (P := fun q => q = cR xs pc) ?_
 obtain ⟨a1, a2⟩ := new_i xs [] hx (by decide)
 obtain ⟨n1, n2⟩ := newR_i
 have a1' : k91 (ri xs) [] = true := a1
 have a2' : g91 (ri xs) [] = newR xs [] := a2
 have l3 : ltI 3 ((4 : Nat) : Int) = true := by decide
 have b3 : blt 3 4 = true := by decide
 have r3 : beqN (rlen (ri r0.a) 3) 1 = true := by rw [ri_rlen (by decide)]; rfl
 have l4 : r0.a.length = 4 := rfl
 unfold T19 cR
 simp only [sat_ok', sat_br, sat_leaf, y19_2, y19_1, y19_0, a1', a2', n1, n2, (word_i _).1, (word_i _).2, r_D, r_A, r_Other, r_PC, r_Flags, r_Mask, r_Super, r_Trace, lenI_eq, ri_len, l4, l3, b3, r3, ri_set, List.length_set, eqN_self, Bool.and_true, Bool.true_or, true_and]
 cases (newR xs []).2 <;> cases inB pc 0 65535 <;> simp <;> rfl
theorem CG.sm {t : Int} {c : GCpu} (h : CG t c) : ∃ r zs l s h, c = cpuG r zs l s h ∧ RM.Ok t r ∧ BusOk zs l ∧ Sm r zs l := by
 obtain ⟨r, zs, l, s, h, e, a, b⟩ := h
 exact ⟨r, zs, l, s, h, e, a, b, Sm.of a b⟩
theorem dpush_d {x : List Row} (h : bytesOk x = true) : k8 x = true ∧ CG 65536 (g8 x).1 := by
 refine sat_hid (t := T8 x) (P := fun q => CG 65536 q.1) ?_
 obtain ⟨a1, a2, a3⟩ := cpu_d (CO_0 h) (by decide)
 obtain ⟨b1, b2⟩ := value_d a2 (by decide)
 unfold T8
 simp only [sat_ok', sat_leaf, y8_4, y8_3, y8_2, y8_1, y8_0, a1, b1, eqN_self, same_s, sameR_s, Bool.and_true, true_and]
 exact a3
theorem dgc_d {x : List Row} (h : bytesOk x = true) : k84 x = true ∧ CG 65536 (g84 x) := by
 refine sat_hid (t := T84 x) (P := fun q => CG 65536 q) ?_
 obtain ⟨a1, a2, a3⟩ := cpu_d (CO_0 h) (by decide)
 unfold T84
 simp only [sat_ok', sat_leaf, y84_4, y84_3, y84_2, y84_1, y84_0, a1, eqN_self, same_s, sameR_s, Bool.and_true, true_and]
 exact a3
theorem dpop_d {x : List Row} (h : bytesOk x = true) : k15 x = true ∧ CG 65536 (g15 x) := by
 refine sat_hid (t := T15 x) (P := fun q => CG 65536 q) ?_
 obtain ⟨a1, a2⟩ := dgc_d h
 unfold T15
 simp only [sat_ok', sat_leaf, y15_0, a1, eqN_self, same_s, sameR_s, Bool.and_true, true_and]
 exact a2
theorem stepR_cg {t : Int} {m : MM} (hm : m.Ok t) : CG t (stepR m (stepA m)).1 := by
 have h := stepA_ok hm
 unfold stepR
 exact cpair (P := fun q : GCpu × GFault => CG t q.1) (fun _ => ⟨_, _, _, _, _, rfl, h.r, h.b⟩) (fun _ => ⟨_, _, _, _, _, rfl, hm.r, h.b⟩)
theorem dsame_d {x : List Row} (h : bytesOk x = true) : k17 x = true ∧ (CG 65536 (g17 x).1 ∧ CG 65536 (g17 x).2) := by
 refine sat_hid (t := T17 x) (P := fun q => CG 65536 q.1 ∧ CG 65536 q.2) ?_
 obtain ⟨a1, a2, a3⟩ := cpu_d (CO_0 h) (by decide)
 obtain ⟨b1, b2⟩ := one_d 2 a2 (by decide)
 have a4 := a3
 obtain ⟨r, zs, l, s, hh, e, e1, e2⟩ := a4
 obtain ⟨c1, c2⟩ := step_m (s := s) (h := hh) e1 e2
 rw [← e] at c1 c2
 have c3 : CG 65536 (g87 (g71 (Gl1Cur.mk x 0 0)).2).1 := by rw [c2]; exact stepR_cg ⟨e1, e2⟩
 unfold T17
 simp only [sat_ok', sat_br, sat_leaf, y17_18, y17_17, y17_16, y17_15, y17_14, y17_13, y17_12, y17_11, y17_10, y17_9, y17_8, y17_7, y17_6, y17_5, y17_4, y17_3, y17_2, y17_1, y17_0, a1, b1, c1, eqN_self, same_s, sameR_s, Bool.and_true, true_and]
 exact ⟨fun _ => ⟨a3, c3⟩, fun _ => ⟨a3, a3⟩⟩
theorem dnew_d {x : List Row} (h : bytesOk x = true) : k18 x = true ∧ ∃ zs : List Int, (g18 x).1 = ri zs ∧ zs.length ≤ 2000 := by
 refine sat_hid (t := T18 x) (P := fun q => ∃ zs : List Int, q.1 = ri zs ∧ zs.length ≤ 2000) ?_
 obtain ⟨a1, a2, a3, a4, -⟩ := pick_d 10 (CO_0 h) (by decide)
 have a4 := a4 (by omega)
 obtain ⟨m, hm⟩ : ∃ m : Nat, (g89 10 (Gl1Cur.mk x 0 0)).2 = (m : Int) := ⟨_, (Int.toNat_of_nonneg a3).symm⟩
 obtain ⟨b1, b2, xs, b3, b4, b5⟩ := bytes4_d m _ a2 (by omega) (by omega)
 obtain ⟨c1, c2⟩ := amongC [-1, 0, 65535, 65536] b2 (by omega) (by decide)
 simp only [ri_cons, ri_nil] at c1
 unfold T18
 simp only [sat_ok', sat_leaf, y18_2, y18_1, y18_0, a1, hm, b1, b3, c1, eqN_self, same_s, sameR_s, Bool.and_true, true_and]
 exact ⟨xs, rfl, by omega⟩
end Go.Proofs.YtdipcnijfkdnfaaGreatStack

namespace Go.Proofs.YtdipcnijfkdnfaaGreatStack
open Go Go.Zq
set_option maxHeartbeats 4000000
set_option maxRecDepth 100000
theorem wk_rk {s v : Int} {a : Nat} {zs : List Int} {l : List GAccess} (h : TouchOk s v zs l) (hc : codeO 2 s a = 0) : rkq a (wk s v a zs s.toNat) s.toNat = v := by
 obtain ⟨-, q1, q2, q3⟩ := code_0 hc
 obtain ⟨v0, v1, v2⟩ := val_rng h.hs h.hv
 have hz := h.hz
 rcases h.hs with rfl | rfl
 ·have := v2 rfl
  rw [show Int.toNat 1 = 1 from rfl]
  simp only [wk, rkq, et 1 1, cond_true]
  rw [getD_lt (by rw [List.length_set]; omega), List.getElem_set_self]
  omega
 ·rw [show Int.toNat 2 = 2 from rfl]
  simp only [wk, rkq]
  rw [getD_lt (by simp only [List.length_set]; omega), getD_lt (by simp only [List.length_set]; omega), List.getElem_set_self, List.getElem_set_ne (by omega), List.getElem_set_self]
  omega
def CE (c : GCpu) : Prop := ∃ r zs l s h, c = cpuG r zs l s h ∧ Sz r zs l
theorem CE.self {c : GCpu} (h : CE c) : k11 c c = true ∧ g11 c c = true := by
 obtain ⟨r, zs, l, s, h, rfl, z⟩ := h
 obtain ⟨a, b⟩ := sameC_t r r zs zs l l s h s h z
 rw [cpuE_self] at b
 exact ⟨a, b⟩
theorem zC_ce : CE zC := ⟨⟨[], [], 0, 0, 0, 0, false, false⟩, [], [], false, false, rfl, by decide, by decide, by decide, by decide⟩
theorem CG.ce {t : Int} {c : GCpu} (h : CG t c) : CE c := by
 obtain ⟨r, zs, l, s, h, rfl, a, b⟩ := h
 exact ⟨r, zs, l, s, h, rfl, (Sm.of a b).sz⟩
theorem goodC_of {r : RM} {zs : List Int} {l : List GAccess} {s h : Bool} (hr : r.Ok 65535) (hb : BusOk zs l) (hs : (!(s && h)) = true) : goodC r zs l s h = true := by
 have h1 := hr.d4
 have h2 := hr.a4
 have h3 := hb.hz
 have h4 := hb.hl
 have e1 : eqI (r.d.length : Int) 4 = true := by simp; omega
 have e2 : eqI (r.a.length : Int) 4 = true := by simp; omega
 have e3 : eqI (zs.length : Int) 512 = true := by simp; omega
 have e4 : leI (l.length : Int) 400 = true := by simp; omega
 have hm := hr.mw
 rw [show (65535 : Int) - 65528 = 7 from rfl] at hm
 unfold goodC goodR goodB
 rw [e1, e2, e3, e4, hr.dw, hr.aw, hr.ow, hr.pw, hr.fw, hm, hb.hb, hb.ha, hs]; rfl
theorem goodC_sh {r : RM} {zs : List Int} {l : List GAccess} {s h : Bool} (g : goodC r zs l s h = true) : (!(s && h)) = true := by
 unfold goodC at g
 simp only [Bool.and_eq_true] at g
 exact g.2.2
theorem pushR_ce {r : RM} {zs : List Int} {l : List GAccess} {s h : Bool} {v : Int} : CE (pushR r zs l s h v).1 := by
 unfold pushR
 refine cpair (P := fun q : GCpu × Bool × Bool => CE q.1) (fun hg => ?_) (fun _ => zC_ce)
 rw [Bool.and_eq_true] at hg
 obtain ⟨g1, g2⟩ := good_ok hg.1
 have hv := inB_iff.1 hg.2
 have p := push_ok (⟨g1, g2⟩ : (mm r zs l s).Ok 65535) hv.1 hv.2
 exact ⟨_, _, _, _, _, rfl, (Sm.of p.r p.b).sz⟩
theorem popR_ce {r : RM} {zs : List Int} {l : List GAccess} {s h : Bool} : CE (popR r zs l s h).1 := by
 unfold popR
 refine cpair (P := fun q : GCpu × Int × Bool × Bool => CE q.1) (fun hg => ?_) (fun _ => zC_ce)
 obtain ⟨g1, g2⟩ := good_ok hg
 have p := (pop_ok (⟨g1, g2⟩ : (mm r zs l s).Ok 65535)).1
 exact ⟨_, _, _, _, _, rfl, (Sm.of p.r p.b).sz⟩
theorem cR_ce {xs : List Int} {pc : Int} : CE (cR xs pc).1 := by
 cases h : (cR xs pc).2
 ·have : (cR xs pc).1 = zC := by
   unfold cR at h ⊢
   cases hg : (newR xs []).2 && inB pc 0 65535
   ·rfl
   ·rw [hg] at h; simp at h
  rw [this]; exact zC_ce
 ·obtain ⟨zs, e, b, p⟩ := cR_true h
  rw [e]
  exact CG.ce (t := 65536) ⟨_, _, _, _, _, rfl, nR_ok p, b⟩
structure TailP (x : List Row) : Prop where
 a1 : k15 x = true
 a2 : k12 (g15 x) = true
 a3 : k16 (g15 x) = true
 a4 : g16 (g15 x) = g12 (g15 x)
 a5 : k11 (g12 (g15 x)).1 (g12 (g15 x)).1 = true
 a6 : g11 (g12 (g15 x)).1 (g12 (g15 x)).1 = true
 b1 : k17 x = true
 b2 : k21 (g17 x).1 (g17 x).2 = true
 b3 : k22 (g17 x).1 (g17 x).2 = true
 b4 : k11 (g17 x).1 (g17 x).2 = true
 b5 : g22 (g17 x).1 (g17 x).2 = g21 (g17 x).1 (g17 x).2
 b6 : g11 (g17 x).1 (g17 x).2 = g21 (g17 x).1 (g17 x).2
 c1 : k18 x = true
 c2 : k19 (g18 x).1 (g18 x).2 = true
 c3 : k20v1 (g18 x).1 (g18 x).2 = true
 c4 : g20v1 (g18 x).1 (g18 x).2 = g19 (g18 x).1 (g18 x).2
 c5 : k11 (g19 (g18 x).1 (g18 x).2).1 (g19 (g18 x).1 (g18 x).2).1 = true
 c6 : g11 (g19 (g18 x).1 (g18 x).2).1 (g19 (g18 x).1 (g18 x).2).1 = true
theorem tail_l {x : List Row} (h : bytesOk x = true) : TailP x := by
 obtain ⟨a1, a2⟩ := dpop_d h
 obtain ⟨r, zs, l, s, hh, e, -, -, sm⟩ := a2.sm
 obtain ⟨p1, p2⟩ := popW_i s hh sm
 obtain ⟨q1, q2⟩ := popW_s s hh sm
 rw [← e] at p1 p2 q1 q2
 have pc := popR_ce (r := r) (zs := zs) (l := l) (s := s) (h := hh)
 rw [← p2] at pc
 obtain ⟨b1, b2, b3⟩ := dsame_d h
 obtain ⟨r1, zs1, l1, s1, h1, e1, -, -, sm1⟩ := b2.sm
 obtain ⟨r2, zs2, l2, s2, h2, e2, -, -, sm2⟩ := b3.sm
 obtain ⟨u1, u2⟩ := sameI_t r1 r2 zs1 zs2 l1 l2 s1 h1 s2 h2 sm1.sz
 obtain ⟨w1, w2⟩ := sameS_t r1 r2 zs1 zs2 l1 l2 s1 h1 s2 h2 sm1.sz
 obtain ⟨y1, y2⟩ := sameC_t r1 r2 zs1 zs2 l1 l2 s1 h1 s2 h2 sm1.sz
 rw [← e1, ← e2] at u1 u2 w1 w2 y1 y2
 obtain ⟨c1, xs, c2, c3⟩ := dnew_d h
 obtain ⟨i1, i2⟩ := ncpu_i xs (g18 x).2 (by omega)
 obtain ⟨j1, j2⟩ := ncpu_sv xs (g18 x).2 (by omega)
 rw [← c2] at i1 i2 j1 j2
 have nc := cR_ce (xs := xs) (pc := (g18 x).2)
 rw [← i2] at nc
 exact ⟨a1, p1, q1, q2.trans p2.symm, pc.self.1, pc.self.2, b1, u1, w1, y1, w2.trans u2.symm, y2.trans u2.symm, c1, i1, j1, j2.trans i2.symm, nc.self.1, nc.self.2⟩
theorem set_back {l : List Int} {x : Int} (h : l.length = 4) : (l.set 3 x).set 3 (dat l 3) = l := by
 rw [List.set_set]
 have h3 : 3 < l.length := by omega
 have : dat l 3 = l[3] := by rw [dat, toN3, getD_lt h3]
 rw [this, List.set_getElem_self]
theorem dat_set {l : List Int} {x : Int} (h : l.length = 4) : dat (l.set 3 x) 3 = x := by
 have h3 : 3 < (l.set 3 x).length := by rw [List.length_set]; omega
 rw [dat, toN3, getD_lt h3, List.getElem_set_self]
theorem push_pop {r : RM} {zs : List Int} {l : List GAccess} {s : Bool} {v : Int} (hr : r.Ok 65535) (hb : BusOk zs l) (h0 : 0 ≤ v) (h1 : v ≤ 65535) (hc : codeO 2 2 ((dat r.a 3 - 2) % 65536) = 0) :
  (pushM (mm r zs l s) v).r = { r with a := r.a.set 3 ((dat r.a 3 - 2) % 65536) } ∧ (popM (mm (pushM (mm r zs l s) v).r (pushM (mm r zs l s) v).zs (pushM (mm r zs l s) v).l s)).1.r = r ∧ (popM (mm (pushM (mm r zs l s) v).r (pushM (mm r zs l s) v).zs (pushM (mm r zs l s) v).l s)).2 = v ∧ codeO 1 2 (dat (pushM (mm r zs l s) v).r.a 3) = 0 := by
 have hf : fine (accM (mm r zs l s) 2 2 ((dat r.a 3 - 2) % 65536) v).1 = true := by rw [fine_code rfl, hc]; rfl
 have er : (mm r zs l s).r = r := rfl
 have hp : pushM (mm r zs l s) v = { (accM (mm r zs l s) 2 2 ((dat r.a 3 - 2) % 65536) v).1 with r := { r with a := r.a.set 3 ((dat r.a 3 - 2) % 65536) } } := by
  unfold pushM
  rw [er, hf, cond_true]
 have a4 := hr.a4
 have ar := a3_rng hr
 have p1 : (pushM (mm r zs l s) v).r = { r with a := r.a.set 3 ((dat r.a 3 - 2) % 65536) } := by rw [hp]
 have pd : dat (pushM (mm r zs l s) v).r.a 3 = (dat r.a 3 - 2) % 65536 := by rw [p1]; exact dat_set a4
 have c1 : codeO 1 2 ((dat r.a 3 - 2) % 65536) = 0 := (code_0 hc).1
 have pz : (pushM (mm r zs l s) v).zs = tB 2 2 ((dat r.a 3 - 2) % 65536) v zs := by rw [hp]; rfl
 have hT : TouchOk 2 v zs l := ⟨Or.inr rfl, val2 h0 h1, hb.hz, hb.hb, hb.hl⟩
 obtain ⟨n, hn⟩ : ∃ n : Nat, (dat r.a 3 - 2) % 65536 = (n : Int) := ⟨((dat r.a 3 - 2) % 65536).toNat, by omega⟩
 have hv : tV 1 2 ((dat r.a 3 - 2) % 65536) 0 (tB 2 2 ((dat r.a 3 - 2) % 65536) v zs) = v := by
  unfold tV tB
  rw [hc, c1, hn]
  have := wk_rk (a := n) hT (by rw [← hn]; exact hc)
  simpa [ef 1 2, et 0 0, et 2 2] using this
 refine ⟨p1, ?_, ?_, by rw [pd]; exact c1⟩
 ·unfold popM
  have e : (mm (pushM (mm r zs l s) v).r (pushM (mm r zs l s) v).zs (pushM (mm r zs l s) v).l s).r = (pushM (mm r zs l s) v).r := rfl
  rw [e, pd, fine_code rfl, c1]
  show RM.mk _ _ _ _ _ _ _ _ = _
  rw [p1]
  have : (((dat r.a 3 - 2) % 65536 + 2) % 65536) = dat r.a 3 := by omega
  rw [this, set_back a4]
 ·show tV 1 2 (dat (pushM (mm r zs l s) v).r.a 3) 0 (pushM (mm r zs l s) v).zs = v
  rw [pd, pz]
  exact hv
end Go.Proofs.YtdipcnijfkdnfaaGreatStack

namespace Go.Proofs.YtdipcnijfkdnfaaGreatStack
open Go Go.Zq
set_option maxHeartbeats 4000000
set_option maxRecDepth 100000
theorem okL (x0 x1 : List Row) (h0 : bytesOk x0 = true) (h1 : bytesOk x1 = true) : k3 x0 x1 = true ∧ g3 x0 x1 = true := by
 refine sat_hid (t := T3 x0 x1) (P := fun q => q = true) ?_
 obtain ⟨t1, t2, t3, t4, t5, t6, t7, t8, t9, t10, t11, t12, t13, t14, t15, t16, t17, t18⟩ := tail_l h1
 obtain ⟨d1, d2⟩ := dpush_d h0
 obtain ⟨r, zs, l, s, h, e, hr0, hb0, sm⟩ := d2.sm
 obtain ⟨c, v, ev⟩ : ∃ c v, g8 x0 = (c, v) := ⟨_, _, rfl⟩
 rw [ev] at e
 dsimp only at e
 subst e
 obtain ⟨p1, p2⟩ := pushW_i s h v sm
 obtain ⟨q1, q2⟩ := pushW_s s h v sm
 have pc := (pushR_ce (r := r) (zs := zs) (l := l) (s := s) (h := h) (v := v)).self
 have eI : ∀ x, neI x x = false := fun x => by simp
 have eJ : ∀ x, eqI x x = true := fun x => by simp
 have eB : ∀ x, eqB x x = true := fun x => by simp
 unfold T3
 cases hok : goodC r zs l s h && inB v 0 65535
 ·have hR : pushR r zs l s h v = (zC, false, false) := by unfold pushR; rw [hok]; rfl
  rw [hR] at p2 q2 pc
  simp only [sat_ok', sat_br, sat_leaf, y3_18, y3_17, y3_16, y3_15, y3_14, y3_13, y3_12, y3_11, y3_10, y3_9, y3_8, y3_7, y3_6, y3_5, y3_4, y3_3, y3_2, y3_1, y3_0, ev, d1, p1, p2, q1, q2, pc.1, pc.2, t1, t2, t3, t4, t5, t6, t7, t8, t9, t10, t11, t12, t13, t14, t15, t16, t17, t18, eI, eJ, eB, cond_true, cond_false, Bool.not_true, Bool.not_false, Bool.and_true, Bool.true_and, Bool.true_or, Bool.or_true, Bool.or_false, true_and, and_true, implies_true, Bool.false_eq_true, Bool.true_eq_false, false_implies, forall_const]
 ·have hok' := hok
  rw [Bool.and_eq_true] at hok'
  obtain ⟨g1, g2⟩ := good_ok hok'.1
  have hv := inB_iff.1 hok'.2
  have pok := push_ok (⟨g1, g2⟩ : (mm r zs l s).Ok 65535) hv.1 hv.2
  have hR : pushR r zs l s h v = (cpuG (pushM (mm r zs l s) v).r (pushM (mm r zs l s) v).zs (pushM (mm r zs l s) v).l s h, fine (pushM (mm r zs l s) v), true) := by unfold pushR; rw [hok]; rfl
  rw [hR] at p2 q2 pc
  have a4 := g1.a4
  have ar := a3_rng g1
  obtain ⟨i1, i2, -⟩ := dat_at a4 in3
  have pa4 := pok.r.a4
  obtain ⟨j1, j2, -⟩ := dat_at pa4 in3
  rw [toN3] at i2 j2
  cases hf : eqI (codeO 2 2 ((dat r.a 3 - 2) % 65536)) 0
  ·have pf : fine (pushM (mm r zs l s) v) = false := by rw [push_fine]; exact hf
   rw [pf] at p2 q2 pc
   have hf2 : fine (accM (mm r zs l s) 2 2 ((dat r.a 3 - 2) % 65536) v).1 = false := by rw [fine_code rfl]; exact hf
   have er : (mm r zs l s).r = r := rfl
   have hp : pushM (mm r zs l s) v = (accM (mm r zs l s) 2 2 ((dat r.a 3 - 2) % 65536) v).1 := by
    unfold pushM
    rw [er, hf2, cond_false]
   have hr : (pushM (mm r zs l s) v).r = r := by rw [hp]; rfl
   have hz : (pushM (mm r zs l s) v).zs = zs := by
    rw [hp]
    show tB 2 2 ((dat r.a 3 - 2) % 65536) v zs = zs
    unfold tB
    rw [hf]; rfl
   rw [hr, hz] at p2 q2 pc
   obtain ⟨w1, w2⟩ := regL_t r r sm.sz.d sm.sz.a
   rw [regE_self] at w2
   obtain ⟨u1, u2⟩ := sameInts_t zs zs sm.sz.z
   rw [decide_eq_true rfl] at u2
   simp only [sat_ok', sat_br, sat_leaf, y3_18, y3_17, y3_16, y3_15, y3_14, y3_13, y3_12, y3_11, y3_10, y3_9, y3_8, y3_7, y3_6, y3_5, y3_4, y3_3, y3_2, y3_1, y3_0, ev, d1, p1, p2, q1, q2, pc.1, pc.2, t1, t2, t3, t4, t5, t6, t7, t8, t9, t10, t11, t12, t13, t14, t15, t16, t17, t18, show ∀ r zs l s h, (cpuG r zs l s h).R = r.g from fun _ _ _ _ _ => rfl, show ∀ r zs l s h, (cpuG r zs l s h).Bus = bus zs l from fun _ _ _ _ _ => rfl, bus_B, w1, w2, u1, u2, eI, eJ, eB, cond_true, cond_false, Bool.not_true, Bool.not_false, Bool.and_true, Bool.true_and, Bool.true_or, Bool.or_true, Bool.or_false, true_and, and_true, implies_true, Bool.false_eq_true, Bool.true_eq_false, false_implies, forall_const]
  ·have pf : fine (pushM (mm r zs l s) v) = true := by rw [push_fine]; exact hf
   rw [pf] at p2 q2 pc
   obtain ⟨b1, b2, b3, b4⟩ := push_pop (s := s) g1 g2 hv.1 hv.2 (eqI_iff.1 hf)
   have sm2 := Sm.of pok.r pok.b
   obtain ⟨o1, o2⟩ := popW_i s h sm2
   have gd := goodC_of (s := s) (h := h) pok.r pok.b (goodC_sh hok'.1)
   have oR : popR (pushM (mm r zs l s) v).r (pushM (mm r zs l s) v).zs (pushM (mm r zs l s) v).l s h = (cpuG r (popM (mm (pushM (mm r zs l s) v).r (pushM (mm r zs l s) v).zs (pushM (mm r zs l s) v).l s)).1.zs (popM (mm (pushM (mm r zs l s) v).r (pushM (mm r zs l s) v).zs (pushM (mm r zs l s) v).l s)).1.l s h, v, true, true) := by
    unfold popR
    rw [gd, cond_true, pop_fine, b4, b2, b3]
    rfl
   rw [oR] at o2
   obtain ⟨w1, w2⟩ := regL_t r r sm.sz.d sm.sz.a
   rw [regE_self] at w2
   have pd : dat (pushM (mm r zs l s) v).r.a 3 = (dat r.a 3 - 2) % 65536 := by rw [b1]; exact dat_set a4
   have er : remI (addI (dat r.a 3) 65534) 65536 = (dat r.a 3 - 2) % 65536 := by
    rw [addI_eq (by omega)]
    unfold remI
    rw [Int.tmod_eq_emod_of_nonneg (by omega)]
    omega
   simp only [sat_ok', sat_br, sat_leaf, y3_18, y3_17, y3_16, y3_15, y3_14, y3_13, y3_12, y3_11, y3_10, y3_9, y3_8, y3_7, y3_6, y3_5, y3_4, y3_3, y3_2, y3_1, y3_0, ev, d1, p1, p2, q1, q2, pc.1, pc.2, o1, o2, t1, t2, t3, t4, t5, t6, t7, t8, t9, t10, t11, t12, t13, t14, t15, t16, t17, t18, show ∀ r zs l s h, (cpuG r zs l s h).R = r.g from fun _ _ _ _ _ => rfl, r_A, i1, i2, j1, j2, pd, er, w1, w2, show neI 65536 0 = true from rfl, eI, eJ, eB, cond_true, cond_false, Bool.not_true, Bool.not_false, Bool.and_true, Bool.true_and, Bool.true_or, Bool.or_true, Bool.or_false, true_and, and_true, implies_true, Bool.false_eq_true, Bool.true_eq_false, false_implies, forall_const]
end Go.Proofs.YtdipcnijfkdnfaaGreatStack
