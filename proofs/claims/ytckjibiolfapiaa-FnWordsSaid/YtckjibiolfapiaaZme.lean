/- Words: the plain law. -/
import Derived.Test.YtckjibiolfapiaaZqWordsQ
import Derived.Test.YtckjibiolfapiaaZmd
set_option linter.unusedVariables false
set_option linter.unusedSimpArgs false
namespace Go.Proofs.YtckjibiolfapiaaWords
open Go Go.Zq
set_option maxHeartbeats 4000000
set_option maxRecDepth 100000

/-! Bounds, lists of bytes, equal lists. -/
@[simp] theorem within_g (x a b : Int) : g142 x a b = inB x a b := by
  simp only [g142, hid_eq, T142, val_ok, val_leaf, geI, leI, inB, ge_iff_le]
  cases decide (a ≤ x) <;> rfl
@[simp] theorem within_k (x a b : Int) : k142 x a b = true := by
  simp [k142, hid_eq, T142]
@[simp] theorem l1In_g (x a b : Int) : g144 x a b = inB x a b := by
  simp only [g144, hid_eq, T144, val_ok, val_leaf, geI, leI, inB, ge_iff_le]
  cases decide (a ≤ x) <;> rfl
@[simp] theorem l1In_k (x a b : Int) : k144 x a b = true := by
  simp [k144, hid_eq, T144]
/-! Sizes, values, signs. -/
def valB (s v : Int) : Bool := bif eqI s 1 then inB v 0 255 else bif eqI s 2 then inB v 0 65535 else false
def limO (s : Int) : Int := bif eqI s 1 then 256 else 65536
theorem size_s (s : Int) : k201 s = true ∧ g201 s = (eqI s 1 || eqI s 2) := by
  refine sat_hid (t := T201 s) (P := fun r => r = (eqI s 1 || eqI s 2)) ?_
  unfold T201
  simp only [sat_ok', sat_leaf, true_and]
  cases eqI s 1 <;> rfl
theorem lim_s1 : k220 1 = true ∧ g220 1 = 256 := by
  refine sat_hid (t := T220 1) (P := fun r => r = 256) ?_
  unfold T220
  simp only [sat_ok', sat_leaf]
  decide +kernel
theorem lim_s2 : k220 2 = true ∧ g220 2 = 65536 := by
  refine sat_hid (t := T220 2) (P := fun r => r = 65536) ?_
  unfold T220
  simp only [sat_ok', sat_leaf]
  decide +kernel
theorem lim_s {s : Int} (h : s = 1 ∨ s = 2) : k220 s = true ∧ g220 s = limO s := by
  rcases h with rfl | rfl
  · exact lim_s1
  · exact lim_s2
theorem val_s (s v : Int) : k181 s v = true ∧ g181 s v = valB s v := by
  refine sat_hid (t := T181 s v) (P := fun r => r = valB s v) ?_
  unfold T181 valB
  rw [(size_s s).1, (size_s s).2]
  by_cases h1 : s = 1
  · subst h1
    rw [lim_s1.1, lim_s1.2, show subI 256 1 = 255 from by decide]
    simp [show eqI 1 1 = true from rfl]
  · by_cases h2 : s = 2
    · subst h2
      rw [lim_s2.1, lim_s2.2, show subI 65536 1 = 65535 from by decide]
      simp [show eqI 2 1 = false from rfl, show eqI 2 2 = true from rfl]
    · have e1 : eqI s 1 = false := by simp [h1]
      have e2 : eqI s 2 = false := by simp [h2]
      simp [e1, e2]
theorem size_i (s : Int) : k198 s = true ∧ g198 s = (eqI s 1 || eqI s 2) := by
  refine sat_hid (t := T198 s) (P := fun r => r = (eqI s 1 || eqI s 2)) ?_
  unfold T198
  simp only [sat_ok', sat_leaf, true_and]
  cases eqI s 1 <;> rfl
theorem lim_i1 : k218 1 = true ∧ g218 1 = 256 := by
  refine sat_hid (t := T218 1) (P := fun r => r = 256) ?_
  unfold T218
  simp only [sat_ok', sat_leaf]
  decide +kernel
theorem lim_i2 : k218 2 = true ∧ g218 2 = 65536 := by
  refine sat_hid (t := T218 2) (P := fun r => r = 65536) ?_
  unfold T218
  simp only [sat_ok', sat_leaf]
  decide +kernel
theorem lim_i {s : Int} (h : s = 1 ∨ s = 2) : k218 s = true ∧ g218 s = limO s := by
  rcases h with rfl | rfl
  · exact lim_i1
  · exact lim_i2
theorem val_i (s v : Int) : k151 s v = true ∧ g151 s v = valB s v := by
  refine sat_hid (t := T151 s v) (P := fun r => r = valB s v) ?_
  unfold T151 valB
  rw [(size_i s).1, (size_i s).2]
  by_cases h1 : s = 1
  · subst h1
    rw [lim_i1.1, lim_i1.2, show subI 256 1 = 255 from by decide]
    simp [show eqI 1 1 = true from rfl]
  · by_cases h2 : s = 2
    · subst h2
      rw [lim_i2.1, lim_i2.2, show subI 65536 1 = 65535 from by decide]
      simp [show eqI 2 1 = false from rfl, show eqI 2 2 = true from rfl]
    · have e1 : eqI s 1 = false := by simp [h1]
      have e2 : eqI s 2 = false := by simp [h2]
      simp [e1, e2]
theorem val_of {s v : Int} (h : valB s v = true) : (s = 1 ∨ s = 2) ∧ 0 ≤ v ∧ v < limO s := by
  unfold valB at h
  cases e1 : eqI s 1
  · cases e2 : eqI s 2
    · rw [e1, e2] at h; simp at h
    · rw [e1, e2, cond_true, cond_false, inB_iff] at h
      unfold limO
      rw [e1]
      rw [eqI_iff] at e2
      exact ⟨Or.inr e2, by omega, by rw [cond_false]; omega⟩
  · rw [e1, cond_true, inB_iff] at h
    unfold limO
    rw [e1]
    rw [eqI_iff] at e1
    exact ⟨Or.inl e1, by omega, by rw [cond_true]; omega⟩
def sgn (s v : Int) : Int := bif geI v (limO s / 2) then v - limO s else v
theorem quo2 {s : Int} (h : s = 1 ∨ s = 2) : quoI (limO s) 2 = limO s / 2 := by
  rcases h with rfl | rfl <;> decide
theorem lim_rng {s : Int} (h : s = 1 ∨ s = 2) : limO s = 256 ∨ limO s = 65536 := by
  rcases h with rfl | rfl
  · exact Or.inl rfl
  · exact Or.inr rfl
theorem sgn_s {s v : Int} (h : s = 1 ∨ s = 2) (h0 : 0 ≤ v) (h1 : v < 1000000) : k182 s v = true ∧ g182 s v = sgn s v := by
  refine sat_hid (t := T182 s v) (P := fun r => r = sgn s v) ?_
  have l := lim_rng h
  have e : subI v (limO s) = v - limO s := subI_eq (by omega)
  unfold T182 sgn
  simp only [sat_ok', sat_br, sat_leaf, (lim_s h).1, (lim_s h).2, quo2 h, e, Bool.and_true, true_and]
  exact ⟨fun hh => by rw [hh]; rfl, fun hh => by rw [hh]; rfl⟩
theorem flag_s (b : Bool) (x : Int) : k168 b x = true ∧ g168 b x = bif b then x else 0 := by
  refine sat_hid (t := T168 b x) (P := fun r => r = bif b then x else 0) ?_
  unfold T168
  simp only [sat_ok', sat_br, sat_leaf, true_and]
  exact ⟨fun h => by rw [h]; rfl, fun h => by rw [h]; rfl⟩
theorem zn_s {s v : Int} (h : s = 1 ∨ s = 2) : k221 s v = true ∧ g221 s v = orI (bif eqI v 0 then 4 else 0) (bif geI v (limO s / 2) then 8 else 0) := by
  refine sat_hid (t := T221 s v) (P := fun r => r = orI (bif eqI v 0 then 4 else 0) (bif geI v (limO s / 2) then 8 else 0)) ?_
  unfold T221
  simp only [sat_ok', sat_leaf, (flag_s _ _).1, (flag_s _ _).2, (lim_s h).1, (lim_s h).2, quo2 h, Bool.and_true, true_and]
theorem sgn_i {s v : Int} (h : s = 1 ∨ s = 2) (h0 : 0 ≤ v) (h1 : v < 1000000) : k157 s v = true ∧ g157 s v = sgn s v := by
  refine sat_hid (t := T157 s v) (P := fun r => r = sgn s v) ?_
  have l := lim_rng h
  have e : subI v (limO s) = v - limO s := subI_eq (by omega)
  unfold T157 sgn
  simp only [sat_ok', sat_br, sat_leaf, (lim_i h).1, (lim_i h).2, quo2 h, e, Bool.and_true, true_and]
  exact ⟨fun hh => by rw [hh]; rfl, fun hh => by rw [hh]; rfl⟩
theorem flag_i (b : Bool) (x : Int) : k224 b x = true ∧ g224 b x = bif b then x else 0 := by
  refine sat_hid (t := T224 b x) (P := fun r => r = bif b then x else 0) ?_
  unfold T224
  simp only [sat_ok', sat_br, sat_leaf, true_and]
  exact ⟨fun h => by rw [h]; rfl, fun h => by rw [h]; rfl⟩
theorem zn_i {s v : Int} (h : s = 1 ∨ s = 2) : k225 s v = true ∧ g225 s v = orI (bif eqI v 0 then 4 else 0) (bif geI v (limO s / 2) then 8 else 0) := by
  refine sat_hid (t := T225 s v) (P := fun r => r = orI (bif eqI v 0 then 4 else 0) (bif geI v (limO s / 2) then 8 else 0)) ?_
  unfold T225
  simp only [sat_ok', sat_leaf, (flag_i _ _).1, (flag_i _ _).2, (lim_i h).1, (lim_i h).2, quo2 h, Bool.and_true, true_and]
/-- Flags by their bits. -/
def fl (c o z n : Bool) : Int := orI (orI (bif c then 17 else 0) (bif o then 2 else 0)) (orI (bif z then 4 else 0) (bif n then 8 else 0))
theorem mask {s v : Int} (h : s = 1 ∨ s = 2) : andI v (subI (limO s) 1) = v % limO s := by
  rcases h with rfl | rfl
  · exact andMask 8 _ (by omega) (by decide)
  · exact andMask 16 _ (by omega) (by decide)
/-- A sum and its flags, a difference and its. -/
def addM (s c a b : Int) : Int × Int := ((a + b + c) % limO s, fl (neI (a + b + c) ((a + b + c) % limO s)) (neI (sgn s a + sgn s b + c) (sgn s ((a + b + c) % limO s))) (eqI ((a + b + c) % limO s) 0) (geI ((a + b + c) % limO s) (limO s / 2)))
def subM (s a b : Int) : Int := fl (neI (a - b) ((a - b) % limO s)) (neI (sgn s a - sgn s b) (sgn s ((a - b) % limO s))) (eqI ((a - b) % limO s) 0) (geI ((a - b) % limO s) (limO s / 2))
theorem sgn_rng {s v : Int} (h : s = 1 ∨ s = 2) (h0 : 0 ≤ v) (h1 : v < limO s) : -65536 ≤ sgn s v ∧ sgn s v < 65536 := by
  have l := lim_rng h
  unfold sgn
  cases geI v (limO s / 2)
  · rw [cond_false]; omega
  · rw [cond_true]; omega
theorem reck {s x y : Int} (h : s = 1 ∨ s = 2) : k219 s x y = true ∧ g219 s x y = (x % limO s, fl (neI x (x % limO s)) (neI y (sgn s (x % limO s))) (eqI (x % limO s) 0) (geI (x % limO s) (limO s / 2))) := by
  refine sat_hid (t := T219 s x y) (P := fun r => r = (x % limO s, fl (neI x (x % limO s)) (neI y (sgn s (x % limO s))) (eqI (x % limO s) 0) (geI (x % limO s) (limO s / 2)))) ?_
  have l := lim_rng h
  have r0 : 0 ≤ x % limO s := Int.emod_nonneg _ (by omega)
  have r1 : x % limO s < limO s := Int.emod_lt_of_pos _ (by omega)
  obtain ⟨a1, a2⟩ := sgn_i (v := x % limO s) h r0 (by omega)
  unfold T219 fl
  simp only [sat_ok', sat_leaf, y219_0, (lim_i h).1, (lim_i h).2, mask h, a1, a2, (flag_i _ _).1, (flag_i _ _).2, (zn_i h).1, (zn_i h).2, Bool.and_true, true_and]
theorem add_i {s c a b : Int} (hc : c = 0 ∨ c = 1) (ha : valB s a = true) (hb : valB s b = true) : k152 s c a b = true ∧ g152 s c a b = addM s c a b := by
  refine sat_hid (t := T152 s c a b) (P := fun r => r = addM s c a b) ?_
  obtain ⟨h, a0, a1⟩ := val_of ha
  obtain ⟨-, b0, b1⟩ := val_of hb
  have l := lim_rng h
  have sa := sgn_rng h a0 a1
  have sb := sgn_rng h b0 b1
  obtain ⟨p1, p2⟩ := sgn_i h a0 (by omega)
  obtain ⟨q1, q2⟩ := sgn_i h b0 (by omega)
  have e1 : addI (addI a b) c = a + b + c := by rw [addI_eq (x := a) (by omega), addI_eq (by omega)]
  have e2 : addI (addI (sgn s a) (sgn s b)) c = sgn s a + sgn s b + c := by rw [addI_eq (x := sgn s a) (by omega), addI_eq (by omega)]
  unfold T152
  simp only [sat_ok', sat_leaf, y152_1, y152_0, p1, p2, q1, q2, e1, e2, (reck h).1, (reck h).2, Bool.and_true, true_and]
  rfl
theorem sub_i {s a b : Int} (ha : valB s a = true) (hb : valB s b = true) : k155 s 0 a b = true ∧ (g155 s 0 a b).2 = subM s a b := by
  refine sat_hid (t := T155 s 0 a b) (P := fun r => r.2 = subM s a b) ?_
  obtain ⟨h, a0, a1⟩ := val_of ha
  obtain ⟨-, b0, b1⟩ := val_of hb
  have l := lim_rng h
  have sa := sgn_rng h a0 a1
  have sb := sgn_rng h b0 b1
  obtain ⟨p1, p2⟩ := sgn_i h a0 (by omega)
  obtain ⟨q1, q2⟩ := sgn_i h b0 (by omega)
  have e1 : subI (subI a b) 0 = a - b := by rw [subI_eq (x := a) (by omega), subI_eq (by omega)]; omega
  have e2 : subI (subI (sgn s a) (sgn s b)) 0 = sgn s a - sgn s b := by rw [subI_eq (x := sgn s a) (by omega), subI_eq (by omega)]; omega
  unfold T155
  simp only [sat_ok', sat_leaf, y155_1, y155_0, p1, p2, q1, q2, e1, e2, (reck h).1, (reck h).2, Bool.and_true, true_and]
  rfl
theorem add_s {s c a b : Int} (hc : c = 0 ∨ c = 1) (ha : valB s a = true) (hb : valB s b = true) : k154 s c a b = true ∧ g154 s c a b = addM s c a b := by
  refine sat_hid (t := T154 s c a b) (P := fun r => r = addM s c a b) ?_
  obtain ⟨h, a0, a1⟩ := val_of ha
  obtain ⟨-, b0, b1⟩ := val_of hb
  have l := lim_rng h
  have sa := sgn_rng h a0 a1
  have sb := sgn_rng h b0 b1
  obtain ⟨p1, p2⟩ := sgn_s h a0 (by omega)
  obtain ⟨q1, q2⟩ := sgn_s h b0 (by omega)
  have e1 : addI (addI a b) c = a + b + c := by rw [addI_eq (x := a) (by omega), addI_eq (by omega)]
  have e2 : addI (addI (sgn s a) (sgn s b)) c = sgn s a + sgn s b + c := by rw [addI_eq (x := sgn s a) (by omega), addI_eq (by omega)]
  have r0 : 0 ≤ (a + b + c) % limO s := Int.emod_nonneg _ (by omega)
  have r1 : (a + b + c) % limO s < limO s := Int.emod_lt_of_pos _ (by omega)
  obtain ⟨t1, t2⟩ := sgn_s (v := (a + b + c) % limO s) h r0 (by omega)
  unfold T154 addM fl
  simp only [sat_ok', sat_leaf, y154_2, y154_1, y154_0, (lim_s h).1, (lim_s h).2, mask h, p1, p2, q1, q2, e1, e2, t1, t2, (flag_s _ _).1, (flag_s _ _).2, (zn_s h).1, (zn_s h).2, Bool.and_true, true_and]
theorem sub_s {s a b : Int} (ha : valB s a = true) (hb : valB s b = true) : k156 s 0 a b = true ∧ (g156 s 0 a b).2 = subM s a b := by
  refine sat_hid (t := T156 s 0 a b) (P := fun r => r.2 = subM s a b) ?_
  obtain ⟨h, a0, a1⟩ := val_of ha
  obtain ⟨-, b0, b1⟩ := val_of hb
  have l := lim_rng h
  have sa := sgn_rng h a0 a1
  have sb := sgn_rng h b0 b1
  obtain ⟨p1, p2⟩ := sgn_s h a0 (by omega)
  obtain ⟨q1, q2⟩ := sgn_s h b0 (by omega)
  have e1 : subI (subI a b) 0 = a - b := by rw [subI_eq (x := a) (by omega), subI_eq (by omega)]; omega
  have e2 : subI (subI (sgn s a) (sgn s b)) 0 = sgn s a - sgn s b := by rw [subI_eq (x := sgn s a) (by omega), subI_eq (by omega)]; omega
  have r0 : 0 ≤ (a - b) % limO s := Int.emod_nonneg _ (by omega)
  have r1 : (a - b) % limO s < limO s := Int.emod_lt_of_pos _ (by omega)
  obtain ⟨t1, t2⟩ := sgn_s (v := (a - b) % limO s) h r0 (by omega)
  have e3 : ltI (a - b) 0 = neI (a - b) ((a - b) % limO s) := by
    cases hh : ltI (a - b) 0
    · rw [ltI_f] at hh
      symm; rw [neI_f, Int.emod_eq_of_lt hh (by omega)]
    · rw [ltI_iff] at hh
      symm; rw [neI_iff]; omega
  unfold T156 subM fl
  simp only [sat_ok', sat_leaf, y156_1, y156_0, (lim_s h).1, (lim_s h).2, mask h, p1, p2, q1, q2, e1, e2, e3, t1, t2, (flag_s _ _).1, (flag_s _ _).2, (zn_s h).1, (zn_s h).2, Bool.and_true, true_and]
end Go.Proofs.YtckjibiolfapiaaWords

/- Words: the plain law. -/
namespace Go.Proofs.YtckjibiolfapiaaWords
open Go Go.Zq
set_option maxHeartbeats 4000000
set_option maxRecDepth 100000

/-! Told sums, comparisons, logic. -/
def addR (s c a b : Int) : Int × Int × Bool := bif inB c 0 1 && (valB s a && valB s b) then ((addM s c a b).1, (addM s c a b).2, true) else (0, 0, false)
theorem bit_i (a : Int) : k150 a = true ∧ g150 a = inB a 0 1 := by
  refine sat_hid (t := T150 a) (P := fun r => r = inB a 0 1) ?_
  unfold T150
  simp only [sat_ok', sat_leaf, within_g, within_k, Bool.and_true, true_and]
theorem bit01 {c : Int} (h : inB c 0 1 = true) : c = 0 ∨ c = 1 := by rw [inB_iff] at h; omega
theorem addF_i (s c a b : Int) : k28 s c a b = true ∧ g28 s c a b = addR s c a b := by
  refine sat_hid (t := T28 s c a b) (P := fun r => r = addR s c a b) ?_
  unfold T28 addR
  simp only [sat_ok', sat_br, sat_leaf, y28_0, (bit_i _).1, (bit_i _).2, (val_i _ _).1, (val_i _ _).2, Bool.true_or, Bool.and_true, true_and]
  cases hc : inB c 0 1 <;> cases ha : valB s a <;> cases hb : valB s b <;> simp
  obtain ⟨p1, p2⟩ := add_i (bit01 hc) ha hb
  rw [p2]
  exact ⟨p1, rfl, rfl⟩
theorem two_s (s c a b : Int) : k153 s c a b = true ∧ g153 s c a b = (inB c 0 1 && (valB s a && valB s b)) := by
  refine sat_hid (t := T153 s c a b) (P := fun r => r = (inB c 0 1 && (valB s a && valB s b))) ?_
  unfold T153
  simp only [sat_ok', sat_br, sat_leaf, y153_0, l1In_g, l1In_k, (val_s _ _).1, (val_s _ _).2, Bool.true_or, Bool.and_true, true_and]
  cases hc : inB c 0 1 <;> cases ha : valB s a <;> cases hb : valB s b <;> simp
theorem addF_s (s c a b : Int) : k29 s c a b = true ∧ g29 s c a b = addR s c a b := by
  refine sat_hid (t := T29 s c a b) (P := fun r => r = addR s c a b) ?_
  unfold T29 addR
  simp only [sat_ok', sat_br, sat_leaf, (two_s _ _ _ _).1, (two_s _ _ _ _).2, Bool.true_or, Bool.and_true, true_and]
  cases hc : inB c 0 1 <;> cases ha : valB s a <;> cases hb : valB s b <;> simp
  obtain ⟨p1, p2⟩ := add_s (bit01 hc) ha hb
  rw [p2]
  exact ⟨p1, rfl, rfl⟩
/-- What a comparison tells. -/
def cmpR (s f a b : Int) : Int × Bool := bif inB f 0 31 && (valB s a && valB s b) then (orI (andI (subM s a b) 15) (andI f 16), true) else (0, false)
theorem fl_not16 (c o z n : Bool) : andNotI (fl c o z n) 16 = andI (fl c o z n) 15 := by
  cases c <;> cases o <;> cases z <;> cases n <;> decide
theorem flags_i (f : Int) : k183 f = true ∧ g183 f = inB f 0 31 := by
  refine sat_hid (t := T183 f) (P := fun r => r = inB f 0 31) ?_
  unfold T183
  simp only [sat_ok', sat_leaf, within_g, within_k, Bool.and_true, true_and]
theorem flags_s (f : Int) : k185 f = true ∧ g185 f = inB f 0 31 := by
  refine sat_hid (t := T185 f) (P := fun r => r = inB f 0 31) ?_
  unfold T185
  simp only [sat_ok', sat_leaf, l1In_g, l1In_k, Bool.and_true, true_and]
theorem cmp_i (s f a b : Int) : k97 s f a b = true ∧ g97 s f a b = cmpR s f a b := by
  refine sat_hid (t := T97 s f a b) (P := fun r => r = cmpR s f a b) ?_
  unfold T97 cmpR
  simp only [sat_ok', sat_br, sat_leaf, y97_0, (flags_i _).1, (flags_i _).2, (val_i _ _).1, (val_i _ _).2, Bool.true_or, Bool.and_true, true_and]
  cases hc : inB f 0 31 <;> cases ha : valB s a <;> cases hb : valB s b <;> simp
  obtain ⟨p1, p2⟩ := sub_i ha hb
  refine (sat_hid (t := T184 s f a b) (P := fun r => r = orI (andI (subM s a b) 15) (andI f 16)) ?_)
  unfold T184
  simp only [sat_ok', sat_leaf, p1, p2, Bool.and_true, true_and]
  unfold subM
  rw [fl_not16]
theorem cmp_s (s f a b : Int) : k98 s f a b = true ∧ g98 s f a b = cmpR s f a b := by
  refine sat_hid (t := T98 s f a b) (P := fun r => r = cmpR s f a b) ?_
  unfold T98 cmpR
  simp only [sat_ok', sat_br, sat_leaf, (flags_s _).1, (flags_s _).2, (two_s _ _ _ _).1, (two_s _ _ _ _).2, show inB 0 0 1 = true from rfl, Bool.true_or, Bool.and_true, Bool.true_and, true_and]
  cases hc : inB f 0 31 <;> cases ha : valB s a <;> cases hb : valB s b <;> simp
  obtain ⟨p1, p2⟩ := sub_s ha hb
  refine (sat_hid (t := T170 s f a b) (P := fun r => r = orI (andI (subM s a b) 15) (andI f 16)) ?_)
  unfold T170
  simp only [sat_ok', sat_leaf, p1, p2, Bool.and_true, true_and]
def logR (s f a : Int) : Int × Bool := bif inB f 0 31 && valB s a then (orI (andI f 16) (orI (bif eqI a 0 then 4 else 0) (bif geI a (limO s / 2) then 8 else 0)), true) else (0, false)
theorem log_i (s f a : Int) : k100 s f a = true ∧ g100 s f a = logR s f a := by
  refine sat_hid (t := T100 s f a) (P := fun r => r = logR s f a) ?_
  unfold T100 logR
  simp only [sat_ok', sat_br, sat_leaf, (flags_i _).1, (flags_i _).2, (val_i _ _).1, (val_i _ _).2, Bool.true_or, Bool.and_true, true_and]
  cases hc : inB f 0 31 <;> cases ha : valB s a <;> simp
  obtain ⟨h, -, -⟩ := val_of ha
  refine (sat_hid (t := T186 s f a) (P := fun r => r = orI (andI f 16) (orI (bif eqI a 0 then 4 else 0) (bif geI a (limO s / 2) then 8 else 0))) ?_)
  unfold T186
  simp only [sat_ok', sat_leaf, (zn_i h).1, (zn_i h).2, Bool.and_true, true_and]
theorem log_s (s f a : Int) : k101 s f a = true ∧ g101 s f a = logR s f a := by
  refine sat_hid (t := T101 s f a) (P := fun r => r = logR s f a) ?_
  unfold T101 logR
  simp only [sat_ok', sat_br, sat_leaf, (flags_s _).1, (flags_s _).2, (val_s _ _).1, (val_s _ _).2, Bool.true_or, Bool.and_true, true_and]
  cases hc : inB f 0 31 <;> cases ha : valB s a <;> simp
  obtain ⟨h, -, -⟩ := val_of ha
  refine (sat_hid (t := T187 s f a) (P := fun r => r = orI (andI f 16) (orI (bif eqI a 0 then 4 else 0) (bif geI a (limO s / 2) then 8 else 0))) ?_)
  unfold T187
  simp only [sat_ok', sat_leaf, (zn_s h).1, (zn_s h).2, Bool.and_true, true_and]
theorem ext_i (a : Int) : k91 a = true ∧ g91 a = (bif valB 1 a then (andI (sgn 1 a) 65535, true) else (0, false)) := by
  refine sat_hid (t := T91 a) (P := fun r => r = (bif valB 1 a then (andI (sgn 1 a) 65535, true) else (0, false))) ?_
  unfold T91
  simp only [sat_ok', sat_br, sat_leaf, (val_i _ _).1, (val_i _ _).2, Bool.and_true, true_and]
  cases ha : valB 1 a
  · simp
  · obtain ⟨-, h0, h1⟩ := val_of ha
    obtain ⟨p1, p2⟩ := sgn_i (s := 1) (v := a) (Or.inl rfl) h0 (by unfold limO at h1; rw [show eqI 1 1 = true from rfl, cond_true] at h1; omega)
    rw [p1, p2]; simp
theorem ext_s (a : Int) : k92 a = true ∧ g92 a = (bif valB 1 a then (andI (sgn 1 a) 65535, true) else (0, false)) := by
  refine sat_hid (t := T92 a) (P := fun r => r = (bif valB 1 a then (andI (sgn 1 a) 65535, true) else (0, false))) ?_
  unfold T92
  simp only [sat_ok', sat_br, sat_leaf, (val_s _ _).1, (val_s _ _).2, Bool.and_true, true_and]
  cases ha : valB 1 a
  · simp
  · obtain ⟨-, h0, h1⟩ := val_of ha
    obtain ⟨p1, p2⟩ := sgn_s (s := 1) (v := a) (Or.inl rfl) h0 (by unfold limO at h1; rw [show eqI 1 1 = true from rfl, cond_true] at h1; omega)
    rw [p1, p2]; simp
theorem w_i (a : Int) : k160 a = true ∧ g160 a = inB a 0 65535 := by
  refine sat_hid (t := T160 a) (P := fun r => r = inB a 0 65535) ?_
  unfold T160
  simp only [sat_ok', sat_leaf, within_g, within_k, Bool.and_true, true_and]
def swapR (a : Int) : Int × Bool := bif inB a 0 65535 then (orI (shrI a 8) (shlI (andI a 255) 8), true) else (0, false)
theorem swap_i (a : Int) : k94 a = true ∧ g94 a = swapR a := by
  refine sat_hid (t := T94 a) (P := fun r => r = swapR a) ?_
  unfold T94 swapR
  simp only [sat_ok', sat_br, sat_leaf, (w_i _).1, (w_i _).2, Bool.and_true, true_and]
  cases inB a 0 65535 <;> simp
theorem swap_s (a : Int) : k95 a = true ∧ g95 a = swapR a := by
  refine sat_hid (t := T95 a) (P := fun r => r = swapR a) ?_
  unfold T95 swapR
  have e : valB 2 a = inB a 0 65535 := rfl
  simp only [sat_ok', sat_br, sat_leaf, (val_s _ _).1, (val_s _ _).2, e, Bool.and_true, true_and]
  cases inB a 0 65535 <;> simp
theorem swap2 {a : Int} (h : inB a 0 65535 = true) : (swapR a).2 = true ∧ (swapR (swapR a).1).2 = true ∧ (swapR (swapR a).1).1 = a := by
  have hr := h
  rw [inB_iff] at h
  have e : ∀ x : Int, 0 ≤ x → x ≤ 65535 → orI (shrI x 8) (shlI (andI x 255) 8) = x % 256 * 256 + x / 256 := fun x h0 h1 => by
    rw [shr_div (n := 8) 8 rfl (by omega), and255 h0 (by omega), shl8 (by omega) (by omega)]
    unfold orI
    rw [show (2 : Int) ^ 8 = 256 from rfl, BitVec.or_comm]
    exact or_add (by omega) (by omega) (by omega) (by omega)
  unfold swapR
  rw [hr, cond_true, e a h.1 h.2]
  have h2 : inB (a % 256 * 256 + a / 256) 0 65535 = true := by rw [inB_iff]; omega
  dsimp only
  rw [h2, cond_true, e _ (by omega) (by omega)]
  refine ⟨rfl, rfl, ?_⟩
  dsimp only
  omega
theorem sgnF (s a : Int) : k33 s a = true ∧ g33 s a = (bif valB s a then (sgn s a, true) else (0, false)) := by
  refine sat_hid (t := T33 s a) (P := fun r => r = (bif valB s a then (sgn s a, true) else (0, false))) ?_
  unfold T33
  simp only [sat_ok', sat_br, sat_leaf, (val_i _ _).1, (val_i _ _).2, Bool.and_true, true_and]
  cases ha : valB s a
  · simp
  · obtain ⟨h, h0, h1⟩ := val_of ha
    have l := lim_rng h
    obtain ⟨p1, p2⟩ := sgn_i (s := s) (v := a) h h0 (by omega)
    rw [p1, p2]; simp
end Go.Proofs.YtckjibiolfapiaaWords

/- Words: the plain law. -/
namespace Go.Proofs.YtckjibiolfapiaaWords
open Go Go.Zq
set_option maxHeartbeats 4000000
set_option maxRecDepth 100000

/-! The reader of bytes. -/
def CO (B : Int) (c : Gl1Cur) : Prop := CurOk B c.fcode c.fat
theorem CO.mono {B C : Int} {c : Gl1Cur} (h : CO B c) (hB : B ≤ C) : CO C c := CurOk.mono h hB
theorem far_g (s : Int) : 0 ≤ wrapK .i64 (andK .u64 (shrK .u64 s 40) 255) ∧ wrapK .i64 (andK .u64 (shrK .u64 s 40) 255) < 256 := by
  have e : shrK .u64 s 40 = Int.fdiv s 1099511627776 := by
    unfold shrK
    rw [show ((2 : Int) ^ min (Int.toNat 40) IntKind.u64.bits) = 1099511627776 from by decide]
  unfold wrapK andK
  rw [e]
  exact far_rng s
theorem next_d {B : Int} {c : Gl1Cur} (h : CO B c) (hB : B < 4000000000000000000) : k217 c = true ∧ (CO (B + 1) (g217 c).1 ∧ 0 ≤ (g217 c).2 ∧ (g217 c).2 < 256) := by
  refine sat_hid (t := T217 c) (P := fun r => CO (B + 1) r.1 ∧ 0 ≤ r.2 ∧ r.2 < 256) ?_
  obtain ⟨h1, h2, h3⟩ := h
  have ha : addI c.fat 1 = c.fat + 1 := addI_eq (by omega)
  have hc : CurOk (B + 1) c.fcode (c.fat + 1) := ⟨h1, by omega, by omega⟩
  have hv : 0 ≤ y217_0 c ∧ y217_0 c < 256 := by
    unfold y217_0
    cases hl : ltI c.fat (lenI c.fcode)
    · simp
    · have hl' : c.fat < (c.fcode.length : Int) := by simpa using hl
      obtain ⟨z, -, e, z0, z1⟩ := row_at h1 (j := c.fat.toNat) (by omega)
      rw [cond_true, e, wrap_id (by omega)]
      exact ⟨z0, z1⟩
  have hr : (inRow [.int .u8] c.fcode c.fat || !(ltI c.fat (lenI c.fcode))) = true := by
    cases hl : ltI c.fat (lenI c.fcode)
    · simp
    · have hl' : c.fat < (c.fcode.length : Int) := by simpa using hl
      rw [inRow_byte h1 h2 hl']
      rfl
  unfold T217
  simp only [sat_ok', sat_br, sat_leaf, hr, ha, Bool.and_true, true_and]
  exact ⟨fun _ => ⟨hc, hv⟩, fun _ => ⟨hc, far_g _⟩⟩
theorem pick_d {B : Int} {c : Gl1Cur} (n : Int) (h : CO B c) (hB : B < 3000000000000000000) : k141 n c = true ∧ (CO (B + 2) (g141 n c).1 ∧ 0 ≤ (g141 n c).2 ∧ (2 ≤ n → (g141 n c).2 < n) ∧ (n ≤ 1 → (g141 n c).2 = 0)) := by
  refine sat_hid (t := T141 n c) (P := fun r => CO (B + 2) r.1 ∧ 0 ≤ r.2 ∧ (2 ≤ n → r.2 < n) ∧ (n ≤ 1 → r.2 = 0)) ?_
  obtain ⟨k1, c1, v0, v1⟩ := next_d h (by omega)
  obtain ⟨k2, c2, w0, w1⟩ := next_d c1 (by omega)
  unfold T141
  simp only [sat_ok', sat_br, sat_leaf, k1, k2, leI_iff, leI_f, gtI_iff, gtI_f, neI_iff, Bool.and_true, true_and]
  refine ⟨fun hn => ⟨h.mono (by omega), by omega, by omega, fun _ => trivial⟩, fun hn => ⟨fun hb => ⟨by omega, c2.mono (by omega), ?_⟩, fun hb => ⟨by omega, c1.mono (by omega), ?_⟩⟩⟩
  · have e : mulI (g217 c).2 256 = (g217 c).2 * 256 := mulI_eq (by omega)
    rw [e, addI_eq (by omega)]
    obtain ⟨r0, r1⟩ := rem_rng (x := (g217 c).2 * 256 + (g217 (g217 c).1).2) (n := n) (by omega) (by omega)
    exact ⟨r0, fun _ => r1, by omega⟩
  · obtain ⟨r0, r1⟩ := rem_rng (x := (g217 c).2) (n := n) (by omega) (by omega)
    exact ⟨r0, fun _ => r1, by omega⟩
theorem one_d {B : Int} {c : Gl1Cur} (n : Int) (h : CO B c) (hB : B < 3000000000000000000) : k167 n c = true ∧ CO (B + 2) (g167 n c).1 := by
  refine sat_hid (t := T167 n c) (P := fun r => CO (B + 2) r.1) ?_
  obtain ⟨k1, c1, -⟩ := pick_d n h hB
  unfold T167
  simp only [sat_ok', sat_leaf, k1, Bool.and_true, true_and]
  exact c1
theorem among_d {B : Int} {c : Gl1Cur} {r : List Row} (hr : Num r) (hl : 1 ≤ r.length) (h : CO B c) (hB : B < 3000000000000000000) : k133 r c = true ∧ (CO (B + 2) (g133 r c).1 ∧ ∃ j, j < r.length ∧ (g133 r c).2 = intAt r j 0) := by
  refine sat_hid (t := T133 r c) (P := fun q => CO (B + 2) q.1 ∧ ∃ j, j < r.length ∧ q.2 = intAt r j 0) ?_
  obtain ⟨k1, c1, v0, v1, v2⟩ := pick_d (lenI r) h hB
  rw [lenI_eq] at k1 c1 v0 v1 v2
  have hj : (g141 (r.length : Int) c).2 < (r.length : Int) := by
    by_cases h2 : r.length = 1
    · rw [v2 (by omega)]; omega
    · exact v1 (by omega)
  unfold T133
  simp only [sat_ok', sat_leaf, lenI_eq, k1, num_in hr v0 hj, Bool.and_true, true_and]
  exact ⟨c1, _, by omega, rfl⟩
theorem amongC {B : Int} {c : Gl1Cur} (r : List Int) (h1 : CO B c) (h2 : B < 2500000000000000000) (h3 : 1 ≤ r.length) : k133 (ri r) c = true ∧ CO (B + 2) (g133 (ri r) c).1 := by
  obtain ⟨a, b, -⟩ := among_d (r := ri r) ⟨r, rfl⟩ (by rw [ri_len]; exact h3) h1 (by omega)
  exact ⟨a, b⟩
theorem size_d {B : Int} {c : Gl1Cur} (h : CO B c) (hB : B < 2500000000000000000) : k148 c = true ∧ CO (B + 2) (g148 c).1 := by
  refine sat_hid (t := T148 c) (P := fun r => CO (B + 2) r.1) ?_
  obtain ⟨a1, a2⟩ := amongC [1, 2, 2, 1, 1, 2, 2, 2, 0, 3] h hB (by decide)
  unfold T148
  simp only [sat_ok', sat_leaf, Bool.and_true, true_and]
  exact ⟨a1, a2⟩
theorem value_d {B : Int} {c : Gl1Cur} (h : CO B c) (hB : B < 2000000000000000000) : k166 c = true ∧ CO (B + 8) (g166 c).1 := by
  refine sat_hid (t := T166 c) (P := fun r => CO (B + 8) r.1) ?_
  obtain ⟨a1, a2⟩ := one_d 2 h (by omega)
  obtain ⟨b1, b2⟩ := amongC [0, 1, 127, 128, 255, 256, 32767, 32768, 65535, 65536, -1] a2 (by omega) (by decide)
  obtain ⟨d1, d2, -⟩ := pick_d 256 a2 (by omega)
  obtain ⟨e1, e2, -⟩ := pick_d 2 d2 (by omega)
  obtain ⟨f1, f2, -⟩ := pick_d 256 e2 (by omega)
  unfold T166
  simp only [sat_ok', sat_br, sat_leaf, a1, d1, e1, Bool.and_true, true_and]
  refine ⟨fun _ => ⟨b1, b2.mono (by omega)⟩, fun _ => ⟨?_, f2.mono (by omega)⟩⟩
  rw [Bool.true_and]; exact f1
theorem CO_if {B : Int} {p : Bool} {c d : Gl1Cur} (h : CO B c) (k : CO B d) : CO B (Gl1Cur.mk (bif p then c.fcode else d.fcode) (bif p then c.fat else d.fat) (bif p then c.fseed else d.fseed)) := by
  cases p
  · exact k
  · exact h
theorem fit_d {B : Int} {c : Gl1Cur} (n : Int) (h : CO B c) (hB : B < 2000000000000000000) : k149 n c = true ∧ CO (B + 10) (g149 n c).1 := by
  refine sat_hid (t := T149 n c) (P := fun r => CO (B + 10) r.1) ?_
  obtain ⟨a1, a2⟩ := value_d h hB
  obtain ⟨b1, b2⟩ := one_d 20 a2 (by omega)
  unfold T149
  simp only [sat_ok', sat_br, sat_leaf, a1, b1, Bool.and_true, Bool.true_or, true_and]
  exact CO_if (b2.mono (by omega)) (a2.mono (by omega))
theorem z_len {r : List Row} : eqN (0 + r.length) r.length = true ∧ leN (0 + r.length) r.length = true := by simp
theorem roomB {n : Nat} (h : n ≤ 2000) : leN (mulN n 8) 140737488355328 = true ∧ leN (mulN n 40) 140737488355328 = true ∧ leN n 140737488355328 = true ∧ leN (mulN (0 + n) 8) 140737488355328 = true ∧ leN (mulN (0 + n) 40) 140737488355328 = true ∧ leN (0 + n) 140737488355328 = true ∧ leN (mulN (n + 1) 8) 140737488355328 = true ∧ leN (mulN (n + 1) 40) 140737488355328 = true ∧ leN (n + 1) 140737488355328 = true := by
  simp only [leN_iff, mulN_eq]
  omega
theorem CO_0 {x : List Row} (h : bytesOk x = true) : CO 0 (Gl1Cur.mk x 0 0) := ⟨h, Int.le_refl 0, Int.le_refl 0⟩
/-- Drawn numbers. -/
def Two (v : V87_0) (k : Nat) : Prop := ∃ xs ys : List Int, v.s7 = ri xs ∧ v.s8 = ri ys ∧ xs.length + k ≤ 20 ∧ ys.length + k ≤ 20
theorem many_loop (c : Gl1Cur) (s : Int) (n : Nat) {B : Int} (h : CO B c) (hB : B < 1000000000000000000) (hn : n ≤ 10) : i87_0 (V87_0.mk c s [] [] (n : Int)) = true ∧ Two (w87_0 (V87_0.mk c s [] [] (n : Int))) 0 := by
  unfold i87_0 w87_0
  refine loop_w (Post := fun w : V87_0 => Two w 0) (loop_sat (fun (m : Nat) (v : V87_0) => CO (B + 20 * (10 - m)) v.b0 ∧ v.s9 = (m : Int) ∧ m ≤ 10 ∧ Two v m) _ ?_ 9223372036854775808 n _ ⟨h.mono (by omega), rfl, hn, [], [], rfl, rfl, by simp; omega, by simp; omega⟩ (by omega))
  rintro m v ⟨h1, h2, h3, xs, ys, h4, h5, h6, h7⟩
  obtain ⟨p1, p2⟩ := fit_d v.s6 h1 (by omega)
  obtain ⟨q1, q2⟩ := fit_d v.s6 p2 (by omega)
  obtain ⟨r1, r2, r3, r4, r5, r6, r7, r8, r9⟩ := roomB (n := xs.length) (by omega)
  obtain ⟨t1, t2, t3, t4, t5, t6, t7, t8, t9⟩ := roomB (n := ys.length) (by omega)
  have e1 : eqN (0 + xs.length) xs.length = true := by simp
  have e2 : eqN (0 + ys.length) ys.length = true := by simp
  unfold N87_0
  simp only [sat_ok', sat_br, sat_leaf, y87_0_l_3, y87_0_l_2, y87_0_l_1, y87_0_l_0, h2, h4, h5, ri_len, p1, q1, e1, e2, r7, r9, t7, t9, eqN_self, gtI_iff, gtI_f, Bool.and_true, true_and]
  refine ⟨fun hm => ⟨m - 1, by omega, q2.mono (by omega), ?_, by omega, xs ++ [(g149 v.s6 v.b0).2], ys ++ [(g149 v.s6 (g149 v.s6 v.b0).1).2], ?_, ?_, by simp; omega, by simp; omega⟩, fun hm => ⟨xs, ys, h4, h5, by omega, by omega⟩⟩
  · rw [subI_eq (by omega)]; omega
  · exact (ri_append (xs := xs) (ys := [(g149 v.s6 v.b0).2])).symm
  · exact (ri_append (xs := ys) (ys := [(g149 v.s6 (g149 v.s6 v.b0).1).2])).symm
theorem dmany_d {x : List Row} (h : bytesOk x = true) : k87 x = true ∧ ∃ xs ys : List Int, (g87 x).2.1 = ri xs ∧ (g87 x).2.2 = ri ys ∧ xs.length ≤ 20 ∧ ys.length ≤ 20 := by
  refine sat_hid (t := T87 x) (P := fun r => ∃ xs ys : List Int, r.2.1 = ri xs ∧ r.2.2 = ri ys ∧ xs.length ≤ 20 ∧ ys.length ≤ 20) ?_
  obtain ⟨a1, a2⟩ := size_d (CO_0 h) (by decide)
  have a2' : CO (0 + 2) (y87_0 x).1 := a2
  obtain ⟨b1, b2, b3, b4, -⟩ := pick_d 3 a2' (by decide)
  have b4 := b4 (by decide)
  obtain ⟨c1, c2⟩ := one_d 20 b2 (by decide)
  have c2' : CO (0 + 2 + 2 + 2) (y87_1 x).1 := c2
  obtain ⟨d1, d2, d3, d4, -⟩ := pick_d 2 c2' (by decide)
  have d4 := d4 (by decide)
  obtain ⟨m, hm⟩ : ∃ m : Nat, addI 1 (g141 3 (y87_0 x).1).2 = (m : Int) ∧ m ≤ 10 := by
    rw [addI_eq (by omega)]
    exact ⟨(1 + (g141 3 (y87_0 x).1).2).toNat, by omega, by omega⟩
  obtain ⟨n, hn⟩ : ∃ n : Nat, addI 8 (g141 2 (y87_1 x).1).2 = (n : Int) ∧ n ≤ 10 := by
    rw [addI_eq (by omega)]
    exact ⟨(8 + (g141 2 (y87_1 x).1).2).toNat, by omega, by omega⟩
  obtain ⟨e1, xs, ys, e2, e3, e4, e5⟩ := many_loop (g141 2 (y87_1 x).1).1 (y87_0 x).2 n d2 (by decide) hn.2
  obtain ⟨f1, us, vs, f2, f3, f4, f5⟩ := many_loop (y87_1 x).1 (y87_0 x).2 m c2' (by decide) hm.2
  rw [← hn.1] at e1 e2 e3
  rw [← hm.1] at f1 f2 f3
  unfold T87
  simp only [sat_ok', sat_br, sat_leaf, a1, b1, c1, d1, e1, f1, Bool.and_true, true_and]
  have y3 : y87_3 x = true := by unfold y87_3; simp
  have y5 : y87_5 x = true := by unfold y87_5; simp
  exact ⟨fun _ => ⟨by rw [y3]; rfl, y3, xs, ys, e2, e3, e4, e5⟩, fun _ => ⟨by rw [y5]; rfl, y5, us, vs, f2, f3, f4, f5⟩⟩
theorem dext_d {x : List Row} (h : bytesOk x = true) : k90 x = true := by
  refine (sat_hid (t := T90 x) (P := fun _ => True) ?_).1
  obtain ⟨a1, -⟩ := fit_d 1 (CO_0 h) (by decide)
  unfold T90
  simp only [sat_ok', sat_leaf, a1, Bool.and_true, true_and]
theorem dswap_d {x : List Row} (h : bytesOk x = true) : k93 x = true := by
  refine (sat_hid (t := T93 x) (P := fun _ => True) ?_).1
  obtain ⟨a1, -⟩ := value_d (CO_0 h) (by decide)
  unfold T93
  simp only [sat_ok', sat_leaf, a1, Bool.and_true, true_and]
theorem dcmp_d {x : List Row} (h : bytesOk x = true) : k96 x = true := by
  refine (sat_hid (t := T96 x) (P := fun _ => True) ?_).1
  obtain ⟨a1, a2⟩ := size_d (CO_0 h) (by decide)
  have a2' : CO (0 + 2) (y96_0 x).1 := a2
  obtain ⟨b1, b2, -⟩ := pick_d 33 a2' (by decide)
  obtain ⟨c1, c2⟩ := fit_d (y96_0 x).2 b2 (by decide)
  have c2' : CO (0 + 2 + 2 + 10) (y96_1 x).1 := c2
  obtain ⟨d1, -⟩ := fit_d (y96_0 x).2 c2' (by decide)
  unfold T96
  simp only [sat_ok', sat_leaf, a1, b1, c1, d1, Bool.and_true, true_and]
theorem dlog_d {x : List Row} (h : bytesOk x = true) : k99 x = true := by
  refine (sat_hid (t := T99 x) (P := fun _ => True) ?_).1
  obtain ⟨a1, a2⟩ := size_d (CO_0 h) (by decide)
  have a2' : CO (0 + 2) (y99_0 x).1 := a2
  obtain ⟨b1, b2, -⟩ := pick_d 33 a2' (by decide)
  obtain ⟨c1, -⟩ := fit_d (y99_0 x).2 b2 (by decide)
  unfold T99
  simp only [sat_ok', sat_leaf, a1, b1, c1, Bool.and_true, true_and]
end Go.Proofs.YtckjibiolfapiaaWords

/- Words: the plain law. -/
namespace Go.Proofs.YtckjibiolfapiaaWords
open Go Go.Zq
set_option maxHeartbeats 4000000
set_option maxRecDepth 100000

/-! Long sums. -/
theorem andb (a b : Bool) : (bif a then b else false) = (a && b) := by cases a <;> cases b <;> rfl
def Fl (f : Int) : Prop := ∃ c o z n, f = fl c o z n
theorem fl_0 : Fl 0 := ⟨false, false, false, false, by decide⟩
theorem fl_quo {f : Int} (h : Fl f) : quoI f 16 = f % 2 ∧ andI f 1 = f % 2 ∧ inB (f % 2) 0 1 = true := by
  obtain ⟨c, o, z, n, rfl⟩ := h
  cases c <;> cases o <;> cases z <;> cases n <;> decide
theorem fl_z (b c o z n : Bool) : andI (bif b then 4 else 0) (fl c o z n) = bif b && z then 4 else 0 := by
  cases b <;> cases c <;> cases o <;> cases z <;> cases n <;> decide
theorem fl_fin (b c o z n : Bool) : andI (orI (andNotI (fl c o z n) 4) (bif b then 4 else 0)) 1 = fl c o z n % 2 ∧ neI (andI (orI (andNotI (fl c o z n) 4) (bif b then 4 else 0)) 4) 0 = b := by
  cases b <;> cases c <;> cases o <;> cases z <;> cases n <;> decide
theorem fl_c (c o z n : Bool) : fl c o z n % 2 = bif c then 1 else 0 := by
  cases c <;> cases o <;> cases z <;> cases n <;> decide
def M (s : Int) (xs ys : List Int) : Nat → List Int × Int × Bool
  | 0 => ([], 0, true)
  | i + 1 => ((M s xs ys i).1 ++ [(addM s ((M s xs ys i).2.1 % 2) (xs.getD i 0) (ys.getD i 0)).1], (addM s ((M s xs ys i).2.1 % 2) (xs.getD i 0) (ys.getD i 0)).2, (M s xs ys i).2.2 && eqI (addM s ((M s xs ys i).2.1 % 2) (xs.getD i 0) (ys.getD i 0)).1 0)
theorem M_fl (s : Int) (xs ys : List Int) (i : Nat) : Fl (M s xs ys i).2.1 := by
  cases i with
  | zero => exact fl_0
  | succ i => exact ⟨_, _, _, _, rfl⟩
theorem M_len (s : Int) (xs ys : List Int) (i : Nat) : (M s xs ys i).1.length = i := by
  induction i with
  | zero => rfl
  | succ i ih => simp [M, ih]
theorem M_at (s : Int) (xs ys : List Int) (n i : Nat) (h : i < n) : (M s xs ys n).1.getD i 0 = (addM s ((M s xs ys i).2.1 % 2) (xs.getD i 0) (ys.getD i 0)).1 := by
  induction n with
  | zero => omega
  | succ n ih =>
    have hl := M_len s xs ys n
    by_cases e : i = n
    · subst e
      rw [List.getD_eq_getElem?_getD]
      simp only [M]
      rw [List.getElem?_append_right (by omega), hl]
      simp
    · rw [List.getD_eq_getElem?_getD]
      simp only [M]
      rw [List.getElem?_append_left (by omega), ← List.getD_eq_getElem?_getD]
      exact ih (by omega)
def pairB (s : Int) (p : Int × Int) : Bool := valB s p.1 && valB s p.2
def vOk (s : Int) (xs ys : List Int) : Bool := (xs.zip ys).all (pairB s)
theorem getD_lt {zs : List Int} {i : Nat} (h : i < zs.length) : zs.getD i 0 = zs[i] := by simp [List.getD_eq_getElem?_getD, h]
theorem vOk_f {s : Int} {xs ys : List Int} {i : Nat} (h : i < xs.length) (k : i < ys.length) (hz : (valB s xs[i] && valB s ys[i]) = false) : vOk s xs ys = false := by
  unfold vOk
  rw [List.all_eq_false]
  refine ⟨(xs.zip ys)[i]'(by rw [List.length_zip]; omega), List.getElem_mem _, ?_⟩
  rw [List.getElem_zip]
  unfold pairB
  simp only [hz]; decide
theorem vOk_t {s : Int} {xs ys : List Int} (h : ∀ j (hj : j < xs.length) (hk : j < ys.length), (valB s xs[j] && valB s ys[j]) = true) : vOk s xs ys = true := by
  unfold vOk
  rw [List.all_eq_true]
  intro p hp
  obtain ⟨j, hj, rfl⟩ := List.getElem_of_mem hp
  rw [List.getElem_zip]
  rw [List.length_zip] at hj
  exact h j (by omega) (by omega)
theorem vOk_at {s : Int} {xs ys : List Int} (h : vOk s xs ys = true) {j : Nat} (hj : j < xs.length) (hk : j < ys.length) : valB s xs[j] = true ∧ valB s ys[j] = true := by
  unfold vOk at h
  have := List.all_eq_true.1 h ((xs.zip ys)[j]'(by rw [List.length_zip]; omega)) (List.getElem_mem _)
  rw [List.getElem_zip] at this
  unfold pairB at this
  rw [Bool.and_eq_true] at this
  exact this
theorem addR_ok {s f a b : Int} (h : Fl f) : addR s (f % 2) a b = bif valB s a && valB s b then ((addM s (f % 2) a b).1, (addM s (f % 2) a b).2, true) else (0, 0, false) := by
  unfold addR
  rw [(fl_quo h).2.2, Bool.true_and]
theorem M_z (s : Int) (xs ys : List Int) (i : Nat) : andI (bif (M s xs ys i).2.2 then 4 else 0) (M s xs ys (i + 1)).2.1 = bif (M s xs ys (i + 1)).2.2 then 4 else 0 := by
  simp only [M, addM]
  rw [fl_z]
theorem loop_i (s : Int) (xs ys : List Int) (hl : xs.length ≤ 20) (he : ys.length = xs.length) : i88_0 (V88_0.mk s (ri xs) (ri ys) [] 0 4 (xs.length : Int) 0) = true ∧ ((vOk s xs ys = false ∧ ltI (w88_0 (V88_0.mk s (ri xs) (ri ys) [] 0 4 (xs.length : Int) 0)).s30 (w88_0 (V88_0.mk s (ri xs) (ri ys) [] 0 4 (xs.length : Int) 0)).s29 = true) ∨ (vOk s xs ys = true ∧ w88_0 (V88_0.mk s (ri xs) (ri ys) [] 0 4 (xs.length : Int) 0) = V88_0.mk s (ri xs) (ri ys) (ri (M s xs ys xs.length).1) (M s xs ys xs.length).2.1 (bif (M s xs ys xs.length).2.2 then 4 else 0) (xs.length : Int) (xs.length : Int))) := by
  unfold i88_0 w88_0
  refine loop_w (Post := fun w : V88_0 => (vOk s xs ys = false ∧ ltI w.s30 w.s29 = true) ∨ (vOk s xs ys = true ∧ w = V88_0.mk s (ri xs) (ri ys) (ri (M s xs ys xs.length).1) (M s xs ys xs.length).2.1 (bif (M s xs ys xs.length).2.2 then 4 else 0) (xs.length : Int) (xs.length : Int))) (loop_sat (fun (m : Nat) (v : V88_0) => ∃ i : Nat, v = V88_0.mk s (ri xs) (ri ys) (ri (M s xs ys i).1) (M s xs ys i).2.1 (bif (M s xs ys i).2.2 then 4 else 0) (xs.length : Int) (i : Int) ∧ i + m = xs.length ∧ ∀ j (hj : j < xs.length) (hk : j < ys.length), j < i → (valB s xs[j] && valB s ys[j]) = true) _ ?_ 9223372036854775808 xs.length _ ⟨0, rfl, by omega, fun j _ _ h => absurd h (by omega)⟩ (by omega))
  rintro m v ⟨i, rfl, hi, hall⟩
  have ml := M_len s xs ys i
  obtain ⟨r1, r2, r3, r4, r5, r6, r7, r8, r9⟩ := roomB (n := i) (by omega)
  have e1 : eqN (0 + i) i = true := by simp
  unfold N88_0
  by_cases hlt : i < xs.length
  · have hk : i < ys.length := by omega
    have l1 : ltI (i : Int) (xs.length : Int) = true := by rw [ltI_iff]; omega
    have a1 : addI (i : Int) 1 = ((i + 1 : Nat) : Int) := by rw [addI_eq (by omega)]; omega
    have ar := addR_ok (s := s) (a := xs[i]) (b := ys[i]) (M_fl s xs ys i)
    have q := (fl_quo (M_fl s xs ys i)).1
    simp only [sat_ok', sat_br, sat_leaf, y88_0_l_2, y88_0_l_1, y88_0_l_0, l1, a1, q, ri_inr hlt, ri_inr hk, Int.toNat_natCast, ri_int hlt, ri_int hk, (addF_i _ _ _ _).1, (addF_i _ _ _ _).2, ar, ri_len, ml, e1, r7, r9, eqN_self, Bool.and_true, true_and, Bool.true_eq_false, false_implies, and_true, forall_const]
    cases hz : valB s xs[i] && valB s ys[i]
    · exact ⟨fun _ => Or.inl (vOk_f hlt hk hz), fun h => Bool.noConfusion h⟩
    · refine ⟨fun h => Bool.noConfusion h, fun _ => ⟨m - 1, by omega, i + 1, ?_, by omega, fun j hj hk' hji => ?_⟩⟩
      · have z := M_z s xs ys i
        have q2 := (fl_quo (M_fl s xs ys (i + 1))).2.1
        simp only [M, getD_lt hlt, getD_lt hk, cond_true] at z q2 ⊢
        simp only [z, q2, ri_append, andb]
        rfl
      · by_cases e : j = i
        · subst e; exact hz
        · exact hall j hj hk' (by omega)
  · have l1 : ltI (i : Int) (xs.length : Int) = false := by rw [ltI_f]; omega
    obtain rfl : i = xs.length := by omega
    simp only [sat_ok', sat_br, sat_leaf, l1, true_and, Bool.false_eq_true, false_implies]
    exact fun _ => Or.inr ⟨vOk_t fun j hj hk => hall j hj hk hj, trivial⟩
theorem loop_s (s : Int) (xs ys : List Int) (hl : xs.length ≤ 20) (he : ys.length = xs.length) : i89_0 (V89_0.mk s (ri xs) (ri ys) [] 0 0 true (xs.length : Int) 0) = true ∧ ((vOk s xs ys = false ∧ ltI (w89_0 (V89_0.mk s (ri xs) (ri ys) [] 0 0 true (xs.length : Int) 0)).s30 (w89_0 (V89_0.mk s (ri xs) (ri ys) [] 0 0 true (xs.length : Int) 0)).s29 = true) ∨ (vOk s xs ys = true ∧ w89_0 (V89_0.mk s (ri xs) (ri ys) [] 0 0 true (xs.length : Int) 0) = V89_0.mk s (ri xs) (ri ys) (ri (M s xs ys xs.length).1) ((M s xs ys xs.length).2.1 % 2) (M s xs ys xs.length).2.1 (M s xs ys xs.length).2.2 (xs.length : Int) (xs.length : Int))) := by
  unfold i89_0 w89_0
  refine loop_w (Post := fun w : V89_0 => (vOk s xs ys = false ∧ ltI w.s30 w.s29 = true) ∨ (vOk s xs ys = true ∧ w = V89_0.mk s (ri xs) (ri ys) (ri (M s xs ys xs.length).1) ((M s xs ys xs.length).2.1 % 2) (M s xs ys xs.length).2.1 (M s xs ys xs.length).2.2 (xs.length : Int) (xs.length : Int))) (loop_sat (fun (m : Nat) (v : V89_0) => ∃ i : Nat, v = V89_0.mk s (ri xs) (ri ys) (ri (M s xs ys i).1) ((M s xs ys i).2.1 % 2) (M s xs ys i).2.1 (M s xs ys i).2.2 (xs.length : Int) (i : Int) ∧ i + m = xs.length ∧ ∀ j (hj : j < xs.length) (hk : j < ys.length), j < i → (valB s xs[j] && valB s ys[j]) = true) _ ?_ 9223372036854775808 xs.length _ ⟨0, rfl, by omega, fun j _ _ h => absurd h (by omega)⟩ (by omega))
  rintro m v ⟨i, rfl, hi, hall⟩
  have ml := M_len s xs ys i
  obtain ⟨r1, r2, r3, r4, r5, r6, r7, r8, r9⟩ := roomB (n := i) (by omega)
  have e1 : eqN (0 + i) i = true := by simp
  unfold N89_0
  by_cases hlt : i < xs.length
  · have hk : i < ys.length := by omega
    have l1 : ltI (i : Int) (xs.length : Int) = true := by rw [ltI_iff]; omega
    have a1 : addI (i : Int) 1 = ((i + 1 : Nat) : Int) := by rw [addI_eq (by omega)]; omega
    have ar := addR_ok (s := s) (a := xs[i]) (b := ys[i]) (M_fl s xs ys i)
    have q := (fl_quo (M_fl s xs ys i)).1
    simp only [sat_ok', sat_br, sat_leaf, y89_0_l_2, y89_0_l_1, y89_0_l_0, l1, a1, q, ri_inr hlt, ri_inr hk, Int.toNat_natCast, ri_int hlt, ri_int hk, (addF_s _ _ _ _).1, (addF_s _ _ _ _).2, ar, ri_len, ml, e1, r7, r9, eqN_self, Bool.and_true, true_and, Bool.true_eq_false, false_implies, and_true, forall_const]
    cases hz : valB s xs[i] && valB s ys[i]
    · exact ⟨fun _ => Or.inl (vOk_f hlt hk hz), fun h => Bool.noConfusion h⟩
    · refine ⟨fun h => Bool.noConfusion h, fun _ => ⟨m - 1, by omega, i + 1, ?_, by omega, fun j hj hk' hji => ?_⟩⟩
      · have z := M_z s xs ys i
        have q2 := (fl_quo (M_fl s xs ys (i + 1))).2.1
        simp only [M, getD_lt hlt, getD_lt hk, cond_true] at z q2 ⊢
        simp only [z, q2, ri_append, andb]
        rfl
      · by_cases e : j = i
        · subst e; exact hz
        · exact hall j hj hk' (by omega)
  · have l1 : ltI (i : Int) (xs.length : Int) = false := by rw [ltI_f]; omega
    obtain rfl : i = xs.length := by omega
    simp only [sat_ok', sat_br, sat_leaf, l1, true_and, Bool.false_eq_true, false_implies]
    exact fun _ => Or.inr ⟨vOk_t fun j hj hk => hall j hj hk hj, trivial⟩
def manyR (s : Int) (xs ys : List Int) : List Row × Int × Bool := bif inB (xs.length : Int) 1 8 && (eqI (ys.length : Int) (xs.length : Int) && vOk s xs ys) then (ri (M s xs ys xs.length).1, orI (andNotI (M s xs ys xs.length).2.1 4) (bif (M s xs ys xs.length).2.2 then 4 else 0), true) else (ri [], 0, false)
theorem many_i (s : Int) (xs ys : List Int) (hl : xs.length ≤ 20) : k88 s (ri xs) (ri ys) = true ∧ g88 s (ri xs) (ri ys) = manyR s xs ys := by
  refine sat_hid (t := T88 s (ri xs) (ri ys)) (P := fun r => r = manyR s xs ys) ?_
  have nn : neI (ys.length : Int) (xs.length : Int) = !eqI (ys.length : Int) (xs.length : Int) := rfl
  have eL : ∀ x, ltI x x = false := fun x => by simp
  unfold T88 manyR
  cases h1 : inB (xs.length : Int) 1 8
  · simp only [sat_ok', sat_br, sat_leaf, within_g, within_k, lenI_eq, ri_len, h1, Bool.not_false, Bool.false_and, cond_true, cond_false, Bool.and_true, true_and, Bool.true_eq_false, false_implies, forall_const, and_true]
    rfl
  · cases h2 : eqI (ys.length : Int) (xs.length : Int)
    · simp only [sat_ok', sat_br, sat_leaf, within_g, within_k, lenI_eq, ri_len, nn, h1, h2, Bool.not_false, Bool.not_true, Bool.false_and, Bool.and_false, cond_true, cond_false, Bool.and_true, true_and, Bool.true_eq_false, false_implies, forall_const, and_true]
      rfl
    · have he : ys.length = xs.length := by rw [eqI_iff] at h2; omega
      obtain ⟨a1, a2⟩ := loop_i s xs ys hl he
      rcases a2 with ⟨b1, b2⟩ | ⟨b1, b2⟩
      · simp only [sat_ok', sat_br, sat_leaf, y88_1, y88_0, within_g, within_k, lenI_eq, ri_len, nn, h1, h2, a1, b1, b2, Bool.not_false, Bool.not_true, Bool.false_and, Bool.and_false, cond_true, cond_false, Bool.and_true, true_and, Bool.true_eq_false, Bool.false_eq_true, false_implies, forall_const, and_true]
        rfl
      · simp only [sat_ok', sat_br, sat_leaf, y88_1, y88_0, within_g, within_k, lenI_eq, ri_len, nn, h1, h2, a1, b1, b2, eL, (flag_s _ _).1, (flag_s _ _).2, eqN_self, Bool.not_false, Bool.not_true, Bool.true_and, cond_true, cond_false, Bool.and_true, true_and, Bool.true_eq_false, Bool.false_eq_true, false_implies, forall_const, and_true]
theorem many_s (s : Int) (xs ys : List Int) (hl : xs.length ≤ 20) : k89 s (ri xs) (ri ys) = true ∧ g89 s (ri xs) (ri ys) = manyR s xs ys := by
  refine sat_hid (t := T89 s (ri xs) (ri ys)) (P := fun r => r = manyR s xs ys) ?_
  have nn : neI (ys.length : Int) (xs.length : Int) = !eqI (ys.length : Int) (xs.length : Int) := rfl
  have eL : ∀ x, ltI x x = false := fun x => by simp
  unfold T89 manyR
  cases h1 : inB (xs.length : Int) 1 8
  · simp only [sat_ok', sat_br, sat_leaf, l1In_g, l1In_k, lenI_eq, ri_len, h1, Bool.not_false, Bool.false_and, cond_true, cond_false, Bool.and_true, true_and, Bool.true_eq_false, false_implies, forall_const, and_true]
    rfl
  · cases h2 : eqI (ys.length : Int) (xs.length : Int)
    · simp only [sat_ok', sat_br, sat_leaf, l1In_g, l1In_k, lenI_eq, ri_len, nn, h1, h2, Bool.not_false, Bool.not_true, Bool.false_and, Bool.and_false, cond_true, cond_false, Bool.and_true, true_and, Bool.true_eq_false, false_implies, forall_const, and_true]
      rfl
    · have he : ys.length = xs.length := by rw [eqI_iff] at h2; omega
      obtain ⟨a1, a2⟩ := loop_s s xs ys hl he
      rcases a2 with ⟨b1, b2⟩ | ⟨b1, b2⟩
      · simp only [sat_ok', sat_br, sat_leaf, y89_1, y89_0, l1In_g, l1In_k, lenI_eq, ri_len, nn, h1, h2, a1, b1, b2, Bool.not_false, Bool.not_true, Bool.false_and, Bool.and_false, cond_true, cond_false, Bool.and_true, true_and, Bool.true_eq_false, Bool.false_eq_true, false_implies, forall_const, and_true]
        rfl
      · simp only [sat_ok', sat_br, sat_leaf, y89_1, y89_0, l1In_g, l1In_k, lenI_eq, ri_len, nn, h1, h2, a1, b1, b2, eL, (flag_s _ _).1, (flag_s _ _).2, eqN_self, Bool.not_false, Bool.not_true, Bool.true_and, cond_true, cond_false, Bool.and_true, true_and, Bool.true_eq_false, Bool.false_eq_true, false_implies, forall_const, and_true]
end Go.Proofs.YtckjibiolfapiaaWords

/- Words: the plain law. -/
namespace Go.Proofs.YtckjibiolfapiaaWords
open Go Go.Zq
set_option maxHeartbeats 4000000
set_option maxRecDepth 100000

theorem same_loop (xs ys : List Int) (hl : xs.length < 1000000) (he : xs.length = ys.length) : i47_0 (V47_0.mk (ri xs) (ri ys) (lenI (ri xs)) 0) = true ∧ (ltI (w47_0 (V47_0.mk (ri xs) (ri ys) (lenI (ri xs)) 0)).s13 (w47_0 (V47_0.mk (ri xs) (ri ys) (lenI (ri xs)) 0)).s12 = !decide (xs = ys)) := by
  unfold i47_0 w47_0
  refine loop_w (Post := fun w => ltI w.s13 w.s12 = !decide (xs = ys)) (loop_sat (fun n v => ∃ i : Nat, v = V47_0.mk (ri xs) (ri ys) (lenI (ri xs)) i ∧ i ≤ xs.length ∧ n = xs.length - i ∧ ∀ j (hj : j < xs.length), j < i → xs[j] = ys[j]) _ ?_ 9223372036854775808 xs.length _ ⟨0, rfl, by omega, by omega, fun j _ h => absurd h (by omega)⟩ (by omega))
  rintro n v ⟨i, rfl, hi, rfl, hall⟩
  unfold N47_0
  simp only [sat_ok', sat_br, sat_leaf, lenI_eq, ri_len, ltI_iff, ltI_f, true_and, Int.toNat_natCast]
  constructor
  · intro h
    have hi' : i < xs.length := by omega
    have hy' : i < ys.length := by omega
    rw [ri_inr hi', ri_int hi', ri_inr hy', ri_int hy']
    refine ⟨rfl, fun hz => ?_, fun hz => ?_⟩
    · have : xs ≠ ys := fun e => by subst e; simp at hz
      rw [decide_eq_false this]
      simpa [ltI] using h
    · refine ⟨_, ?_, i + 1, ?_, by omega, rfl, ?_⟩
      · omega
      · rw [addI_eq (by omega)]; rfl
      · intro j hj hji
        by_cases e : j = i
        · subst e; simpa using hz
        · exact hall j hj (by omega)
  · intro h
    rw [decide_eq_true (List.ext_getElem he fun j h1 h2 => hall j h1 (by omega))]
    simpa [ltI] using h
theorem sameInts_t (xs ys : List Int) (hl : xs.length < 1000000) : k47 (ri xs) (ri ys) = true ∧ g47 (ri xs) (ri ys) = decide (xs = ys) := by
  unfold k47 g47 T47 y47_0
  rw [hid_eq, hid_eq]
  by_cases he : xs.length = ys.length
  · obtain ⟨h1, h2⟩ := same_loop xs ys hl he
    have e : neI (lenI (ri xs)) (lenI (ri ys)) = false := by simp [he, ri_len]
    simp only [okv_ok, okv_br, okv_leaf, val_ok, val_br, val_leaf, h1, h2, e, Bool.true_and, cond_false]
    cases decide (xs = ys) <;> exact ⟨rfl, rfl⟩
  · have e : neI (lenI (ri xs)) (lenI (ri ys)) = true := by simp [ri_len]; omega
    have : xs ≠ ys := fun e => he (by rw [e])
    simp only [okv_ok, okv_br, okv_leaf, val_ok, val_br, val_leaf, e, decide_eq_false this, Bool.true_and, cond_true, and_self]
/-- A loop that walks a told chain of states. -/
theorem loop_st {V : Type} {N : V → Pt (Option V)} (st : Nat → V) (n : Nat) (hn : n < 1000000) (h : ∀ i, i < n → (N (st i)).Sat (fun r => r = some (st (i + 1)))) (he : (N (st n)).Sat (fun r => r = none)) : (hid (loopV N 9223372036854775808 (st 0))).isSome = true ∧ (hid (loopV N 9223372036854775808 (st 0))).getD (st 0) = st n := by
  refine loop_w (Post := fun w => w = st n) (loop_sat (fun (m : Nat) (v : V) => ∃ i, i + m = n ∧ v = st i) _ ?_ 9223372036854775808 n _ ⟨0, by omega, rfl⟩ (by omega))
  rintro m v ⟨i, hi, rfl⟩
  have mono : ∀ {α : Type} {P Q : α → Prop}, (∀ a, P a → Q a) → ∀ {t : Pt α}, t.Sat P → t.Sat Q := fun {α P Q} hPQ t => by
    induction t with
    | leaf a => exact hPQ a
    | ok b x ih => exact fun h => ⟨h.1, ih h.2⟩
    | br b x y ix iy => exact fun h => ⟨fun e => ix (h.1 e), fun e => iy (h.2 e)⟩
  by_cases e : i = n
  · subst e
    exact mono (fun r hr => by subst hr; rfl) he
  · exact mono (fun r hr => by subst hr; exact ⟨m - 1, by omega, i + 1, by omega, rfl⟩) (h i (by omega))
/-! The law. -/
theorem top_t {s : Int} : k32 s = true ∧ g32 s = limO s := by
  refine sat_hid (t := T32 s) (P := fun r => r = limO s) ?_
  unfold T32 limO
  simp only [sat_ok', sat_br, sat_leaf, true_and]
  exact ⟨fun h => by rw [h]; rfl, fun h => by rw [h]; rfl⟩
theorem law_loop (x1 : List Row) (s f : Int) (xs ys : List Int) (hl : xs.length ≤ 20) (h1 : 1 ≤ xs.length) (he : ys.length = xs.length) (ho : vOk s xs ys = true) : i11_0 (V11_0.mk x1 s (ri xs) (ri ys) (ri (M s xs ys xs.length).1) f 0 true (xs.length : Int) 0) = true ∧ w11_0 (V11_0.mk x1 s (ri xs) (ri ys) (ri (M s xs ys xs.length).1) f 0 true (xs.length : Int) 0) = V11_0.mk x1 s (ri xs) (ri ys) (ri (M s xs ys xs.length).1) f ((M s xs ys xs.length).2.1 % 2) (M s xs ys xs.length).2.2 (xs.length : Int) (xs.length : Int) := by
  have hs : s = 1 ∨ s = 2 := (val_of (vOk_at ho (j := 0) (by omega) (by omega)).1).1
  have lm := lim_rng hs
  have ml := M_len s xs ys xs.length
  refine loop_st (N := N11_0) (fun i => V11_0.mk x1 s (ri xs) (ri ys) (ri (M s xs ys xs.length).1) f ((M s xs ys i).2.1 % 2) (M s xs ys i).2.2 (xs.length : Int) (i : Int)) xs.length (by omega) (fun i hi => ?_) ?_
  · have hk : i < ys.length := by omega
    have hm : i < (M s xs ys xs.length).1.length := by omega
    have p4 : addI ((i : Nat) : Int) 1 = ((i + 1 : Nat) : Int) := by rw [addI_eq (by omega)]; omega
    have p3 : ltI ((i : Nat) : Int) (xs.length : Int) = true := by rw [ltI_iff]; omega
    have c01 := bit01 (fl_quo (M_fl s xs ys i)).2.2
    obtain ⟨v1, v2⟩ := vOk_at ho hi hk
    obtain ⟨-, x0, x2⟩ := val_of v1
    obtain ⟨-, y0, y2⟩ := val_of v2
    have at1 : (M s xs ys xs.length).1[i] = (addM s ((M s xs ys i).2.1 % 2) xs[i] ys[i]).1 := by
      have := M_at s xs ys xs.length i hi
      rw [getD_lt hm, getD_lt hi, getD_lt hk] at this
      exact this
    have e1 : addI (addI xs[i] ys[i]) ((M s xs ys i).2.1 % 2) = xs[i] + ys[i] + (M s xs ys i).2.1 % 2 := by rw [addI_eq (x := xs[i]) (by omega), addI_eq (by omega)]
    have e2 : remI (xs[i] + ys[i] + (M s xs ys i).2.1 % 2) (limO s) = (xs[i] + ys[i] + (M s xs ys i).2.1 % 2) % limO s := Int.tmod_eq_emod_of_nonneg (by omega)
    have e3 : neI (limO s) 0 = true := by rw [neI_iff]; omega
    have e4 : neI (M s xs ys xs.length).1[i] ((xs[i] + ys[i] + (M s xs ys i).2.1 % 2) % limO s) = false := by rw [neI_f, at1]; rfl
    have e5 : (M s xs ys (i + 1)).2.1 % 2 = bif geI (xs[i] + ys[i] + (M s xs ys i).2.1 % 2) (limO s) then 1 else 0 := by
      simp only [M, getD_lt hi, getD_lt hk, addM]
      rw [fl_c]
      have : neI (xs[i] + ys[i] + (M s xs ys i).2.1 % 2) ((xs[i] + ys[i] + (M s xs ys i).2.1 % 2) % limO s) = geI (xs[i] + ys[i] + (M s xs ys i).2.1 % 2) (limO s) := by
        cases hh : geI (xs[i] + ys[i] + (M s xs ys i).2.1 % 2) (limO s)
        · rw [geI_f] at hh
          rw [neI_f, Int.emod_eq_of_lt (by omega) hh]
        · rw [geI_iff] at hh
          have := Int.emod_lt_of_pos (xs[i] + ys[i] + (M s xs ys i).2.1 % 2) (b := limO s) (by omega)
          rw [neI_iff]; omega
      rw [this]
    have e6 : (M s xs ys (i + 1)).2.2 = ((M s xs ys i).2.2 && eqI (M s xs ys xs.length).1[i] 0) := by
      rw [at1]
      simp only [M, getD_lt hi, getD_lt hk]
    unfold N11_0
    simp only [sat_ok', sat_br, sat_leaf, y11_0_l_0, p3, p4, ri_inr hi, ri_inr hk, ri_inr hm, Int.toNat_natCast, ri_int hi, ri_int hk, ri_int hm, (top_t).1, (top_t).2, e1, e2, e3, e4, e5, e6, andb, Bool.and_true, Bool.true_or, true_and, Bool.true_eq_false, Bool.false_eq_true, false_implies, implies_true, forall_const, and_true]
  · have p3 : ltI (xs.length : Int) (xs.length : Int) = false := by simp
    unfold N11_0
    simp only [sat_ok', sat_br, sat_leaf, p3, true_and, Bool.false_eq_true, false_implies, implies_true]
end Go.Proofs.YtckjibiolfapiaaWords

/- Words: the plain law. -/
namespace Go.Proofs.YtckjibiolfapiaaWords
open Go Go.Zq
set_option maxHeartbeats 4000000
set_option maxRecDepth 100000

theorem f16 {f : Int} (h : inB f 0 31 = true) : ∃ b : Bool, andI f 16 = bif b then 16 else 0 := by
  have a : ∀ n : Fin 32, andI (n.val : Int) 16 = 0 ∨ andI (n.val : Int) 16 = 16 := by decide +kernel
  rw [inB_iff] at h
  have := a ⟨f.toNat, by omega⟩
  rw [show ((⟨f.toNat, by omega⟩ : Fin 32).val : Int) = f from by show ((f.toNat : Nat) : Int) = f; omega] at this
  rcases this with h | h
  · exact ⟨false, h⟩
  · exact ⟨true, h⟩
theorem cmp_bits (p c o z n : Bool) : eqI (andI (orI (andI (fl c o z n) 15) (bif p then 16 else 0)) 16) (bif p then 16 else 0) = true ∧ neI (andI (orI (andI (fl c o z n) 15) (bif p then 16 else 0)) 4) 0 = z := by
  cases p <;> cases c <;> cases o <;> cases z <;> cases n <;> decide
theorem log_bits (p z n : Bool) : eqI (andI (orI (bif p then 16 else 0) (orI (bif z then 4 else 0) (bif n then 8 else 0))) 3) 0 = true ∧ eqI (andI (orI (bif p then 16 else 0) (orI (bif z then 4 else 0) (bif n then 8 else 0))) 16) (bif p then 16 else 0) = true := by
  cases p <;> cases z <;> cases n <;> decide
theorem cmp_fin (s f a b : Int) : (bif (!(cmpR s f a b).2) then true else (bif (eqI (andI (cmpR s f a b).1 16) (andI f 16)) then (eqB (neI (andI (cmpR s f a b).1 4) 0) (eqI a b)) else false)) = true := by
  unfold cmpR
  cases hc : inB f 0 31 && (valB s a && valB s b)
  · rfl
  · simp only [Bool.and_eq_true] at hc
    obtain ⟨h1, h2, h3⟩ := hc
    obtain ⟨p, hp⟩ := f16 h1
    obtain ⟨hs, a0, a1⟩ := val_of h2
    obtain ⟨-, b0, b1⟩ := val_of h3
    have lm := lim_rng hs
    have z : eqI ((a - b) % limO s) 0 = eqI a b := by
      rcases lm with lz | lz <;> rw [lz] at a1 b1 ⊢ <;> cases hh : eqI a b
      · rw [eqI_f] at hh ⊢; omega
      · rw [eqI_iff] at hh ⊢; omega
      · rw [eqI_f] at hh ⊢; omega
      · rw [eqI_iff] at hh ⊢; omega
    rw [cond_true, hp]
    unfold subM
    dsimp only
    obtain ⟨q1, q2⟩ := cmp_bits p (neI (a - b) ((a - b) % limO s)) (neI (sgn s a - sgn s b) (sgn s ((a - b) % limO s))) (eqI ((a - b) % limO s) 0) (geI ((a - b) % limO s) (limO s / 2))
    rw [q1, q2, z]
    simp
theorem log_fin (s f a : Int) : (bif (!(logR s f a).2) then true else (bif (eqI (andI (logR s f a).1 3) 0) then (eqI (andI (logR s f a).1 16) (andI f 16)) else false)) = true := by
  unfold logR
  cases hc : inB f 0 31 && valB s a
  · rfl
  · simp only [Bool.and_eq_true] at hc
    obtain ⟨p, hp⟩ := f16 hc.1
    rw [cond_true, hp]
    dsimp only
    obtain ⟨q1, q2⟩ := log_bits p (eqI a 0) (geI a (limO s / 2))
    rw [q1, q2]
    rfl
theorem ext_fin (e : Int) (h : (g91 e).2 = true) : (bif (bif (!(g33 1 e).2) then true else (!(g33 2 (g91 e).1).2)) then true else (neI (g33 1 e).1 (g33 2 (g91 e).1).1)) = false := by
  rw [(ext_i e).2] at h ⊢
  cases hv : valB 1 e
  · rw [hv] at h; exact Bool.noConfusion h
  · obtain ⟨-, e0, e1⟩ := val_of hv
    have l1 : limO 1 = 256 := rfl
    have l2 : limO 2 = 65536 := rfl
    rw [l1] at e1
    have an : andI (sgn 1 e) 65535 = sgn 1 e % 65536 := andMask 16 _ (by omega) (by decide)
    have sr := sgn_rng (s := 1) (Or.inl rfl) e0 (by rw [l1]; exact e1)
    have v2 : valB 2 (sgn 1 e % 65536) = true := by
      show inB (sgn 1 e % 65536) 0 65535 = true
      rw [inB_iff]; omega
    have key : sgn 2 (sgn 1 e % 65536) = sgn 1 e := by
      unfold sgn
      rw [l1, l2]
      cases g1 : geI e (256 / 2)
      · rw [geI_f] at g1
        simp only [cond_false]
        rw [Int.emod_eq_of_lt e0 (by omega)]
        have : geI e (65536 / 2) = false := by rw [geI_f]; omega
        rw [this]; rfl
      · rw [geI_iff] at g1
        simp only [cond_true]
        have z : (e - 256) % 65536 = e - 256 + 65536 := by omega
        rw [z]
        have : geI (e - 256 + 65536) (65536 / 2) = true := by rw [geI_iff]; omega
        rw [this, cond_true]; omega
    rw [cond_true, an]
    dsimp only
    rw [(sgnF 1 e).2, (sgnF 2 _).2, hv, v2, cond_true, cond_true]
    dsimp only
    rw [key]
    simp
theorem swap_fin (w : Int) (h : (g94 w).2 = true) : (bif (!(g94 (g94 w).1).2) then true else (neI (g94 (g94 w).1).1 w)) = false := by
  rw [(swap_i w).2] at h ⊢
  rw [(swap_i _).2]
  cases hv : inB w 0 65535
  · unfold swapR at h; rw [hv] at h; exact Bool.noConfusion h
  · obtain ⟨-, q2, q3⟩ := swap2 hv
    rw [q2, q3]
    simp
theorem okL (x0 x1 : List Row) (h0 : bytesOk x0 = true) (h1 : bytesOk x1 = true) : k11 x0 x1 = true ∧ g11 x0 x1 = true := by
  refine sat_hid (t := T11 x0 x1) (P := fun q => q = true) ?_
  obtain ⟨d1, xs, ys, d2, d3, d4, d5⟩ := dmany_d h0
  obtain ⟨s, hs⟩ : ∃ s, (g87 x0).1 = s := ⟨_, rfl⟩
  obtain ⟨mi1, mi2⟩ := many_i s xs ys d4
  obtain ⟨ms1, ms2⟩ := many_s s xs ys d4
  have t1 := dext_d h1
  have t2 := dswap_d h1
  have t3 := dcmp_d h1
  have t4 := dlog_d h1
  obtain ⟨e, he⟩ : ∃ e, g90 x1 = e := ⟨_, rfl⟩
  obtain ⟨w, hw⟩ : ∃ w, g93 x1 = w := ⟨_, rfl⟩
  obtain ⟨cs, cf, ca, cb, hc⟩ : ∃ s f a b, g96 x1 = (s, f, a, b) := ⟨_, _, _, _, rfl⟩
  obtain ⟨ls, lf, la, hl⟩ : ∃ s f a, g99 x1 = (s, f, a) := ⟨_, _, _, rfl⟩
  have x12 : ∀ e, g92 e = g91 e := fun e => (ext_s e).2.trans (ext_i e).2.symm
  have w12 : ∀ e, g95 e = g94 e := fun e => (swap_s e).2.trans (swap_i e).2.symm
  have xk : ∀ e, k91 e = true ∧ k92 e = true := fun e => ⟨(ext_i e).1, (ext_s e).1⟩
  have wk : ∀ e, k94 e = true ∧ k95 e = true := fun e => ⟨(swap_i e).1, (swap_s e).1⟩
  have ck : ∀ s f a b, k97 s f a b = true ∧ k98 s f a b = true := fun s f a b => ⟨(cmp_i s f a b).1, (cmp_s s f a b).1⟩
  have lk : ∀ s f a, k100 s f a = true ∧ k101 s f a = true := fun s f a => ⟨(log_i s f a).1, (log_s s f a).1⟩
  have eI : ∀ x, neI x x = false := fun x => by simp
  have eB : ∀ x, eqB x x = true := fun x => by simp
  have eL : ∀ x, ltI x x = false := fun x => by simp
  have ef := ext_fin e
  have wf := swap_fin w
  have cfn := cmp_fin cs cf ca cb
  have lfn := log_fin ls lf la
  rw [← (cmp_i cs cf ca cb).2] at cfn
  rw [← (log_i ls lf la).2] at lfn
  have c12 : ∀ s f a b, g98 s f a b = g97 s f a b := fun s f a b => (cmp_s s f a b).2.trans (cmp_i s f a b).2.symm
  have l12 : ∀ s f a, g101 s f a = g100 s f a := fun s f a => (log_s s f a).2.trans (log_i s f a).2.symm
  unfold T11
  cases hm : inB (xs.length : Int) 1 8 && (eqI (ys.length : Int) (xs.length : Int) && vOk s xs ys)
  · have hR : manyR s xs ys = (ri [], 0, false) := by unfold manyR; rw [hm]; rfl
    rw [hR] at mi2 ms2
    obtain ⟨z1, z2⟩ := sameInts_t [] [] (by decide)
    have z2 : g47 (ri []) (ri []) = true := by rw [z2]; simp
    simp only [sat_ok', sat_br, sat_leaf, y11_30, y11_29, y11_28, y11_27, y11_26, y11_25, y11_24, y11_23, y11_22, y11_21, y11_20, y11_19, y11_18, y11_17, y11_16, y11_15, y11_14, y11_13, y11_12, y11_11, y11_10, y11_9, y11_8, y11_7, y11_6, y11_5, y11_4, y11_3, y11_2, y11_1, y11_0, hs, d1, d2, d3, mi1, mi2, ms1, ms2, z1, z2, t1, t2, t3, t4, he, hw, hc, hl, x12, w12, c12, l12, xk, wk, ck, lk, (sgnF _ _).1, eI, eB, cfn, lfn, cond_true, cond_false, Bool.not_true, Bool.not_false, Bool.and_true, Bool.true_and, Bool.true_or, Bool.or_true, Bool.or_false, true_and, and_true, implies_true, Bool.false_eq_true, Bool.true_eq_false, false_implies]
    exact fun _ _ _ _ => ⟨fun hE => ⟨fun hz => by rw [ef hE] at hz; exact Bool.noConfusion hz, fun _ hW hz => by rw [wf hW] at hz; exact Bool.noConfusion hz⟩, fun _ hW hz => by rw [wf hW] at hz; exact Bool.noConfusion hz⟩
  · have hR : manyR s xs ys = (ri (M s xs ys xs.length).1, orI (andNotI (M s xs ys xs.length).2.1 4) (bif (M s xs ys xs.length).2.2 then 4 else 0), true) := by unfold manyR; rw [hm]; rfl
    rw [hR] at mi2 ms2
    simp only [Bool.and_eq_true] at hm
    obtain ⟨g1, g2, g3⟩ := hm
    rw [inB_iff] at g1
    rw [eqI_iff] at g2
    have ml := M_len s xs ys xs.length
    obtain ⟨z1, z2⟩ := sameInts_t (M s xs ys xs.length).1 (M s xs ys xs.length).1 (by omega)
    have z2 : g47 (ri (M s xs ys xs.length).1) (ri (M s xs ys xs.length).1) = true := by rw [z2]; simp
    obtain ⟨w1, w2⟩ := law_loop x1 s (orI (andNotI (M s xs ys xs.length).2.1 4) (bif (M s xs ys xs.length).2.2 then 4 else 0)) xs ys d4 (by omega) (by omega) g3
    obtain ⟨fc, fo, fz, fn, hf⟩ := M_fl s xs ys xs.length
    have ff := fl_fin (M s xs ys xs.length).2.2 fc fo fz fn
    rw [← hf] at ff
    obtain ⟨f1, f2⟩ := ff
    simp only [sat_ok', sat_br, sat_leaf, y11_30, y11_29, y11_28, y11_27, y11_26, y11_25, y11_24, y11_23, y11_22, y11_21, y11_20, y11_19, y11_18, y11_17, y11_16, y11_15, y11_14, y11_13, y11_12, y11_11, y11_10, y11_9, y11_8, y11_7, y11_6, y11_5, y11_4, y11_3, y11_2, y11_1, y11_0, hs, d1, d2, d3, mi1, mi2, ms1, ms2, z1, z2, lenI_eq, ri_len, ml, w1, w2, f1, f2, t1, t2, t3, t4, he, hw, hc, hl, x12, w12, c12, l12, xk, wk, ck, lk, (sgnF _ _).1, eI, eB, eL, cfn, lfn, cond_true, cond_false, Bool.not_true, Bool.not_false, Bool.and_true, Bool.true_and, Bool.true_or, Bool.or_true, Bool.or_false, true_and, and_true, implies_true, Bool.false_eq_true, Bool.true_eq_false, false_implies]
    exact fun _ _ _ _ _ _ => ⟨fun hE => ⟨fun hz => by rw [ef hE] at hz; exact Bool.noConfusion hz, fun _ hW hz => by rw [wf hW] at hz; exact Bool.noConfusion hz⟩, fun _ hW hz => by rw [wf hW] at hz; exact Bool.noConfusion hz⟩
end Go.Proofs.YtckjibiolfapiaaWords
