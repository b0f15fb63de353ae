/- Sums and differences with flags: the plain law. -/
import Derived.Test.YtckjibiolfapiaaZqSumsQ
set_option linter.unusedVariables false
set_option linter.unusedSimpArgs false
namespace Go.Proofs.YtckjibiolfapiaaSums
open Go Go.Zq
set_option maxHeartbeats 4000000

/-- The flags, out of what they tell. -/
def Fl (c v z n : Bool) : Int := W64 (W64 (fg c 17) (fg v 2)) (W64 (fg z 4) (fg n 8))
where
  fg (b : Bool) (k : Int) : Int := bif b then k else 0
  W64 (x y : Int) : Int := IntKind.wrap IntKind.i64 ↑(BitVec.toNat (BitVec.ofInt 64 x ||| BitVec.ofInt 64 y))
def bit (f k : Int) : Int := IntKind.wrap IntKind.i64 ↑(BitVec.toNat (BitVec.ofInt (64 : Nat) f &&& BitVec.ofInt (64 : Nat) k))
theorem Fl1 (c v z n : Bool) : (bit (Fl c v z n) 1 != 0) = c := by cases c <;> cases v <;> cases z <;> cases n <;> decide +kernel
theorem Fl2 (c v z n : Bool) : (bit (Fl c v z n) 2 != 0) = v := by cases c <;> cases v <;> cases z <;> cases n <;> decide +kernel
theorem Fl4 (c v z n : Bool) : (bit (Fl c v z n) 4 != 0) = z := by cases c <;> cases v <;> cases z <;> cases n <;> decide +kernel
theorem Fl8 (c v z n : Bool) : (bit (Fl c v z n) 8 != 0) = n := by cases c <;> cases v <;> cases z <;> cases n <;> decide +kernel
theorem Fl16 (c v z n : Bool) : (bit (Fl c v z n) 1 != Int.fdiv (Fl c v z n) 16) = false := by cases c <;> cases v <;> cases z <;> cases n <;> decide +kernel

theorem mask (T : Int) (hT : T = 256 ∨ T = 65536) (z : Int) : IntKind.wrap IntKind.i64 ↑(BitVec.toNat (BitVec.ofInt (64 : Nat) z &&& BitVec.ofInt (64 : Nat) (IntKind.wrap IntKind.i64 (T - (1 : Int))))) = z % T := by
  rw [BitVec.toNat_and, BitVec.toNat_ofInt, BitVec.toNat_ofInt]
  rcases hT with rfl | rfl
  · have h : ((IntKind.wrap IntKind.i64 (256 - 1)) % ((2 ^ 64 : Nat) : Int)).toNat = 2 ^ 8 - 1 := by decide
    rw [h, Nat.and_two_pow_sub_one_eq_mod, IntKind.wrap_i64]
    omega
  · have h : ((IntKind.wrap IntKind.i64 (65536 - 1)) % ((2 ^ 64 : Nat) : Int)).toNat = 2 ^ 16 - 1 := by decide
    rw [h, Nat.and_two_pow_sub_one_eq_mod, IntKind.wrap_i64]
    omega

/-- What a size makes of things. -/
structure Sz (s T : Int) : Prop where
  t : T = 256 ∨ T = 65536
  e1 : g218_0 s = T
  e2 : g220_0 s = T
  e3 : g32_0 s = T
  e4 : g198_0 s = true
theorem sz_of {s : Int} (h : g198_0 s = true) : ∃ T, Sz s T := by
  rcases size_iff.1 h with rfl | rfl
  · exact ⟨256, .inl rfl, by decide +kernel, by decide +kernel, rfl, rfl⟩
  · exact ⟨65536, .inr rfl, by decide +kernel, by decide +kernel, rfl, rfl⟩

theorem L142 (v a b : Int) : g142_0 v a b = true ↔ a ≤ v ∧ v ≤ b := by
  simp [g142_0]
theorem L151 {s T : Int} (h : Sz s T) (a : Int) : g151_0 s a = true ↔ 0 ≤ a ∧ a < T := by
  unfold g151_0
  rw [h.e4, h.e1, cond_true, L142]
  rcases h.t with rfl | rfl
  · have : IntKind.wrap IntKind.i64 (256 - 1) = 255 := by decide
    rw [this]; omega
  · have : IntKind.wrap IntKind.i64 (65536 - 1) = 65535 := by decide
    rw [this]; omega
theorem L181 (s a : Int) : g181_0 s a = g151_0 s a := by
  unfold g181_0 g151_0
  have : g201_0 s = g198_0 s := rfl
  rw [this]
  cases hs : g198_0 s
  · simp only [cond_false]
  · obtain ⟨T, h⟩ := sz_of hs
    rw [h.e1, h.e2]
    rfl
theorem Lok (s x a b : Int) : g28_2 s x a b = (g150_0 x && g151_0 s a && g151_0 s b) := by
  unfold g28_2
  cases g150_0 x <;> cases g151_0 s a <;> cases g151_0 s b <;> rfl
theorem Lok2 (s x a b : Int) : g153_0 s x a b = g28_2 s x a b := by
  rw [Lok]
  unfold g153_0
  rw [L181, L181]
  have : g144_0 x 0 1 = g150_0 x := rfl
  rw [this]
  cases g150_0 x <;> cases g151_0 s a <;> cases g151_0 s b <;> rfl

/-- The value with its sign. -/
def sg (T a : Int) : Int := bif decide (a ≥ T / 2) then a - T else a
theorem L157 {s T : Int} (h : Sz s T) (a : Int) (h0 : 0 ≤ a) (h1 : a < T) : g157_0 s a = sg T a ∧ g182_0 s a = sg T a := by
  unfold g157_0 g182_0 sg
  rw [h.e1, h.e2]
  rcases h.t with rfl | rfl
  · have e : IntKind.wrap IntKind.i64 (Int.tdiv 256 2) = 256 / 2 := by decide
    have e2 : IntKind.wrap IntKind.i64 (a - 256) = a - 256 := by rw [IntKind.wrap_i64]; omega
    rw [e, e2]
    exact ⟨rfl, rfl⟩
  · have e : IntKind.wrap IntKind.i64 (Int.tdiv 65536 2) = 65536 / 2 := by decide
    have e2 : IntKind.wrap IntKind.i64 (a - 65536) = a - 65536 := by rw [IntKind.wrap_i64]; omega
    rw [e, e2]
    exact ⟨rfl, rfl⟩
theorem half {s T : Int} (h : Sz s T) : IntKind.wrap IntKind.i64 (Int.tdiv (g218_0 s) 2) = T / 2 ∧ IntKind.wrap IntKind.i64 (Int.tdiv (g220_0 s) 2) = T / 2 := by
  rw [h.e1, h.e2]
  rcases h.t with rfl | rfl <;> decide
theorem L219 {s T : Int} (h : Sz s T) (z q : Int) : g219_0 s z = z % T ∧ g219_1 s z q = Fl (z != z % T) (q != sg T (z % T)) (z % T == 0) (decide (z % T ≥ T / 2)) := by
  have hm := mask T h.t z
  have h0 : 0 ≤ z % T ∧ z % T < T := by rcases h.t with rfl | rfl <;> omega
  constructor
  · unfold g219_0
    rw [h.e1, hm]
  · unfold g219_1 g225_0
    rw [h.e1, hm, (L157 h (z % T) h0.1 h0.2).1]
    have := (half h).1
    rw [h.e1] at this
    rw [this]
    rfl

/-- Sums. -/
theorem Ladd {s T : Int} (h : Sz s T) (x a b : Int) (hx0 : 0 ≤ x) (hx1 : x ≤ 1) (ha0 : 0 ≤ a) (ha1 : a < T) (hb0 : 0 ≤ b) (hb1 : b < T) :
    g152_0 s x a b = (a + b + x) % T ∧ g154_0 s x a b = (a + b + x) % T ∧
    g152_1 s x a b = Fl (a + b + x != (a + b + x) % T) (sg T a + sg T b + x != sg T ((a + b + x) % T)) ((a + b + x) % T == 0) (decide ((a + b + x) % T ≥ T / 2)) ∧ g154_1 s x a b = g152_1 s x a b := by
  have hT : T ≤ 65536 := by rcases h.t with rfl | rfl <;> decide
  have e1 : IntKind.wrap IntKind.i64 (IntKind.wrap IntKind.i64 (a + b) + x) = a + b + x := by
    simp only [IntKind.wrap_i64]; omega
  have sa : -65536 ≤ sg T a ∧ sg T a ≤ 65536 := by unfold sg; cases decide (a ≥ T / 2) <;> simp only [cond_true, cond_false] <;> omega
  have sb : -65536 ≤ sg T b ∧ sg T b ≤ 65536 := by unfold sg; cases decide (b ≥ T / 2) <;> simp only [cond_true, cond_false] <;> omega
  have e2 : IntKind.wrap IntKind.i64 (IntKind.wrap IntKind.i64 (sg T a + sg T b) + x) = sg T a + sg T b + x := by
    simp only [IntKind.wrap_i64]; omega
  have l := L219 h (a + b + x) (sg T a + sg T b + x)
  have k1 : g152_0 s x a b = (a + b + x) % T := by unfold g152_0; rw [e1, l.1]
  have k2 : g152_1 s x a b = Fl (a + b + x != (a + b + x) % T) (sg T a + sg T b + x != sg T ((a + b + x) % T)) ((a + b + x) % T == 0) (decide ((a + b + x) % T ≥ T / 2)) := by
    unfold g152_1
    rw [(L157 h a ha0 ha1).1, (L157 h b hb0 hb1).1, e1, e2, l.2]
  refine ⟨k1, ?_, k2, ?_⟩
  · unfold g154_0
    rw [e1, h.e2, mask T h.t]
  · rw [k2]
    have h0 : 0 ≤ (a + b + x) % T ∧ (a + b + x) % T < T := by rcases h.t with rfl | rfl <;> omega
    unfold g154_1 g221_0
    rw [(L157 h a ha0 ha1).2, (L157 h b hb0 hb1).2, e1, e2]
    have := (half h).2
    rw [h.e2] at this
    rw [h.e2, mask T h.t, (L157 h _ h0.1 h0.2).2, this]
    rfl
theorem Lsub {s T : Int} (h : Sz s T) (x a b : Int) (hx0 : 0 ≤ x) (hx1 : x ≤ 1) (ha0 : 0 ≤ a) (ha1 : a < T) (hb0 : 0 ≤ b) (hb1 : b < T) :
    g155_0 s x a b = (a - b - x) % T ∧ g156_0 s x a b = (a - b - x) % T ∧
    g155_1 s x a b = Fl (decide (a - b - x < 0)) (sg T a - sg T b - x != sg T ((a - b - x) % T)) ((a - b - x) % T == 0) (decide ((a - b - x) % T ≥ T / 2)) ∧ g156_1 s x a b = g155_1 s x a b := by
  have hT : T ≤ 65536 := by rcases h.t with rfl | rfl <;> decide
  have e1 : IntKind.wrap IntKind.i64 (IntKind.wrap IntKind.i64 (a - b) - x) = a - b - x := by
    simp only [IntKind.wrap_i64]; omega
  have sa : -65536 ≤ sg T a ∧ sg T a ≤ 65536 := by unfold sg; cases decide (a ≥ T / 2) <;> simp only [cond_true, cond_false] <;> omega
  have sb : -65536 ≤ sg T b ∧ sg T b ≤ 65536 := by unfold sg; cases decide (b ≥ T / 2) <;> simp only [cond_true, cond_false] <;> omega
  have e2 : IntKind.wrap IntKind.i64 (IntKind.wrap IntKind.i64 (sg T a - sg T b) - x) = sg T a - sg T b - x := by
    simp only [IntKind.wrap_i64]; omega
  have l := L219 h (a - b - x) (sg T a - sg T b - x)
  have hlt : (a - b - x != (a - b - x) % T) = decide (a - b - x < 0) := by
    rw [Bool.eq_iff_iff, bne_iff_ne, decide_eq_true_eq]
    rcases h.t with rfl | rfl <;> omega
  have k1 : g155_0 s x a b = (a - b - x) % T := by unfold g155_0; rw [e1, l.1]
  have k2 : g155_1 s x a b = Fl (decide (a - b - x < 0)) (sg T a - sg T b - x != sg T ((a - b - x) % T)) ((a - b - x) % T == 0) (decide ((a - b - x) % T ≥ T / 2)) := by
    unfold g155_1
    rw [(L157 h a ha0 ha1).1, (L157 h b hb0 hb1).1, e1, e2, l.2, hlt]
  refine ⟨k1, ?_, k2, ?_⟩
  · unfold g156_0
    rw [e1, h.e2, mask T h.t]
  · rw [k2]
    have h0 : 0 ≤ (a - b - x) % T ∧ (a - b - x) % T < T := by rcases h.t with rfl | rfl <;> omega
    unfold g156_1 g221_0
    rw [(L157 h a ha0 ha1).2, (L157 h b hb0 hb1).2, e1, e2]
    have := (half h).2
    rw [h.e2] at this
    rw [h.e2, mask T h.t, (L157 h _ h0.1 h0.2).2, this]
    rfl

/-- Behind the check. -/
theorem okF {s x a b : Int} (h : g28_2 s x a b = true) : ∃ T, Sz s T ∧ 0 ≤ x ∧ x ≤ 1 ∧ 0 ≤ a ∧ a < T ∧ 0 ≤ b ∧ b < T := by
  have hh := h
  rw [Lok] at h
  simp only [Bool.and_eq_true] at h
  obtain ⟨⟨hx, ha⟩, hb⟩ := h
  have hs : g198_0 s = true := by
    unfold g151_0 at ha
    cases e : g198_0 s
    · rw [e] at ha; simp at ha
    · rfl
  obtain ⟨T, h⟩ := sz_of hs
  have hx' := (L142 x 0 1).1 hx
  have ha' := (L151 h a).1 ha
  have hb' := (L151 h b).1 hb
  exact ⟨T, h, hx'.1, hx'.2, ha'.1, ha'.2, hb'.1, hb'.2⟩

theorem same_sub (s x a b : Int) : g31_2 s x a b = g30_2 s x a b ∧ g31_0 s x a b = g30_0 s x a b ∧ g31_1 s x a b = g30_1 s x a b := by
  have e0 : g30_2 s x a b = g28_2 s x a b := rfl
  have e1 : g153_0 s x a b = g28_2 s x a b := Lok2 s x a b
  have e2 : (bif bif !g150_0 x then true else !g151_0 s a then true else !g151_0 s b) = !g28_2 s x a b := by
    unfold g28_2; rw [Bool.not_not]
  unfold g31_2 g31_0 g31_1 g30_0 g30_1
  rw [e1, e2, e0]
  cases hok : g28_2 s x a b
  · simp only [Bool.not_false, cond_true, and_self]
  · obtain ⟨T, h, hx0, hx1, ha0, ha1, hb0, hb1⟩ := okF hok
    have l := Lsub h x a b hx0 hx1 ha0 ha1 hb0 hb1
    simp only [Bool.not_true, cond_false, l.1, l.2.1, l.2.2.2]
    exact ⟨trivial, trivial, trivial⟩
theorem same_add (s x a b : Int) : g29_2 s x a b = g28_2 s x a b ∧ g29_0 s x a b = g28_0 s x a b ∧ g29_1 s x a b = g28_1 s x a b := by
  have e1 : g153_0 s x a b = g28_2 s x a b := Lok2 s x a b
  have e2 : (bif bif !g150_0 x then true else !g151_0 s a then true else !g151_0 s b) = !g28_2 s x a b := by
    unfold g28_2; rw [Bool.not_not]
  unfold g29_2 g29_0 g29_1 g28_0 g28_1
  rw [e1, e2]
  cases hok : g28_2 s x a b
  · simp only [Bool.not_false, cond_true, and_self]
  · obtain ⟨T, h, hx0, hx1, ha0, ha1, hb0, hb1⟩ := okF hok
    have l := Ladd h x a b hx0 hx1 ha0 ha1 hb0 hb1
    simp only [Bool.not_true, cond_false, l.1, l.2.1, l.2.2.2]
    exact ⟨trivial, trivial, trivial⟩

theorem pure4 (x0 x1 : List Row) : g4_0 x0 x1 = true := by
  unfold g4_0
  generalize g27_0 x0 = s
  generalize g27_1 x0 = x
  generalize g27_2 x0 = a
  generalize g27_3 x0 = b
  generalize g158_0 x1 = c
  generalize g158_1 x1 = d
  have hneg : (bif bif bif !g35_2 c d == g36_2 c d then true else g35_0 c d != g36_0 c d then true else g35_1 c d != g36_1 c d then false else bif !g35_2 c d then true else Int.tmod (IntKind.wrap IntKind.i64 (g35_0 c d + d)) (g32_0 c) == 0) = true := by
    have l := same_sub c 0 0 d
    have e1 : g36_2 c d = g35_2 c d := l.1
    have e2 : g36_0 c d = g35_0 c d := l.2.1
    have e3 : g36_1 c d = g35_1 c d := l.2.2
    rw [e1, e2, e3]
    simp only [beq_self_eq_true, Bool.not_true, bne_self_eq_false, cond_false]
    cases hok : g35_2 c d
    · rfl
    · have hok' : g28_2 c 0 0 d = true := hok
      obtain ⟨T, h, -, -, -, -, hb0, hb1⟩ := okF hok'
      have l := Lsub h 0 0 d (by decide) (by decide) (by decide) (by rcases h.t with rfl | rfl <;> decide) hb0 hb1
      have e : g35_0 c d = (0 - d - 0) % T := by
        rw [← l.1]
        unfold g35_0 g30_0
        have e2 : (bif bif !g150_0 0 then true else !g151_0 c 0 then true else !g151_0 c d) = false := by
          unfold g28_2 at hok'
          simpa using hok'
        rw [e2]
        rfl
      rw [e, h.e3]
      simp only [Bool.not_true, cond_false, beq_iff_eq]
      rcases h.t with rfl | rfl
      · rw [IntKind.wrap_i64, Int.tmod_eq_emod_of_nonneg (by omega)]; omega
      · rw [IntKind.wrap_i64, Int.tmod_eq_emod_of_nonneg (by omega)]; omega
  rw [hneg]
  clear hneg
  have l1 := same_add s x a b
  have l2 := same_sub s x a b
  have e0 : g30_2 s x a b = g28_2 s x a b := rfl
  rw [l1.1, l1.2.1, l1.2.2, l2.1, l2.2.1, l2.2.2, e0]
  simp only [beq_self_eq_true, Bool.not_true, bne_self_eq_false, cond_false]
  cases hok : g28_2 s x a b
  · simp
  · obtain ⟨T, h, hx0, hx1, ha0, ha1, hb0, hb1⟩ := okF hok
    have hok2 : (bif bif !g150_0 x then true else !g151_0 s a then true else !g151_0 s b) = false := by
      unfold g28_2 at hok
      simpa using hok
    have ea := Ladd h x a b hx0 hx1 ha0 ha1 hb0 hb1
    have es := Lsub h x a b hx0 hx1 ha0 ha1 hb0 hb1
    have v0 : g28_0 s x a b = (a + b + x) % T := by unfold g28_0; rw [hok2, cond_false, ea.1]
    have f0 : g28_1 s x a b = Fl (a + b + x != (a + b + x) % T) (sg T a + sg T b + x != sg T ((a + b + x) % T)) ((a + b + x) % T == 0) (decide ((a + b + x) % T ≥ T / 2)) := by
      unfold g28_1; rw [hok2, cond_false, ea.2.2.1]
    have w0 : g30_0 s x a b = (a - b - x) % T := by unfold g30_0; rw [hok2, cond_false, es.1]
    have g0 : g30_1 s x a b = Fl (decide (a - b - x < 0)) (sg T a - sg T b - x != sg T ((a - b - x) % T)) ((a - b - x) % T == 0) (decide ((a - b - x) % T ≥ T / 2)) := by
      unfold g30_1; rw [hok2, cond_false, es.2.2.1]
    have hv : 0 ≤ (a + b + x) % T ∧ (a + b + x) % T < T := by rcases h.t with rfl | rfl <;> omega
    have hw : 0 ≤ (a - b - x) % T ∧ (a - b - x) % T < T := by rcases h.t with rfl | rfl <;> omega
    have va := (L151 h a).2 ⟨ha0, ha1⟩
    have vb := (L151 h b).2 ⟨hb0, hb1⟩
    have vv := (L151 h _).2 hv
    have vw := (L151 h _).2 hw
    have n33 : ∀ y, g151_0 s y = true → 0 ≤ y → y < T → g33_0 s y = sg T y := fun y hy h0 h1 => by
      unfold g33_0
      rw [hy, (L157 h y h0 h1).1]
      rfl
    have hxb : g150_0 x = true := (L142 x 0 1).2 ⟨hx0, hx1⟩
    have b2 : g30_2 s x ((a + b + x) % T) b = true := by
      have : g30_2 s x ((a + b + x) % T) b = (g150_0 x && g151_0 s ((a + b + x) % T) && g151_0 s b) := Lok _ _ _ _
      rw [this, hxb, vv, vb]; rfl
    have b0 : g30_0 s x ((a + b + x) % T) b = a := by
      have e2 : (bif bif !g150_0 x then true else !g151_0 s ((a + b + x) % T) then true else !g151_0 s b) = false := by rw [hxb, vv, vb]; rfl
      unfold g30_0
      rw [e2, cond_false, (Lsub h x _ b hx0 hx1 hv.1 hv.2 hb0 hb1).1]
      rcases h.t with rfl | rfl <;> omega
    rw [v0, f0, w0, g0, va, vb, vv, vw, n33 a va ha0 ha1, n33 b vb hb0 hb1, n33 _ vv hv.1 hv.2, n33 _ vw hw.1 hw.2, b2, b0, h.e3]
    have t1 := Fl1 (a + b + x != (a + b + x) % T) (sg T a + sg T b + x != sg T ((a + b + x) % T)) ((a + b + x) % T == 0) (decide ((a + b + x) % T ≥ T / 2))
    have t2 := Fl2 (a + b + x != (a + b + x) % T) (sg T a + sg T b + x != sg T ((a + b + x) % T)) ((a + b + x) % T == 0) (decide ((a + b + x) % T ≥ T / 2))
    have t3 := Fl4 (a + b + x != (a + b + x) % T) (sg T a + sg T b + x != sg T ((a + b + x) % T)) ((a + b + x) % T == 0) (decide ((a + b + x) % T ≥ T / 2))
    have t4 := Fl8 (a + b + x != (a + b + x) % T) (sg T a + sg T b + x != sg T ((a + b + x) % T)) ((a + b + x) % T == 0) (decide ((a + b + x) % T ≥ T / 2))
    have t5 := Fl16 (a + b + x != (a + b + x) % T) (sg T a + sg T b + x != sg T ((a + b + x) % T)) ((a + b + x) % T == 0) (decide ((a + b + x) % T ≥ T / 2))
    have u1 := Fl1 (decide (a - b - x < 0)) (sg T a - sg T b - x != sg T ((a - b - x) % T)) ((a - b - x) % T == 0) (decide ((a - b - x) % T ≥ T / 2))
    have u2 := Fl2 (decide (a - b - x < 0)) (sg T a - sg T b - x != sg T ((a - b - x) % T)) ((a - b - x) % T == 0) (decide ((a - b - x) % T ≥ T / 2))
    unfold bit at t1 t2 t3 t4 t5 u1 u2
    rw [t1, t2, t3, t4, t5, u1, u2]
    clear t1 t2 t3 t4 t5 u1 u2
    have sr : ∀ y, 0 ≤ y → y < T → -65536 ≤ sg T y ∧ sg T y ≤ 65536 := fun y h0 h1 => by
      have hT : T ≤ 65536 := by rcases h.t with rfl | rfl <;> decide
      unfold sg; cases decide (y ≥ T / 2) <;> simp only [cond_true, cond_false] <;> omega
    have ra := sr a ha0 ha1
    have rb := sr b hb0 hb1
    have hT : T ≤ 65536 := by rcases h.t with rfl | rfl <;> decide
    have s1 : IntKind.wrap IntKind.i64 (IntKind.wrap IntKind.i64 (a + b) + x) = a + b + x := by simp only [IntKind.wrap_i64]; omega
    have s2 : IntKind.wrap IntKind.i64 (IntKind.wrap IntKind.i64 (a - b) - x) = a - b - x := by simp only [IntKind.wrap_i64]; omega
    have s3 : IntKind.wrap IntKind.i64 (IntKind.wrap IntKind.i64 (sg T a + sg T b) + x) = sg T a + sg T b + x := by simp only [IntKind.wrap_i64]; omega
    have s4 : IntKind.wrap IntKind.i64 (IntKind.wrap IntKind.i64 (sg T a - sg T b) - x) = sg T a - sg T b - x := by simp only [IntKind.wrap_i64]; omega
    rw [s1, s2, s3, s4]
    have c1 : decide (a + b + x ≥ T) = (a + b + x != (a + b + x) % T) := by
      rw [Bool.eq_iff_iff, bne_iff_ne, decide_eq_true_eq]
      rcases h.t with rfl | rfl <;> omega
    have c2 : decide (sg T ((a + b + x) % T) < 0) = decide ((a + b + x) % T ≥ T / 2) := by
      unfold sg
      cases e : decide ((a + b + x) % T ≥ T / 2)
      · simp only [cond_false, decide_eq_false_iff_not]; omega
      · simp only [cond_true, decide_eq_true_eq]; omega
    have c3 : Int.tmod (IntKind.wrap IntKind.i64 (IntKind.wrap IntKind.i64 (IntKind.wrap IntKind.i64 (IntKind.wrap IntKind.i64 ((a + b + x) % T + T) - a) - b) - x)) T = 0 := by
      simp only [IntKind.wrap_i64]
      rcases h.t with rfl | rfl
      · rw [Int.tmod_eq_emod_of_nonneg (by omega)]; omega
      · rw [Int.tmod_eq_emod_of_nonneg (by omega)]; omega
    have c4 : Int.tmod (IntKind.wrap IntKind.i64 (IntKind.wrap IntKind.i64 (IntKind.wrap IntKind.i64 (IntKind.wrap IntKind.i64 ((a - b - x) % T + IntKind.wrap IntKind.i64 (2 * T)) - a) + b) + x)) T = 0 := by
      simp only [IntKind.wrap_i64]
      rcases h.t with rfl | rfl
      · rw [Int.tmod_eq_emod_of_nonneg (by omega)]; omega
      · rw [Int.tmod_eq_emod_of_nonneg (by omega)]; omega
    rw [c1, c2, c3, c4]
    simp
end Go.Proofs.YtckjibiolfapiaaSums
