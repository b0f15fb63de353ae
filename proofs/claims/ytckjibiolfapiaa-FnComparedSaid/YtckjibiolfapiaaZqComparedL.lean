/- Comparisons: the plain law. -/
import Derived.Test.YtckjibiolfapiaaZqComparedQ
import Derived.Test.YtckjibiolfapiaaZqList
set_option linter.unusedVariables false
set_option linter.unusedSimpArgs false
namespace Go.Proofs.YtckjibiolfapiaaCompared
open Go Go.Zq
set_option maxHeartbeats 4000000

/-- The flags, out of what they tell. -/
def Fl (c v z n : Bool) : Int := W64 (W64 (fg c 17) (fg v 2)) (W64 (fg z 4) (fg n 8))
where
  fg (b : Bool) (k : Int) : Int := bif b then k else 0
  W64 (x y : Int) : Int := IntKind.wrap IntKind.i64 ↑(BitVec.toNat (BitVec.ofInt 64 x ||| BitVec.ofInt 64 y))
def bit (f k : Int) : Int := IntKind.wrap IntKind.i64 ↑(BitVec.toNat (BitVec.ofInt (64 : Nat) f &&& BitVec.ofInt (64 : Nat) k))
theorem Fl1 (c v z n : Bool) : (bit (Fl c v z n) 1 != 0) = c := by cases c <;> cases v <;> cases z <;> cases n <;> decide +kernel
theorem Fl2 (c v z n : Bool) : (bit (Fl c v z n) 2 != 0) = v := by cases c <;> cases v <;> cases z <;> cases n <;> decide +kernel
theorem Fl4 (c v z n : Bool) : (bit (Fl c v z n) 4 != 0) = z := by cases c <;> cases v <;> cases z <;> cases n <;> decide +kernel
theorem Fl8 (c v z n : Bool) : (bit (Fl c v z n) 8 != 0) = n := by cases c <;> cases v <;> cases z <;> cases n <;> decide +kernel
theorem Fl16 (c v z n : Bool) : (bit (Fl c v z n) 1 != Int.fdiv (Fl c v z n) 16) = false := by cases c <;> cases v <;> cases z <;> cases n <;> decide +kernel

theorem mask (T : Int) (hT : T = 256 ∨ T = 65536) (z : Int) : IntKind.wrap IntKind.i64 ↑(BitVec.toNat (BitVec.ofInt (64 : Nat) z &&& BitVec.ofInt (64 : Nat) (IntKind.wrap IntKind.i64 (T - (1 : Int))))) = z % T := by
  rw [BitVec.toNat_and, BitVec.toNat_ofInt, BitVec.toNat_ofInt]
  rcases hT with rfl | rfl
  · have h : ((IntKind.wrap IntKind.i64 (256 - 1)) % ((2 ^ 64 : Nat) : Int)).toNat = 2 ^ 8 - 1 := by decide
    rw [h, Nat.and_two_pow_sub_one_eq_mod, IntKind.wrap_i64]
    omega
  · have h : ((IntKind.wrap IntKind.i64 (65536 - 1)) % ((2 ^ 64 : Nat) : Int)).toNat = 2 ^ 16 - 1 := by decide
    rw [h, Nat.and_two_pow_sub_one_eq_mod, IntKind.wrap_i64]
    omega

/-- What a size makes of things. -/
structure Sz (s T : Int) : Prop where
  t : T = 256 ∨ T = 65536
  e1 : g218_0 s = T
  e2 : g220_0 s = T
  e4 : g198_0 s = true
theorem sz_of {s : Int} (h : g198_0 s = true) : ∃ T, Sz s T := by
  rcases size_iff.1 h with rfl | rfl
  · exact ⟨256, .inl rfl, by decide +kernel, by decide +kernel, rfl⟩
  · exact ⟨65536, .inr rfl, by decide +kernel, by decide +kernel, rfl⟩

theorem L142 (v a b : Int) : g142_0 v a b = true ↔ a ≤ v ∧ v ≤ b := by
  simp [g142_0]
theorem L151 {s T : Int} (h : Sz s T) (a : Int) : g151_0 s a = true ↔ 0 ≤ a ∧ a < T := by
  unfold g151_0
  rw [h.e4, h.e1, cond_true, L142]
  rcases h.t with rfl | rfl
  · have : IntKind.wrap IntKind.i64 (256 - 1) = 255 := by decide
    rw [this]; omega
  · have : IntKind.wrap IntKind.i64 (65536 - 1) = 65535 := by decide
    rw [this]; omega
theorem L181 (s a : Int) : g181_0 s a = g151_0 s a := by
  unfold g181_0 g151_0
  have : g201_0 s = g198_0 s := rfl
  rw [this]
  cases hs : g198_0 s
  · simp only [cond_false]
  · obtain ⟨T, h⟩ := sz_of hs
    rw [h.e1, h.e2]
    rfl
/-- The value with its sign. -/
def sg (T a : Int) : Int := bif decide (a ≥ T / 2) then a - T else a
theorem L157 {s T : Int} (h : Sz s T) (a : Int) (h0 : 0 ≤ a) (h1 : a < T) : g157_0 s a = sg T a ∧ g182_0 s a = sg T a := by
  unfold g157_0 g182_0 sg
  rw [h.e1, h.e2]
  rcases h.t with rfl | rfl
  · have e : IntKind.wrap IntKind.i64 (Int.tdiv 256 2) = 256 / 2 := by decide
    have e2 : IntKind.wrap IntKind.i64 (a - 256) = a - 256 := by rw [IntKind.wrap_i64]; omega
    rw [e, e2]
    exact ⟨rfl, rfl⟩
  · have e : IntKind.wrap IntKind.i64 (Int.tdiv 65536 2) = 65536 / 2 := by decide
    have e2 : IntKind.wrap IntKind.i64 (a - 65536) = a - 65536 := by rw [IntKind.wrap_i64]; omega
    rw [e, e2]
    exact ⟨rfl, rfl⟩
theorem half {s T : Int} (h : Sz s T) : IntKind.wrap IntKind.i64 (Int.tdiv (g218_0 s) 2) = T / 2 ∧ IntKind.wrap IntKind.i64 (Int.tdiv (g220_0 s) 2) = T / 2 := by
  rw [h.e1, h.e2]
  rcases h.t with rfl | rfl <;> decide
theorem L219 {s T : Int} (h : Sz s T) (z q : Int) : g219_0 s z = z % T ∧ g219_1 s z q = Fl (z != z % T) (q != sg T (z % T)) (z % T == 0) (decide (z % T ≥ T / 2)) := by
  have hm := mask T h.t z
  have h0 : 0 ≤ z % T ∧ z % T < T := by rcases h.t with rfl | rfl <;> omega
  constructor
  · unfold g219_0
    rw [h.e1, hm]
  · unfold g219_1 g225_0
    rw [h.e1, hm, (L157 h (z % T) h0.1 h0.2).1]
    have := (half h).1
    rw [h.e1] at this
    rw [this]
    rfl

theorem Lsub {s T : Int} (h : Sz s T) (x a b : Int) (hx0 : 0 ≤ x) (hx1 : x ≤ 1) (ha0 : 0 ≤ a) (ha1 : a < T) (hb0 : 0 ≤ b) (hb1 : b < T) :
    g155_0 s x a b = (a - b - x) % T ∧ g156_0 s x a b = (a - b - x) % T ∧
    g155_1 s x a b = Fl (decide (a - b - x < 0)) (sg T a - sg T b - x != sg T ((a - b - x) % T)) ((a - b - x) % T == 0) (decide ((a - b - x) % T ≥ T / 2)) ∧ g156_1 s x a b = g155_1 s x a b := by
  have hT : T ≤ 65536 := by rcases h.t with rfl | rfl <;> decide
  have e1 : IntKind.wrap IntKind.i64 (IntKind.wrap IntKind.i64 (a - b) - x) = a - b - x := by
    simp only [IntKind.wrap_i64]; omega
  have sa : -65536 ≤ sg T a ∧ sg T a ≤ 65536 := by unfold sg; cases decide (a ≥ T / 2) <;> simp only [cond_true, cond_false] <;> omega
  have sb : -65536 ≤ sg T b ∧ sg T b ≤ 65536 := by unfold sg; cases decide (b ≥ T / 2) <;> simp only [cond_true, cond_false] <;> omega
  have e2 : IntKind.wrap IntKind.i64 (IntKind.wrap IntKind.i64 (sg T a - sg T b) - x) = sg T a - sg T b - x := by
    simp only [IntKind.wrap_i64]; omega
  have l := L219 h (a - b - x) (sg T a - sg T b - x)
  have hlt : (a - b - x != (a - b - x) % T) = decide (a - b - x < 0) := by
    rw [Bool.eq_iff_iff, bne_iff_ne, decide_eq_true_eq]
    rcases h.t with rfl | rfl <;> omega
  have k1 : g155_0 s x a b = (a - b - x) % T := by unfold g155_0; rw [e1, l.1]
  have k2 : g155_1 s x a b = Fl (decide (a - b - x < 0)) (sg T a - sg T b - x != sg T ((a - b - x) % T)) ((a - b - x) % T == 0) (decide ((a - b - x) % T ≥ T / 2)) := by
    unfold g155_1
    rw [(L157 h a ha0 ha1).1, (L157 h b hb0 hb1).1, e1, e2, l.2, hlt]
  refine ⟨k1, ?_, k2, ?_⟩
  · unfold g156_0
    rw [e1, h.e2, mask T h.t]
  · rw [k2]
    have h0 : 0 ≤ (a - b - x) % T ∧ (a - b - x) % T < T := by rcases h.t with rfl | rfl <;> omega
    unfold g156_1 g221_0
    rw [(L157 h a ha0 ha1).2, (L157 h b hb0 hb1).2, e1, e2]
    have := (half h).2
    rw [h.e2] at this
    rw [h.e2, mask T h.t, (L157 h _ h0.1 h0.2).2, this]
    rfl


/-- The flags of a comparison, out of what they tell. -/
def Gf (c v z n : Bool) : Int := IntKind.wrap IntKind.i64 (↑(BitVec.toNat (BitVec.ofInt (64 : Nat) (IntKind.wrap IntKind.i64 (↑(BitVec.toNat (BitVec.ofInt (64 : Nat) (Fl c v z n) &&& ~~~BitVec.ofInt (64 : Nat) (16 : Int))) : Int)) ||| BitVec.ofInt (64 : Nat) (IntKind.wrap IntKind.i64 (↑(BitVec.toNat (BitVec.ofInt (64 : Nat) (0 : Int) &&& BitVec.ofInt (64 : Nat) (16 : Int))) : Int)))) : Int)
def Gs (c v z n : Bool) : Int := IntKind.wrap IntKind.i64 (↑(BitVec.toNat (BitVec.ofInt (64 : Nat) (IntKind.wrap IntKind.i64 (↑(BitVec.toNat (BitVec.ofInt (64 : Nat) (Fl c v z n) &&& BitVec.ofInt (64 : Nat) (15 : Int))) : Int)) ||| BitVec.ofInt (64 : Nat) (IntKind.wrap IntKind.i64 (↑(BitVec.toNat (BitVec.ofInt (64 : Nat) (0 : Int) &&& BitVec.ofInt (64 : Nat) (16 : Int))) : Int)))) : Int)
theorem gs_gf (c v z n : Bool) : Gs c v z n = Gf c v z n := by cases c <;> cases v <;> cases z <;> cases n <;> decide +kernel
/-- All conditions, for all flags. -/
theorem conds (c v z n : Bool) : boolAt (w68_0_0 70 [] (Gf c v z n) 0) 0 0 = true ∧ boolAt (w68_0_0 70 [] (Gf c v z n) 0) 2 0 = !(c || z) ∧ boolAt (w68_0_0 70 [] (Gf c v z n) 0) 4 0 = !c ∧ boolAt (w68_0_0 70 [] (Gf c v z n) 0) 6 0 = !z ∧
    boolAt (w68_0_0 70 [] (Gf c v z n) 0) 12 0 = (n == v) ∧ boolAt (w68_0_0 70 [] (Gf c v z n) 0) 14 0 = (!z && n == v) ∧ boolAt (w68_0_0 70 [] (Gf c v z n) 0) 13 0 = !(n == v) ∧ boolAt (w68_0_0 70 [] (Gf c v z n) 0) 15 0 = !(!z && n == v) ∧
    List.length (w68_0_0 70 [] (Gf c v z n) 0) = 16 ∧ g70_0 false (w68_0_0 70 [] (Gf c v z n) 0) false (w69_0_0 70 [] (Gf c v z n) 0) = true ∧
    Option.isSome (L70_0 70 false (w68_0_0 70 [] (Gf c v z n) 0) false (w69_0_0 70 [] (Gf c v z n) 0) (↑(List.length (w68_0_0 70 [] (Gf c v z n) 0)) : Int) 0) = true := by
  cases c <;> cases v <;> cases z <;> cases n <;> decide +kernel

theorem ok_eq (s a b : Int) : g69_0 s a b = g68_0 s a b := by
  show g153_0 s 0 a b = g97_1 s 0 a b
  unfold g153_0 g97_1
  rw [L181, L181]
  have e1 : g144_0 0 0 1 = true := rfl
  have e2 : g183_0 0 = true := rfl
  rw [e1, e2]
  cases g151_0 s a <;> cases g151_0 s b <;> rfl
theorem okF {s a b : Int} (h : g68_0 s a b = true) : ∃ T, Sz s T ∧ 0 ≤ a ∧ a < T ∧ 0 ≤ b ∧ b < T := by
  have h : g97_1 s 0 a b = true := h
  unfold g97_1 at h
  have e2 : g183_0 0 = true := rfl
  rw [e2] at h
  have hab : g151_0 s a = true ∧ g151_0 s b = true := by
    cases ha : g151_0 s a <;> cases hb : g151_0 s b <;> simp_all
  have hs : g198_0 s = true := by
    have ha := hab.1
    unfold g151_0 at ha
    cases e : g198_0 s
    · rw [e] at ha; simp at ha
    · rfl
  obtain ⟨T, hT⟩ := sz_of hs
  have ha' := (L151 hT a).1 hab.1
  have hb' := (L151 hT b).1 hab.2
  exact ⟨T, hT, ha'.1, ha'.2, hb'.1, hb'.2⟩

/-- What comes of a good comparison. -/
theorem good {s a b : Int} (h : g68_0 s a b = true) : ∃ (T : Int) (c v z n : Bool), Sz s T ∧ 0 ≤ a ∧ a < T ∧ 0 ≤ b ∧ b < T ∧ g68_1 s a b = w68_0_0 70 [] (Gf c v z n) 0 ∧ g69_1 s a b = w69_0_0 70 [] (Gf c v z n) 0 ∧
    (!(c || z)) = decide (a > b) ∧ (!c) = decide (a ≥ b) ∧ (!z) = (a != b) ∧ (n == v) = decide (sg T a ≥ sg T b) ∧ (!z && n == v) = decide (sg T a > sg T b) := by
  obtain ⟨T, hT, ha0, ha1, hb0, hb1⟩ := okF h
  have l := Lsub hT 0 a b (by decide) (by decide) ha0 ha1 hb0 hb1
  have k : g97_1 s 0 a b = true := h
  have k2 : g153_0 s 0 a b = true := by have := ok_eq s a b; rw [h] at this; exact this
  refine ⟨T, decide (a - b - 0 < 0), (sg T a - sg T b - 0 != sg T ((a - b - 0) % T)), ((a - b - 0) % T == 0), decide ((a - b - 0) % T ≥ T / 2), hT, ha0, ha1, hb0, hb1, ?_, ?_, ?_⟩
  · unfold g68_1
    rw [k]
    have : g97_0 s 0 a b = Gf (decide (a - b - 0 < 0)) (sg T a - sg T b - 0 != sg T ((a - b - 0) % T)) ((a - b - 0) % T == 0) (decide ((a - b - 0) % T ≥ T / 2)) := by
      unfold g97_0
      have e : (bif bif !g183_0 0 then true else !g151_0 s a then true else !g151_0 s b) = false := by
        unfold g97_1 at k
        cases hh : (bif bif !g183_0 0 then true else !g151_0 s a then true else !g151_0 s b)
        · rfl
        · rw [hh] at k; simp at k
      rw [e, cond_false]
      unfold g184_0 Gf
      rw [l.2.2.1]
    rw [this]
    rfl
  · unfold g69_1
    rw [k2]
    have : g170_0 s 0 a b = Gs (decide (a - b - 0 < 0)) (sg T a - sg T b - 0 != sg T ((a - b - 0) % T)) ((a - b - 0) % T == 0) (decide ((a - b - 0) % T ≥ T / 2)) := by
      unfold g170_0 Gs
      rw [l.2.2.2, l.2.2.1]
    rw [this, gs_gf]
    rfl
  · have hz : ((a - b - 0) % T == 0) = decide (a = b) := by
      rw [Bool.eq_iff_iff, beq_iff_eq, decide_eq_true_eq]
      rcases hT.t with rfl | rfl <;> omega
    have hc : decide (a - b - 0 < 0) = decide (a < b) := by
      rw [decide_eq_decide]; omega
    have hnv : (decide ((a - b - 0) % T ≥ T / 2) == (sg T a - sg T b - 0 != sg T ((a - b - 0) % T))) = decide (sg T a ≥ sg T b) := by
      have hm : 0 ≤ (a - b - 0) % T ∧ (a - b - 0) % T < T ∧ ((a - b - 0) % T = a - b ∨ (a - b - 0) % T = a - b + T) := by
        rcases hT.t with rfl | rfl <;> omega
      revert hm
      generalize (a - b - 0) % T = m
      rintro ⟨m0, m1, m2⟩
      have sgt : ∀ x : Int, (x ≥ T / 2 ∧ sg T x = x - T) ∨ (x < T / 2 ∧ sg T x = x) := by
        intro x
        unfold sg
        by_cases hx : x ≥ T / 2
        · exact .inl ⟨hx, by rw [decide_eq_true hx]; rfl⟩
        · exact .inr ⟨by omega, by rw [decide_eq_false hx]; rfl⟩
      have hT2 : T = 2 * (T / 2) := by rcases hT.t with rfl | rfl <;> rfl
      have ja := sgt a
      have jb := sgt b
      have jm := sgt m
      revert ja jb jm
      generalize sg T a = p
      generalize sg T b = q
      generalize sg T m = r
      intro ja jb jm
      by_cases h3 : m ≥ T / 2
      · by_cases h4 : p - q - 0 = r
        · have h5 : ¬ p ≥ q := by omega
          rw [decide_eq_true h3, decide_eq_false h5, h4, bne_self_eq_false]; rfl
        · have h5 : p ≥ q := by omega
          rw [decide_eq_true h3, decide_eq_true h5, bne_iff_ne.2 h4]; rfl
      · by_cases h4 : p - q - 0 = r
        · have h5 : p ≥ q := by omega
          rw [decide_eq_false h3, decide_eq_true h5, h4, bne_self_eq_false]; rfl
        · have h5 : ¬ p ≥ q := by omega
          rw [decide_eq_false h3, decide_eq_false h5, bne_iff_ne.2 h4]; rfl
    rw [hz, hc, hnv]
    refine ⟨?_, ?_, ?_, rfl, ?_⟩
    · rw [Bool.eq_iff_iff]; simp; omega
    · rw [Bool.eq_iff_iff]; simp
    · rw [Bool.eq_iff_iff]; simp
    · rw [Bool.eq_iff_iff]
      simp only [Bool.and_eq_true, Bool.not_eq_true', decide_eq_false_iff_not, decide_eq_true_eq]
      have inj : sg T a = sg T b → a = b := by
        unfold sg
        rcases hT.t with rfl | rfl
        · by_cases h1 : a ≥ 256 / 2 <;> by_cases h2 : b ≥ 256 / 2 <;> simp only [h1, h2, decide_true, decide_false, cond_true, cond_false] <;> omega
        · by_cases h1 : a ≥ 65536 / 2 <;> by_cases h2 : b ≥ 65536 / 2 <;> simp only [h1, h2, decide_true, decide_false, cond_true, cond_false] <;> omega
      constructor
      · rintro ⟨h1, h2⟩
        have : sg T a ≠ sg T b := fun e => h1 (inj e)
        omega
      · intro h1
        refine ⟨fun e => ?_, by omega⟩
        rw [e] at h1
        omega

theorem pure8 (x0 : List Row) : g8_0 x0 = true := by
  unfold g8_0
  generalize g67_0 x0 = s
  generalize g67_1 x0 = a
  generalize g67_2 x0 = b
  rw [ok_eq]
  cases hok : g68_0 s a b
  · have h1 : g68_1 s a b = [] := by
      have : g97_1 s 0 a b = false := hok
      unfold g68_1; rw [this]; rfl
    have h2 : g69_1 s a b = [] := by
      have : g153_0 s 0 a b = false := by have := ok_eq s a b; rw [hok] at this; exact this
      unfold g69_1; rw [this]; rfl
    have h3 : g70_0 false [] false [] = true := by decide +kernel
    rw [h1, h2, h3]
    simp
  · obtain ⟨T, c, v, z, n, hT, ha0, ha1, hb0, hb1, e1, e2, k1, k2, k3, k4, k5⟩ := good hok
    have C := conds c v z n
    have i1 : g33_0 s a = sg T a := by
      unfold g33_0
      rw [(L151 hT a).2 ⟨ha0, ha1⟩, (L157 hT a ha0 ha1).1]; rfl
    have i2 : g33_0 s b = sg T b := by
      unfold g33_0
      rw [(L151 hT b).2 ⟨hb0, hb1⟩, (L157 hT b hb0 hb1).1]; rfl
    have d1 : decide (sg T a < sg T b) = !decide (sg T a ≥ sg T b) := by rw [Bool.eq_iff_iff]; simp
    have d2 : decide (sg T a ≤ sg T b) = !decide (sg T a > sg T b) := by rw [Bool.eq_iff_iff]; simp
    rw [k3, k4] at k5
    rw [e1, e2, C.1, C.2.1, C.2.2.1, C.2.2.2.1, C.2.2.2.2.1, C.2.2.2.2.2.1, C.2.2.2.2.2.2.1, C.2.2.2.2.2.2.2.1, C.2.2.2.2.2.2.2.2.1, C.2.2.2.2.2.2.2.2.2.1, k1, k2, k3, k4, k5, i1, i2, d1, d2, (L151 hT a).2 ⟨ha0, ha1⟩, (L151 hT b).2 ⟨hb0, hb1⟩]
    simp

theorem rows (c v z n : Bool) : ∀ k : Nat, k < 16 → hasRow [Kd.bool] (w68_0_0 70 [] (Gf c v z n) 0) k 0 = true := by
  cases c <;> cases v <;> cases z <;> cases n <;> decide +kernel
theorem sz8 {s T : Int} (h : Sz s T) : decide ((0 : Int) ≤ IntKind.wrap IntKind.i64 ((8 : Int) * s)) = true := by
  rcases size_iff.1 h.e4 with rfl | rfl <;> decide
theorem okL (x0 : List Row) (h0 : bytesOk x0 = true) : ∃ ok, q8 [.one (.imm true 1 x0)] [] = some ((SV.one (T.lit (Value.bool (g8_0 x0))), []), ok) ∧ ok = true := by
  refine ⟨_, rfl, ?_⟩
  rw [h0]
  generalize g67_0 x0 = s
  generalize g67_1 x0 = a
  generalize g67_2 x0 = b
  have c8 : (decide ((0 : Int) ≤ IntKind.wrap IntKind.i64 ((8 : Int) * s)) || bif !g151_0 s a then true else !g151_0 s b) = true := by
    cases h : g198_0 s
    · have : g151_0 s a = false := by unfold g151_0; rw [h]; rfl
      rw [this]; simp
    · obtain ⟨T, hT⟩ := sz_of h
      rw [sz8 hT]; rfl
  rw [c8, ok_eq]
  cases hok : g68_0 s a b
  · have h1 : g68_1 s a b = [] := by
      have : g97_1 s 0 a b = false := hok
      unfold g68_1; rw [this]; rfl
    have h2 : g69_1 s a b = [] := by
      have : g153_0 s 0 a b = false := by have := ok_eq s a b; rw [hok] at this; exact this
      unfold g69_1; rw [this]; rfl
    have h3 : g70_0 false [] false [] = true := by decide +kernel
    have h4 : Option.isSome (L70_0 70 false [] false [] 0 0) = true := by decide +kernel
    rw [h1, h2, h3]
    simp [h4]
  · obtain ⟨T, c, v, z, n, hT, ha0, ha1, hb0, hb1, e1, e2, k1, k2, k3, k4, k5⟩ := good hok
    have C := conds c v z n
    have R := rows c v z n
    have c70 := C.2.2.2.2.2.2.2.2.2.2
    have l16 := C.2.2.2.2.2.2.2.2.1
    rw [e1, e2, c70, R 0 (by decide), R 2 (by decide), R 4 (by decide), R 6 (by decide), R 12 (by decide), R 13 (by decide), R 14 (by decide), R 15 (by decide), l16]
    rfl
end Go.Proofs.YtckjibiolfapiaaCompared
