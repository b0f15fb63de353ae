/- Rotates: the plain law. -/
import Derived.Test.YtckjibiolfapiaaZqRotatesQ
import Derived.Test.YtckjibiolfapiaaZqList
set_option linter.unusedVariables false
set_option linter.unusedSimpArgs false
namespace Go.Proofs.YtckjibiolfapiaaRotates
open Go Go.Zq
set_option maxHeartbeats 4000000
set_option maxRecDepth 100000

theorem mask (T : Int) (hT : T = 256 ∨ T = 65536) (z : Int) : IntKind.wrap IntKind.i64 ↑(BitVec.toNat (BitVec.ofInt (64 : Nat) z &&& BitVec.ofInt (64 : Nat) (IntKind.wrap IntKind.i64 (T - (1 : Int))))) = z % T := by
  rw [BitVec.toNat_and, BitVec.toNat_ofInt, BitVec.toNat_ofInt]
  rcases hT with rfl | rfl
  · have h : ((IntKind.wrap IntKind.i64 (256 - 1)) % ((2 ^ 64 : Nat) : Int)).toNat = 2 ^ 8 - 1 := by decide
    rw [h, Nat.and_two_pow_sub_one_eq_mod, IntKind.wrap_i64]
    omega
  · have h : ((IntKind.wrap IntKind.i64 (65536 - 1)) % ((2 ^ 64 : Nat) : Int)).toNat = 2 ^ 16 - 1 := by decide
    rw [h, Nat.and_two_pow_sub_one_eq_mod, IntKind.wrap_i64]
    omega

/-- What a size makes of things. -/
structure Sz (s T : Int) : Prop where
  t : T = 256 ∨ T = 65536
  e1 : g218_0 s = T
  e2 : g220_0 s = T
  e4 : g198_0 s = true
  p : (2 : Int) ^ min (Int.toNat (IntKind.wrap IntKind.i64 (IntKind.wrap IntKind.i64 ((8 : Int) * s) - (1 : Int)))) (64 : Nat) = T / 2
theorem sz_of {s : Int} (h : g198_0 s = true) : ∃ T, Sz s T := by
  rcases size_iff.1 h with rfl | rfl
  · exact ⟨256, .inl rfl, by decide +kernel, by decide +kernel, rfl, by decide +kernel⟩
  · exact ⟨65536, .inr rfl, by decide +kernel, by decide +kernel, rfl, by decide +kernel⟩

theorem L142 (v a b : Int) : g142_0 v a b = true ↔ a ≤ v ∧ v ≤ b := by
  simp [g142_0]
theorem L151 {s T : Int} (h : Sz s T) (a : Int) : g151_0 s a = true ↔ 0 ≤ a ∧ a < T := by
  unfold g151_0
  rw [h.e4, h.e1, cond_true, L142]
  rcases h.t with rfl | rfl
  · have : IntKind.wrap IntKind.i64 (256 - 1) = 255 := by decide
    rw [this]; omega
  · have : IntKind.wrap IntKind.i64 (65536 - 1) = 65535 := by decide
    rw [this]; omega
theorem L181 (s a : Int) : g181_0 s a = g151_0 s a := by
  unfold g181_0 g151_0
  have : g201_0 s = g198_0 s := rfl
  rw [this]
  cases hs : g198_0 s
  · simp only [cond_false]
  · obtain ⟨T, h⟩ := sz_of hs
    rw [h.e1, h.e2]
    rfl
theorem L174 (k s f v : Int) : g174_0 k s f v = g172_0 k s f v := by
  unfold g174_0 g172_0
  have e1 : g179_0 k = g142_0 k 0 7 := rfl
  have e2 : g185_0 f = g183_0 f := rfl
  rw [L181, e1, e2]
  cases g142_0 k 0 7 <;> cases g183_0 f <;> cases g151_0 s v <;> rfl
/-- What is known of good arguments. -/
structure Ok (k s f v T : Int) : Prop where
  sz : Sz s T
  k0 : 0 ≤ k
  k1 : k ≤ 7
  f0 : 0 ≤ f
  f1 : f < 32
  v0 : 0 ≤ v
  v1 : v < T
theorem ok_of {k s f v : Int} (h : g172_0 k s f v = true) : ∃ T, Ok k s f v T := by
  unfold g172_0 at h
  have hk : g142_0 k 0 7 = true := by cases e : g142_0 k 0 7 <;> simp_all
  have hf : g183_0 f = true := by cases e : g183_0 f <;> simp_all
  have hv : g151_0 s v = true := by cases e : g151_0 s v <;> simp_all
  have hs : g198_0 s = true := by
    have ha := hv
    unfold g151_0 at ha
    cases e : g198_0 s
    · rw [e] at ha; simp at ha
    · rfl
  obtain ⟨T, hT⟩ := sz_of hs
  have v1 := (L151 hT v).1 hv
  have k1 := (L142 k 0 7).1 hk
  have f1 := (L142 f 0 31).1 hf
  exact ⟨T, hT, k1.1, k1.2, f1.1, by omega, v1.1, v1.2⟩
theorem Ok.ok {k s f v T : Int} (h : Ok k s f v T) : g172_0 k s f v = true := by
  unfold g172_0
  rw [(L142 k 0 7).2 ⟨h.k0, h.k1⟩, (L151 h.sz v).2 ⟨h.v0, h.v1⟩]
  have : g183_0 f = true := (L142 f 0 31).2 ⟨h.f0, by have := h.f1; omega⟩
  rw [this]; rfl

def OR (a b : Int) : Int := IntKind.wrap IntKind.i64 (↑(BitVec.toNat (BitVec.ofInt (64 : Nat) a ||| BitVec.ofInt (64 : Nat) b)) : Int)
def AND (a b : Int) : Int := IntKind.wrap IntKind.i64 (↑(BitVec.toNat (BitVec.ofInt (64 : Nat) a &&& BitVec.ofInt (64 : Nat) b)) : Int)
def Bb (b : Bool) : Int := bif b then 1 else 0
def evk (k : Int) : Bool := k == 0 || k == 2 || k == 4 || k == 6
def rot (k : Int) : Bool := k == 4 || k == 5
def HF (s : Int) : Int := IntKind.wrap IntKind.i64 (Int.tdiv (g220_0 s) (2 : Int))
def PP (s : Int) : Int := (2 : Int) ^ min (Int.toNat (IntKind.wrap IntKind.i64 (IntKind.wrap IntKind.i64 ((8 : Int) * s) - (1 : Int)))) (64 : Nat)
def FE (k s v : Int) : Int := bif evk k then Int.fdiv v (PP s) else AND v 1
def IN (k s f v : Int) : Int := bif k == 1 then Int.fdiv v (PP s) else bif rot k then FE k s v else bif k == 6 || k == 7 then IntKind.wrap IntKind.i64 (Int.tdiv f 16) else 0
def FE2 (k s v : Int) : Int := bif evk k then g168_0 (decide (v ≥ HF s)) 1 else AND v 1
def IN2 (k s f v : Int) : Int := bif k == 1 then g168_0 (decide (v ≥ HF s)) 1 else bif rot k then FE2 k s v else bif k == 6 || k == 7 then g168_0 (AND f 16 != 0) 1 else 0
theorem hr176_0 (k s f v : Int) (h0 : 0 ≤ k) (h1 : k ≤ 7) : g176_0 k s f v = bif evk k then OR (AND (IntKind.wrap IntKind.i64 (v * 2)) (IntKind.wrap IntKind.i64 (g218_0 s - 1))) (IN k s f v) else OR (Int.fdiv v 2) (IntKind.wrap IntKind.i64 (IN k s f v * PP s)) := by
  have hk : k = 0 ∨ k = 1 ∨ k = 2 ∨ k = 3 ∨ k = 4 ∨ k = 5 ∨ k = 6 ∨ k = 7 := by omega
  rcases hk with rfl | rfl | rfl | rfl | rfl | rfl | rfl | rfl <;> rfl
theorem hr176_1 (k s f v : Int) (h0 : 0 ≤ k) (h1 : k ≤ 7) : g176_1 k s f v = OR (OR (OR (IntKind.wrap IntKind.i64 (FE k s v * 1)) (bif rot k then AND f 16 else IntKind.wrap IntKind.i64 (FE k s v * 16))) (g224_0 (bif k == 0 then Int.fdiv (g176_0 k s f v) (PP s) != Int.fdiv v (PP s) else false) 2)) (g225_0 s (g176_0 k s f v)) := by
  have hk : k = 0 ∨ k = 1 ∨ k = 2 ∨ k = 3 ∨ k = 4 ∨ k = 5 ∨ k = 6 ∨ k = 7 := by omega
  rcases hk with rfl | rfl | rfl | rfl | rfl | rfl | rfl | rfl <;> rfl
theorem hr177_0 (k s f v : Int) (h0 : 0 ≤ k) (h1 : k ≤ 7) : g177_0 k s f v = bif evk k then OR (AND (IntKind.wrap IntKind.i64 (v * 2)) (IntKind.wrap IntKind.i64 (IntKind.wrap IntKind.i64 (2 * HF s) - 1))) (IN2 k s f v) else OR (Int.fdiv v 2) (IntKind.wrap IntKind.i64 (IN2 k s f v * HF s)) := by
  have hk : k = 0 ∨ k = 1 ∨ k = 2 ∨ k = 3 ∨ k = 4 ∨ k = 5 ∨ k = 6 ∨ k = 7 := by omega
  rcases hk with rfl | rfl | rfl | rfl | rfl | rfl | rfl | rfl <;> rfl
theorem hr177_1 (k s f v : Int) (h0 : 0 ≤ k) (h1 : k ≤ 7) : g177_1 k s f v = OR (OR (OR (FE2 k s v) (g221_0 s (g177_0 k s f v))) (g168_0 (bif k == 0 then g168_0 (decide (v ≥ HF s)) 1 != g168_0 (decide (g177_0 k s f v ≥ HF s)) 1 else false) 2)) (bif rot k then AND f 16 else IntKind.wrap IntKind.i64 (FE2 k s v * 16)) := by
  have hk : k = 0 ∨ k = 1 ∨ k = 2 ∨ k = 3 ∨ k = 4 ∨ k = 5 ∨ k = 6 ∨ k = 7 := by omega
  rcases hk with rfl | rfl | rfl | rfl | rfl | rfl | rfl | rfl <;> rfl

def X (f : Int) : Bool := decide (f ≥ 16)
def fell (k T v : Int) : Bool := bif evk k then decide (v ≥ T / 2) else decide (v % 2 = 1)
def inb (k T : Int) (x : Bool) (v : Int) : Bool := bif k == 1 then decide (v ≥ T / 2) else bif rot k then fell k T v else bif k == 6 || k == 7 then x else false
def out (k T : Int) (x : Bool) (v : Int) : Int := bif evk k then (2 * v) % T + Bb (inb k T x v) else v / 2 + Bb (inb k T x v) * (T / 2)
def xn (k T : Int) (x : Bool) (v : Int) : Bool := bif rot k then x else fell k T v
def F5 (c x v z n : Bool) : Int := (bif c then 1 else 0) + (bif x then 16 else 0) + (bif v then 2 else 0) + (bif z then 4 else 0) + (bif n then 8 else 0)
def flg (k T : Int) (x : Bool) (v : Int) : Int := F5 (fell k T v) (xn k T x v) (k == 0 && (decide (out k T x v ≥ T / 2) != decide (v ≥ T / 2))) (out k T x v == 0) (decide (out k T x v ≥ T / 2))

theorem or_low (m : Int) (b : Bool) (h0 : 0 ≤ m) (h1 : m < 1000000) (h2 : m % 2 = 0) : OR m (Bb b) = m + Bb b := by
  unfold OR
  obtain ⟨a, rfl⟩ : ∃ a : Nat, m = ((2 ^ 1 * a : Nat) : Int) := ⟨(m / 2).toNat, by omega⟩
  rw [BitVec.toNat_or, BitVec.toNat_ofInt, BitVec.toNat_ofInt]
  have e1 : (((2 ^ 1 * a : Nat) : Int) % ((2 ^ 64 : Nat) : Int)).toNat = 2 ^ 1 * a := by omega
  cases b
  · have e2 : (Bb false % ((2 ^ 64 : Nat) : Int)).toNat = 0 := rfl
    rw [e1, e2, ← Nat.two_pow_add_eq_or_of_lt (by decide), IntKind.wrap_i64]
    show _ = _ + (0 : Int); omega
  · have e2 : (Bb true % ((2 ^ 64 : Nat) : Int)).toNat = 1 := rfl
    rw [e1, e2, ← Nat.two_pow_add_eq_or_of_lt (by decide), IntKind.wrap_i64]
    show _ = _ + (1 : Int); omega
theorem or_high {T : Int} (hT : T = 256 ∨ T = 65536) (m : Int) (b : Bool) (h0 : 0 ≤ m) (h1 : m < T / 2) : OR m (IntKind.wrap IntKind.i64 (Bb b * (T / 2))) = m + Bb b * (T / 2) := by
  unfold OR
  rw [BitVec.toNat_or, BitVec.toNat_ofInt, BitVec.toNat_ofInt, Nat.or_comm]
  obtain ⟨a, rfl⟩ : ∃ a : Nat, m = (a : Int) := ⟨m.toNat, by omega⟩
  have e1 : ((a : Int) % ((2 ^ 64 : Nat) : Int)).toNat = a := by rcases hT with rfl | rfl <;> omega
  rw [e1]
  rcases hT with rfl | rfl
  · cases b
    · have e2 : ((IntKind.wrap IntKind.i64 (Bb false * (256 / 2))) % ((2 ^ 64 : Nat) : Int)).toNat = 2 ^ 7 * 0 := by decide
      rw [e2, ← Nat.two_pow_add_eq_or_of_lt (by omega), IntKind.wrap_i64]
      show _ = _ + (0 : Int); omega
    · have e2 : ((IntKind.wrap IntKind.i64 (Bb true * (256 / 2))) % ((2 ^ 64 : Nat) : Int)).toNat = 2 ^ 7 * 1 := by decide
      rw [e2, ← Nat.two_pow_add_eq_or_of_lt (by omega), IntKind.wrap_i64]
      show _ = _ + (128 : Int); omega
  · cases b
    · have e2 : ((IntKind.wrap IntKind.i64 (Bb false * (65536 / 2))) % ((2 ^ 64 : Nat) : Int)).toNat = 2 ^ 15 * 0 := by decide
      rw [e2, ← Nat.two_pow_add_eq_or_of_lt (by omega), IntKind.wrap_i64]
      show _ = _ + (0 : Int); omega
    · have e2 : ((IntKind.wrap IntKind.i64 (Bb true * (65536 / 2))) % ((2 ^ 64 : Nat) : Int)).toNat = 2 ^ 15 * 1 := by decide
      rw [e2, ← Nat.two_pow_add_eq_or_of_lt (by omega), IntKind.wrap_i64]
      show _ = _ + (32768 : Int); omega
theorem and_1 (v : Int) : AND v 1 = Bb (decide (v % 2 = 1)) := by
  unfold AND Bb
  rw [BitVec.toNat_and, BitVec.toNat_ofInt, BitVec.toNat_ofInt]
  have h : ((1 : Int) % ((2 ^ 64 : Nat) : Int)).toNat = 2 ^ 1 - 1 := by decide
  rw [h, Nat.and_two_pow_sub_one_eq_mod, IntKind.wrap_i64]
  by_cases e : v % 2 = 1
  · rw [decide_eq_true e]; simp only [cond_true]; omega
  · rw [decide_eq_false e]; simp only [cond_false]; omega
theorem flags_x : ∀ f : Nat, f < 32 → AND (f : Int) 16 = (bif X f then 16 else 0) ∧ IntKind.wrap IntKind.i64 (Int.tdiv (f : Int) 16) = Bb (X f) ∧ g168_0 (AND (f : Int) 16 != 0) 1 = Bb (X f) ∧ Int.fdiv (f : Int) 16 = Bb (X f) := by decide +kernel
theorem fdiv_half {T : Int} (hT : T = 256 ∨ T = 65536) (v : Int) (h0 : 0 ≤ v) (h1 : v < T) : Int.fdiv v (T / 2) = Bb (decide (v ≥ T / 2)) := by
  unfold Bb
  by_cases e : v ≥ T / 2
  · rw [decide_eq_true e]; simp only [cond_true]
    rcases hT with rfl | rfl <;> (rw [Int.fdiv_eq_ediv_of_nonneg _ (by decide)]; omega)
  · rw [decide_eq_false e]; simp only [cond_false]
    rcases hT with rfl | rfl <;> (rw [Int.fdiv_eq_ediv_of_nonneg _ (by decide)]; omega)
theorem hf_of {s T : Int} (h : Sz s T) : HF s = T / 2 := by
  unfold HF
  rw [h.e2]
  rcases h.t with rfl | rfl <;> decide
theorem b_range (b : Bool) : 0 ≤ Bb b ∧ Bb b ≤ 1 := by cases b <;> decide
theorem out_range {T : Int} (hT : T = 256 ∨ T = 65536) (k : Int) (x : Bool) (v : Int) (h0 : 0 ≤ v) (h1 : v < T) : 0 ≤ out k T x v ∧ out k T x v < T := by
  unfold out
  have := b_range (inb k T x v)
  cases evk k
  · simp only [cond_false]
    rcases hT with rfl | rfl <;> omega
  · simp only [cond_true]
    rcases hT with rfl | rfl <;> omega
theorem flg_range (k T : Int) (x : Bool) (v : Int) : 0 ≤ flg k T x v ∧ flg k T x v < 32 ∧ X (flg k T x v) = xn k T x v := by
  unfold flg
  generalize fell k T v = a
  generalize xn k T x v = b
  generalize (k == 0 && (decide (out k T x v ≥ T / 2) != decide (v ≥ T / 2))) = c
  generalize (out k T x v == 0) = d
  generalize decide (out k T x v ≥ T / 2) = e
  cases a <;> cases b <;> cases c <;> cases d <;> cases e <;> decide
/-- One place. -/
theorem once {k s f v T : Int} (h : Ok k s f v T) : g176_0 k s f v = out k T (X f) v ∧ g177_0 k s f v = out k T (X f) v ∧ g176_1 k s f v = flg k T (X f) v ∧ g177_1 k s f v = flg k T (X f) v := by
  have hP : PP s = T / 2 := h.sz.p
  have hH := hf_of h.sz
  have hfx := flags_x f.toNat (by have := h.f1; have := h.f0; omega)
  have hft : ((f.toNat : Nat) : Int) = f := by have := h.f0; omega
  rw [hft] at hfx
  have fd := fdiv_half h.sz.t v h.v0 h.v1
  have hFE : FE k s v = Bb (fell k T v) := by
    unfold FE fell
    rw [hP, fd, and_1]
    cases evk k <;> rfl
  have hFE2 : FE2 k s v = Bb (fell k T v) := by
    unfold FE2 fell
    rw [hH, and_1]
    cases evk k <;> rfl
  have hIN : IN k s f v = Bb (inb k T (X f) v) := by
    unfold IN inb
    rw [hFE, hP, fd, hfx.2.1]
    cases k == 1 <;> cases rot k <;> cases (k == 6 || k == 7) <;> rfl
  have hIN2 : IN2 k s f v = Bb (inb k T (X f) v) := by
    unfold IN2 inb
    rw [hFE2, hH, hfx.2.2.1]
    cases k == 1 <;> cases rot k <;> cases (k == 6 || k == 7) <;> rfl
  have v0 := h.v0
  have v1 := h.v1
  have hm : AND (IntKind.wrap IntKind.i64 (v * 2)) (IntKind.wrap IntKind.i64 (T - 1)) = (2 * v) % T := by
    unfold AND
    rw [mask T h.sz.t, IntKind.wrap_i64]
    rcases h.sz.t with rfl | rfl <;> omega
  have hd : Int.fdiv v 2 = v / 2 := Int.fdiv_eq_ediv_of_nonneg _ (by decide)
  have hl : OR ((2 * v) % T) (Bb (inb k T (X f) v)) = (2 * v) % T + Bb (inb k T (X f) v) :=
    or_low _ _ (by rcases h.sz.t with rfl | rfl <;> omega) (by rcases h.sz.t with rfl | rfl <;> omega) (by rcases h.sz.t with rfl | rfl <;> omega)
  have hh : OR (v / 2) (IntKind.wrap IntKind.i64 (Bb (inb k T (X f) v) * (T / 2))) = v / 2 + Bb (inb k T (X f) v) * (T / 2) :=
    or_high h.sz.t _ _ (by omega) (by rcases h.sz.t with rfl | rfl <;> omega)
  have c1 : g176_0 k s f v = out k T (X f) v := by
    rw [hr176_0 k s f v h.k0 h.k1, h.sz.e1, hm, hIN, hP, hd, hl, hh]; rfl
  have c2 : g177_0 k s f v = out k T (X f) v := by
    have : IntKind.wrap IntKind.i64 (IntKind.wrap IntKind.i64 (2 * (T / 2)) - 1) = IntKind.wrap IntKind.i64 (T - 1) := by
      rcases h.sz.t with rfl | rfl <;> decide
    rw [hr177_0 k s f v h.k0 h.k1, hH, this, hm, hIN2, hd, hl, hh]; rfl
  have o := out_range h.sz.t k (X f) v v0 v1
  have fo := fdiv_half h.sz.t (out k T (X f) v) o.1 o.2
  have hB : ∀ a b : Bool, (Bb a != Bb b) = (a != b) := by decide
  refine ⟨c1, c2, ?_, ?_⟩
  · rw [hr176_1 k s f v h.k0 h.k1, c1, hFE, hP, hfx.1, fo, fd, hB]
    unfold g225_0
    have : IntKind.wrap IntKind.i64 (Int.tdiv (g218_0 s) 2) = T / 2 := by rw [h.sz.e1]; rcases h.sz.t with rfl | rfl <;> decide
    rw [this]
    unfold flg xn
    generalize fell k T v = a
    generalize rot k = r
    generalize X f = x
    generalize (decide (out k T x v ≥ T / 2) != decide (v ≥ T / 2)) = c
    generalize (out k T x v == 0) = d
    generalize decide (out k T x v ≥ T / 2) = e
    generalize (k == 0) = k0
    cases a <;> cases r <;> cases x <;> cases c <;> cases d <;> cases e <;> cases k0 <;> decide
  · rw [hr177_1 k s f v h.k0 h.k1, c2, hFE2, hH, hfx.1]
    unfold g221_0
    have : IntKind.wrap IntKind.i64 (Int.tdiv (g220_0 s) 2) = T / 2 := by rw [h.sz.e2]; rcases h.sz.t with rfl | rfl <;> decide
    rw [this]
    unfold flg xn
    generalize fell k T v = a
    generalize rot k = r
    generalize X f = x
    generalize decide (v ≥ T / 2) = c
    generalize (out k T x v == 0) = d
    generalize decide (out k T x v ≥ T / 2) = e
    generalize (k == 0) = k0
    cases a <;> cases r <;> cases x <;> cases c <;> cases d <;> cases e <;> cases k0 <;> decide
theorem once_ok {k s f v T : Int} (h : Ok k s f v T) : Ok k s (flg k T (X f) v) (out k T (X f) v) T := by
  have o := out_range h.sz.t k (X f) v h.v0 h.v1
  have g := flg_range k T (X f) v
  exact ⟨h.sz, h.k0, h.k1, g.1, g.2.1, o.1, o.2⟩

def it {α : Type} (f : α → α) : Nat → α → α
  | 0, p => p
  | n + 1, p => it f n (f p)
theorem it_succ {α : Type} (f : α → α) : ∀ (n : Nat) (p : α), it f (n + 1) p = f (it f n p)
  | 0, _ => rfl
  | n + 1, p => it_succ f n (f p)
theorem it_add {α : Type} (f : α → α) (a : Nat) : ∀ (b : Nat) (p : α), it f (a + b) p = it f b (it f a p)
  | 0, _ => rfl
  | b + 1, p => by rw [it_succ f b (it f a p), ← it_add f a b p]; exact it_succ f (a + b) p
/-- What a round of the loop makes of flags, value and overflow. -/
def st (k T : Int) (p : Int × Int × Int) : Int × Int × Int := (flg k T (X p.1) p.2.1, out k T (X p.1) p.2.1, OR p.2.2 (AND (flg k T (X p.1) p.2.1) 2))
theorem over (k T : Int) (x : Bool) (v o : Int) (ho : o = 0 ∨ o = 2) : OR o (AND (flg k T x v) 2) = 0 ∨ OR o (AND (flg k T x v) 2) = 2 := by
  unfold flg
  generalize fell k T v = a
  generalize xn k T x v = b
  generalize (k == 0 && (decide (out k T x v ≥ T / 2) != decide (v ≥ T / 2))) = c
  generalize (out k T x v == 0) = d
  generalize decide (out k T x v ≥ T / 2) = e
  rcases ho with rfl | rfl <;> cases a <;> cases b <;> cases c <;> cases d <;> cases e <;> decide
theorem run : ∀ (c n : Nat) {k s f v o T : Int}, c < n → c ≤ 100 → Ok k s f v T → (o = 0 ∨ o = 2) →
    ∃ f' v' o', it (st k T) c (f, v, o) = (f', v', o') ∧ Ok k s f' v' T ∧ (o' = 0 ∨ o' = 2) ∧ L173_0 n k s f v c o = some (k, s, f', v', 0, o') ∧ L175_0 n k s f v c o = some (k, s, f', v', 0, o')
  | 0, n + 1, k, s, f, v, o, T, hn, _, h, ho => ⟨f, v, o, rfl, h, ho, by simp [L173_0, y173_0, z173_0], by simp [L175_0, y175_0, z175_0]⟩
  | c + 1, n + 1, k, s, f, v, o, T, hn, hc, h, ho => by
    have O := once h
    have h2 := once_ok h
    have ho2 := over k T (X f) v o ho
    obtain ⟨f', v', o', e, a, b, e1, e2⟩ := run c n (by omega) (by omega) h2 ho2
    have hs := size_pos h.sz.e4
    have hs2 : 0 ≤ IntKind.wrap IntKind.i64 (IntKind.wrap IntKind.i64 (8 * s) - 1) := by
      rcases size_iff.1 h.sz.e4 with rfl | rfl <;> decide
    have hy : y173_0 k s f v ((c + 1 : Nat) : Int) o = true := by
      unfold y173_0
      rw [decide_eq_true hs, decide_eq_true hs2]; rfl
    have hz : z173_0 k s f v ((c + 1 : Nat) : Int) o = false := by
      unfold z173_0
      have : decide (((c + 1 : Nat) : Int) > 0) = true := decide_eq_true (by omega)
      rw [this]; rfl
    have hz2 : z175_0 k s f v ((c + 1 : Nat) : Int) o = false := hz
    have hw : IntKind.wrap IntKind.i64 (((c + 1 : Nat) : Int) - 1) = (c : Int) := by rw [IntKind.wrap_i64]; omega
    refine ⟨f', v', o', e, a, b, ?_, ?_⟩
    · rw [L173_0, hy, hz, cond_true, cond_false, O.1, O.2.2.1, hw]
      exact e1
    · rw [L175_0, hz2, cond_false, O.2.1, O.2.2.2, hw]
      exact e2
/-- So many places. -/
def sh (k T f v : Int) (c : Nat) : Int × Int :=
  if c = 0 then (v, OR (OR (bif X f then 16 else 0) (Bb (X f && decide (k ≥ 6)))) (F5 false false false (v == 0) (decide (v ≥ T / 2)))) else
    ((it (st k T) c (f, v, 0)).2.1, OR (it (st k T) c (f, v, 0)).1 (it (st k T) c (f, v, 0)).2.2)
theorem by_ {k s f v T : Int} (h : Ok k s f v T) (c : Nat) (hc : c ≤ 63) : g173_0 k s f v c = (sh k T f v c).1 ∧ g173_1 k s f v c = (sh k T f v c).2 ∧ g175_0 k s f v c = (sh k T f v c).1 ∧ g175_1 k s f v c = (sh k T f v c).2 ∧
    Option.isSome (L173_0 70 k s f v c 0) = true ∧ Option.isSome (L175_0 70 k s f v c 0) = true := by
  obtain ⟨f', v', o', e, a, b, e1, e2⟩ := run c 70 (by omega) (by omega) h (.inl rfl)
  have hfx := flags_x f.toNat (by have := h.f1; have := h.f0; omega)
  have hft : ((f.toNat : Nat) : Int) = f := by have := h.f0; omega
  rw [hft] at hfx
  rw [e1, e2]
  refine ⟨?_, ?_, ?_, ?_, rfl, rfl⟩
  · unfold g173_0 sh w173_0_3
    rw [e1, e]
    by_cases h0 : c = 0
    · subst h0; rfl
    · rw [if_neg h0, show (((c : Nat) : Int) == 0) = false from beq_eq_false_iff_ne.2 (by omega)]; rfl
  · unfold g173_1 sh w173_0_2 w173_0_5
    rw [e1, e]
    by_cases h0 : c = 0
    · subst h0
      have h1 : IntKind.wrap IntKind.i64 (↑(BitVec.toNat (BitVec.ofInt (64 : Nat) f &&& BitVec.ofInt (64 : Nat) (16 : Int))) : Int) = (bif X f then 16 else 0) := hfx.1
      have h2 : IntKind.wrap IntKind.i64 (Int.tdiv (g218_0 s) 2) = T / 2 := by rw [h.sz.e1]; rcases h.sz.t with rfl | rfl <;> decide
      unfold g225_0
      rw [h1, h2]
      rw [show (((0 : Nat) : Int) == 0) = true from rfl, cond_true]
      simp only [if_true]
      generalize X f = x
      generalize (v == 0) = d
      generalize decide (v ≥ T / 2) = e
      generalize decide (k ≥ 6) = k6
      cases x <;> cases d <;> cases e <;> cases k6 <;> decide
    · rw [if_neg h0, show (((c : Nat) : Int) == 0) = false from beq_eq_false_iff_ne.2 (by omega)]; rfl
  · unfold g175_0 sh w175_0_3
    rw [e2, e]
    by_cases h0 : c = 0
    · subst h0; rfl
    · rw [if_neg h0, show (((c : Nat) : Int) == 0) = false from beq_eq_false_iff_ne.2 (by omega)]; rfl
  · unfold g175_1 sh w175_0_2 w175_0_5
    rw [e2, e]
    by_cases h0 : c = 0
    · subst h0
      have h1 : IntKind.wrap IntKind.i64 (↑(BitVec.toNat (BitVec.ofInt (64 : Nat) f &&& BitVec.ofInt (64 : Nat) (16 : Int))) : Int) = (bif X f then 16 else 0) := hfx.1
      have h2 : IntKind.wrap IntKind.i64 (Int.tdiv (g220_0 s) 2) = T / 2 := by rw [h.sz.e2]; rcases h.sz.t with rfl | rfl <;> decide
      unfold g221_0
      rw [h1, h2]
      rw [show (((0 : Nat) : Int) == 0) = true from rfl, cond_true]
      simp only [if_true]
      generalize X f = x
      generalize (v == 0) = d
      generalize decide (v ≥ T / 2) = e
      generalize decide (k ≥ 6) = k6
      cases x <;> cases d <;> cases e <;> cases k6 <;> decide
    · rw [if_neg h0, show (((c : Nat) : Int) == 0) = false from beq_eq_false_iff_ne.2 (by omega)]; rfl
theorem or_x (f o : Int) (h0 : 0 ≤ f) (h1 : f < 32) (ho : o = 0 ∨ o = 2) : 0 ≤ OR f o ∧ OR f o < 32 ∧ X (OR f o) = X f := by
  have : ∀ n : Nat, n < 32 → (0 ≤ OR (n : Int) 0 ∧ OR (n : Int) 0 < 32 ∧ X (OR (n : Int) 0) = X n) ∧ (0 ≤ OR (n : Int) 2 ∧ OR (n : Int) 2 < 32 ∧ X (OR (n : Int) 2) = X n) := by decide +kernel
  have h := this f.toNat (by omega)
  rw [show ((f.toNat : Nat) : Int) = f by omega] at h
  rcases ho with rfl | rfl
  · exact h.1
  · exact h.2
/-- The value and X alone. -/
def step (k T : Int) (p : Bool × Int) : Bool × Int := (xn k T p.1 p.2, out k T p.1 p.2)
theorem it_step (k T : Int) : ∀ (c : Nat) (f v o : Int), it (step k T) c (X f, v) = (X (it (st k T) c (f, v, o)).1, (it (st k T) c (f, v, o)).2.1)
  | 0, _, _, _ => rfl
  | c + 1, f, v, o => by
    have := it_step k T c (flg k T (X f) v) (out k T (X f) v) (OR o (AND (flg k T (X f) v) 2))
    rw [(flg_range k T (X f) v).2.2] at this
    exact this
theorem sh_step {k s f v T : Int} (h : Ok k s f v T) (c : Nat) (hc : c ≤ 63) : Ok k s (sh k T f v c).2 (sh k T f v c).1 T ∧ it (step k T) c (X f, v) = (X (sh k T f v c).2, (sh k T f v c).1) := by
  by_cases h0 : c = 0
  · subst h0
    have : ∀ x k6 d e : Bool, 0 ≤ OR (OR (bif x then 16 else 0) (Bb (x && k6))) (F5 false false false d e) ∧ OR (OR (bif x then 16 else 0) (Bb (x && k6))) (F5 false false false d e) < 32 ∧ X (OR (OR (bif x then 16 else 0) (Bb (x && k6))) (F5 false false false d e)) = x := by decide +kernel
    have := this (X f) (decide (k ≥ 6)) (v == 0) (decide (v ≥ T / 2))
    refine ⟨⟨h.sz, h.k0, h.k1, this.1, this.2.1, h.v0, h.v1⟩, ?_⟩
    exact congrArg (fun x => (x, v)) this.2.2.symm
  · obtain ⟨f', v', o', e, a, b, -, -⟩ := run c 70 (by omega) (by omega) h (.inl rfl)
    have i := it_step k T c f v 0
    rw [e] at i
    have q := or_x f' o' a.f0 a.f1 b
    unfold sh
    rw [if_neg h0, e]
    exact ⟨⟨h.sz, h.k0, h.k1, q.1, q.2.1, a.v0, a.v1⟩, by rw [i, q.2.2]⟩

/-- The number of ones. -/
def oc : Nat → Int → Int
  | 0, _ => 0
  | n + 1, v => v % 2 + oc n (v / 2)
theorem oc_range : ∀ (n : Nat) (v : Int), 0 ≤ oc n v ∧ oc n v ≤ n
  | 0, _ => ⟨Int.le_refl _, Int.le_refl _⟩
  | n + 1, v => by have := oc_range n (v / 2); simp only [oc]; omega
theorem oc_zero : ∀ n : Nat, oc n 0 = 0
  | 0 => rfl
  | n + 1 => by simp only [oc]; rw [show (0 : Int) / 2 = 0 from rfl, oc_zero n]; rfl
theorem half_lt {v : Int} {n : Nat} (h : v < 2 ^ (n + 1)) : v / 2 < 2 ^ n := by
  rw [Int.pow_succ] at h; omega
theorem and_mod (v : Int) : IntKind.wrap IntKind.i64 (↑(BitVec.toNat (BitVec.ofInt (64 : Nat) v &&& BitVec.ofInt (64 : Nat) (1 : Int))) : Int) = v % 2 := by
  have := and_1 v
  unfold AND at this
  rw [this]
  unfold Bb
  by_cases e : v % 2 = 1
  · rw [decide_eq_true e]; simp only [cond_true]; omega
  · rw [decide_eq_false e]; simp only [cond_false]; omega
theorem run60 : ∀ (n m : Nat) (v acc : Int), n < m → 0 ≤ v → v < 2 ^ n → 0 ≤ acc → acc + n < 1000 → L60_0 m v acc = some (0, acc + oc n v)
  | 0, m + 1, v, acc, _, h0, h1, _, _ => by
    have : v = 0 := by simp at h1; omega
    subst this
    simp [L60_0, y60_0, z60_0, oc]
  | n + 1, m + 1, v, acc, hm, h0, h1, a0, a1 => by
    by_cases hv : v = 0
    · subst hv
      rw [oc_zero]
      simp [L60_0, y60_0, z60_0]
    · have hz : z60_0 v acc = false := by
        unfold z60_0
        rw [decide_eq_true (show v > 0 by omega)]; rfl
      rw [L60_0, hz, and_mod]
      have hw : IntKind.wrap IntKind.i64 (acc + v % 2) = acc + v % 2 := by rw [IntKind.wrap_i64]; omega
      have hd : Int.fdiv v 2 = v / 2 := Int.fdiv_eq_ediv_of_nonneg _ (by decide)
      rw [hw, hd]
      simp only [y60_0, cond_true, cond_false, oc]
      have e := run60 n m (v / 2) (acc + v % 2) (by omega) (by omega) (half_lt h1) (by omega) (by omega)
      rw [e]; simp; omega
theorem same86 : ∀ (n : Nat) (v acc : Int), L86_0 n v acc = L60_0 n v acc
  | 0, _, _ => rfl
  | n + 1, v, acc => by
    rw [L86_0, L60_0, same86 n]; rfl
theorem oc_high : ∀ (n : Nat) (w b : Int), 0 ≤ w → w < 2 ^ n → 0 ≤ b → b ≤ 1 → oc (n + 1) (w + b * 2 ^ n) = oc n w + b
  | 0, w, b, h0, h1, b0, b1 => by
    have : w = 0 := by simp at h1; omega
    subst this
    simp only [oc]
    simp
    omega
  | n + 1, w, b, h0, h1, b0, b1 => by
    have e1 : (w + b * 2 ^ (n + 1)) % 2 = w % 2 := by rw [Int.pow_succ, ← Int.mul_assoc]; omega
    have e2 : (w + b * 2 ^ (n + 1)) / 2 = w / 2 + b * 2 ^ n := by rw [Int.pow_succ, ← Int.mul_assoc]; omega
    have ih := oc_high n (w / 2) b (by omega) (half_lt h1) b0 b1
    rw [oc, e1, e2, ih, oc]
    omega
/-- The bits, the other way round. -/
def rv : Nat → Int → Int
  | 0, _ => 0
  | n + 1, v => v % 2 * 2 ^ n + rv n (v / 2)
theorem pow_pos' (n : Nat) : (0 : Int) < 2 ^ n := Int.pow_pos (by decide)
theorem rv_range : ∀ (n : Nat) (v : Int), 0 ≤ rv n v ∧ rv n v < 2 ^ n
  | 0, _ => ⟨Int.le_refl _, by show (0 : Int) < 1; decide⟩
  | n + 1, v => by
    have ih := rv_range n (v / 2)
    have p := pow_pos' n
    have hb : v % 2 = 0 ∨ v % 2 = 1 := by omega
    simp only [rv]
    rw [Int.pow_succ]
    rcases hb with e | e <;> rw [e] <;> omega
theorem rv_high : ∀ (n : Nat) (w b : Int), 0 ≤ w → w < 2 ^ n → 0 ≤ b → b ≤ 1 → rv (n + 1) (w + b * 2 ^ n) = 2 * rv n w + b
  | 0, w, b, h0, h1, b0, b1 => by
    have : w = 0 := by simp at h1; omega
    subst this
    simp only [rv]
    simp
    omega
  | n + 1, w, b, h0, h1, b0, b1 => by
    have e1 : (w + b * 2 ^ (n + 1)) % 2 = w % 2 := by rw [Int.pow_succ, ← Int.mul_assoc]; omega
    have e2 : (w + b * 2 ^ (n + 1)) / 2 = w / 2 + b * 2 ^ n := by rw [Int.pow_succ, ← Int.mul_assoc]; omega
    have ih := rv_high n (w / 2) b (by omega) (half_lt h1) b0 b1
    rw [rv, e1, e2, ih, rv, Int.pow_succ]
    have hb : w % 2 = 0 ∨ w % 2 = 1 := by omega
    rcases hb with e | e <;> rw [e] <;> omega
theorem rv_rv : ∀ (n : Nat) (v : Int), 0 ≤ v → v < 2 ^ n → rv n (rv n v) = v
  | 0, v, h0, h1 => by simp at h1; simp only [rv]; omega
  | n + 1, v, h0, h1 => by
    have r := rv_range n (v / 2)
    have ih := rv_rv n (v / 2) (by omega) (half_lt h1)
    have e : rv (n + 1) v = rv n (v / 2) + v % 2 * 2 ^ n := by rw [rv]; omega
    rw [e, rv_high n _ _ r.1 r.2 (by omega) (by omega), ih]
    omega
theorem oc_rv : ∀ (n : Nat) (v : Int), oc n (rv n v) = oc n v
  | 0, v => rfl
  | n + 1, v => by
    have r := rv_range n (v / 2)
    have ih := oc_rv n (v / 2)
    have e : rv (n + 1) v = rv n (v / 2) + v % 2 * 2 ^ n := by rw [rv]; omega
    rw [e, oc_high n _ _ r.1 r.2 (by omega) (by omega), ih, oc]
    omega
theorem or_bit (m b : Int) (h0 : 0 ≤ m) (h1 : m < 500000) (b0 : 0 ≤ b) (b1 : b ≤ 1) : IntKind.wrap IntKind.i64 (↑(BitVec.toNat (BitVec.ofInt (64 : Nat) (IntKind.wrap IntKind.i64 (m * 2)) ||| BitVec.ofInt (64 : Nat) b)) : Int) = m * 2 + b := by
  have hw : IntKind.wrap IntKind.i64 (m * 2) = m * 2 := by rw [IntKind.wrap_i64]; omega
  have hb : b = Bb (decide (b = 1)) := by
    unfold Bb
    by_cases e : b = 1
    · rw [decide_eq_true e]; exact e
    · rw [decide_eq_false e]; simp only [cond_false]; omega
  have := or_low (m * 2) (decide (b = 1)) (by omega) (by omega) (by omega)
  rw [← hb] at this
  rw [hw]
  exact this
theorem grow (n : Nat) (acc b : Int) (a0 : 0 ≤ acc) (b0 : 0 ≤ b) (b1 : b ≤ 1) (h : (acc + 1) * 2 ^ (n + 1) ≤ 400000) : acc < 400000 ∧ (acc * 2 + b + 1) * 2 ^ n ≤ 400000 ∧ (acc * 2 + b) * 2 ^ n = acc * 2 ^ (n + 1) + b * 2 ^ n := by
  have p := pow_pos' n
  have c1 : acc * 2 * 2 ^ n = acc * (2 * 2 ^ n) := Int.mul_assoc _ _ _
  have a2 : (acc + 1) * 2 ^ (n + 1) = (acc * 2 + 2) * 2 ^ n := by rw [Int.pow_succ, Int.mul_comm (2 ^ n) 2]; simp only [Int.add_mul]; omega
  have a3 : (acc * 2 + 2) * 1 ≤ (acc * 2 + 2) * 2 ^ n := Int.mul_le_mul_of_nonneg_left (by omega) (by omega)
  have a4 : (acc * 2 + b + 1) * 2 ^ n ≤ (acc * 2 + 2) * 2 ^ n := Int.mul_le_mul_of_nonneg_right (by omega) (by omega)
  refine ⟨by omega, by omega, ?_⟩
  rw [Int.pow_succ, Int.mul_comm (2 ^ n) 2, Int.add_mul, c1]
theorem run84 : ∀ (n m : Nat) (v acc N i : Int), n < m → 0 ≤ v → n ≤ 16 → N = i + n → 0 ≤ i → N ≤ 100 → 0 ≤ acc → (acc + 1) * 2 ^ n ≤ 400000 → ∃ v', L84_0 m v acc N i = some (v', acc * 2 ^ n + rv n v, N, N)
  | 0, m + 1, v, acc, N, i, _, h0, _, hN, i0, i1, a0, a1 => by
    have e : i = N := by omega
    subst e
    refine ⟨v, ?_⟩
    simp [L84_0, y84_0, z84_0, rv]
  | n + 1, m + 1, v, acc, N, i, hm, h0, hn, hN, i0, i1, a0, a1 => by
    have hz : z84_0 v acc N i = false := by
      unfold z84_0
      rw [decide_eq_true (show i < N by omega)]; rfl
    obtain ⟨g1, g2, g3⟩ := grow n acc (v % 2) a0 (by omega) (by omega) a1
    rw [L84_0, hz, and_mod]
    have hb := or_bit acc (v % 2) a0 (by omega) (by omega) (by omega)
    have hw : IntKind.wrap IntKind.i64 (i + 1) = i + 1 := by rw [IntKind.wrap_i64]; omega
    have hd : Int.fdiv v 2 = v / 2 := Int.fdiv_eq_ediv_of_nonneg _ (by decide)
    rw [hb, hw, hd]
    simp only [y84_0, cond_true, cond_false]
    obtain ⟨v', e⟩ := run84 n m (v / 2) (acc * 2 + v % 2) N (i + 1) (by omega) (by omega) (by omega) (by omega) (by omega) i1 (by omega) g2
    refine ⟨v', ?_⟩
    rw [e, g3, rv, Int.add_assoc]
theorem run85 : ∀ (n m : Nat) (s v acc : Int) (i : Nat), n < m → 0 ≤ v → IntKind.wrap IntKind.i64 (8 * s) = ((i + n : Nat) : Int) → i + n ≤ 60 → 0 ≤ acc → (acc + 1) * 2 ^ n ≤ 400000 → L85_0 m s v acc i = some (s, v, acc * 2 ^ n + rv n (v / 2 ^ i), ((i + n : Nat) : Int))
  | 0, m + 1, s, v, acc, i, _, h0, hN, i1, a0, a1 => by
    have hz : z85_0 s v acc i = true := by
      unfold z85_0
      rw [hN, decide_eq_false (by omega)]; rfl
    rw [L85_0, hz]
    simp [y85_0, rv]
  | n + 1, m + 1, s, v, acc, i, hm, h0, hN, i1, a0, a1 => by
    have hz : z85_0 s v acc i = false := by
      unfold z85_0
      rw [hN, decide_eq_true (by omega)]; rfl
    have hu : IntKind.wrap IntKind.u64 (i : Int) = (i : Int) := by
      have : IntKind.u64.wrap (i : Int) = (i : Int) % 18446744073709551616 := by simp [IntKind.wrap, IntKind.bits, IntKind.signed]
      omega
    have hv0 : 0 ≤ v / 2 ^ i := Int.ediv_nonneg h0 (by have := pow_pos' i; omega)
    obtain ⟨g1, g2, g3⟩ := grow n acc (v / 2 ^ i % 2) a0 (by omega) (by omega) a1
    have hb := or_bit acc (v / 2 ^ i % 2) a0 (by omega) (by omega) (by omega)
    have hw : IntKind.wrap IntKind.i64 ((i : Int) + 1) = ((i + 1 : Nat) : Int) := by rw [IntKind.wrap_i64]; omega
    rw [L85_0, hz, hu, pow_at (by omega), bit_at v _ (by have := pow_pos' i; omega), hb, hw]
    simp only [y85_0, cond_true, cond_false]
    have hd : v / 2 ^ i / 2 = v / 2 ^ (i + 1) := by rw [Int.pow_succ, Int.ediv_ediv_of_nonneg (by have := pow_pos' i; omega)]
    rw [run85 n m s v (acc * 2 + v / 2 ^ i % 2) (i + 1) (by omega) h0 (by rw [hN]; congr 1; omega) (by omega) (by omega) g2, g3, rv, hd, Int.add_assoc]
    congr 4
    omega
/-- The width of a size. -/
theorem wid {s T : Int} (h : Sz s T) : ∃ n : Nat, n ≤ 16 ∧ IntKind.wrap IntKind.i64 (8 * s) = (n : Int) ∧ T = 2 ^ n ∧ 0 < n ∧ T / 2 = 2 ^ (n - 1) := by
  rcases size_iff.1 h.e4 with rfl | rfl
  · exact ⟨8, by decide, by decide, h.e1.symm.trans (by decide), by decide, by rw [h.e1.symm.trans (by decide : g218_0 1 = 256)]; decide⟩
  · exact ⟨16, by decide, by decide, h.e1.symm.trans (by decide), by decide, by rw [h.e1.symm.trans (by decide : g218_0 2 = 65536)]; decide⟩
theorem ones {s T v : Int} {n : Nat} (h : Sz s T) (hn : n ≤ 16) (hT : T = 2 ^ n) (h0 : 0 ≤ v) (h1 : v < T) : g60_0 s v = oc n v ∧ g86_0 s v = oc n v ∧ Option.isSome (L60_0 70 v 0) = true ∧ Option.isSome (L86_0 70 v 0) = true := by
  have e := run60 n 70 v 0 (by omega) h0 (by omega) (by decide) (by omega)
  have k := (L151 h v).2 ⟨h0, h1⟩
  have e6 : L86_0 70 v 0 = _ := (same86 70 v 0).trans e
  refine ⟨?_, ?_, by rw [e]; rfl, by rw [e6]; rfl⟩
  · unfold g60_0 w60_0_1
    rw [k, e]
    show 0 + oc n v = _; omega
  · unfold g86_0 w86_0_1
    rw [L181, k, e6]
    show 0 + oc n v = _; omega
theorem revs {s T v : Int} {n : Nat} (h : Sz s T) (hn : n ≤ 16) (hw : IntKind.wrap IntKind.i64 (8 * s) = (n : Int)) (h0 : 0 ≤ v) (h1 : v < T) : g84_0 s v = rv n v ∧ g85_0 s v = rv n v ∧ Option.isSome (L84_0 70 v 0 (IntKind.wrap IntKind.i64 (8 * s)) 0) = true ∧ Option.isSome (L85_0 70 s v 0 0) = true := by
  have hp : (0 + 1 : Int) * 2 ^ n ≤ 400000 := by
    have : (2 : Int) ^ n ≤ 2 ^ 16 := by exact_mod_cast Nat.pow_le_pow_right (by decide : 0 < 2) hn
    have e : (2 : Int) ^ 16 = 65536 := by decide
    omega
  obtain ⟨v', e4⟩ := run84 n 70 v 0 (n : Int) 0 (by omega) h0 hn (by omega) (by decide) (by omega) (by decide) hp
  have e5 := run85 n 70 s v 0 0 (by omega) h0 (by rw [hw, Nat.zero_add]) (by omega) (by decide) hp
  have k := (L151 h v).2 ⟨h0, h1⟩
  have e5' : L85_0 70 s v 0 0 = _ := e5
  rw [hw]
  refine ⟨?_, ?_, by rw [e4]; rfl, by rw [e5']; rfl⟩
  · unfold g84_0 w84_0_1
    rw [k, hw, e4]
    show 0 * 2 ^ n + rv n v = _; omega
  · unfold g85_0 w85_0_2
    rw [L181, k, e5']
    show 0 * 2 ^ n + rv n (v / 2 ^ 0) = _
    simp

/-- The kind that turns the other way. -/
def ko (k : Int) : Int := IntKind.wrap IntKind.i64 (↑(BitVec.toNat (BitVec.ofInt (64 : Nat) k ^^^ BitVec.ofInt (64 : Nat) (1 : Int))) : Int)
theorem b_dec (p : Prop) [Decidable p] : (p ∧ Bb (decide p) = 1) ∨ (¬ p ∧ Bb (decide p) = 0) := by
  by_cases h : p
  · exact .inl ⟨h, by rw [decide_eq_true h]; rfl⟩
  · exact .inr ⟨h, by rw [decide_eq_false h]; rfl⟩
theorem pair_eq {a b : Bool} {x y : Int} (h1 : a = b) (h2 : x = y) : (a, x) = (b, y) := by rw [h1, h2]
/-- One place there and back. -/
theorem back {T : Int} (hT : T = 256 ∨ T = 65536) {k : Int} (h4 : 4 ≤ k) (h7 : k ≤ 7) (x : Bool) (v : Int) (h0 : 0 ≤ v) (h1 : v < T) : step (ko k) T (step k T (x, v)) = (x, v) := by
  have hk : k = 4 ∨ k = 5 ∨ k = 6 ∨ k = 7 := by omega
  have kb : ∀ b : Bool, decide (Bb b = 1) = b := by decide
  have hx := b_range x
  have hxx : decide (Bb x = 1) = x := kb x
  rcases hk with rfl | rfl | rfl | rfl
  · have : ko 4 = 5 := by decide
    rw [this]
    refine pair_eq rfl ?_
    show (2 * v % T + Bb (decide (v ≥ T / 2))) / 2 + Bb (decide ((2 * v % T + Bb (decide (v ≥ T / 2))) % 2 = 1)) * (T / 2) = v
    rcases b_dec (v ≥ T / 2) with ⟨a1, a2⟩ | ⟨a1, a2⟩ <;> rw [a2] <;> rcases b_dec ((2 * v % T + Bb (decide (v ≥ T / 2))) % 2 = 1) with ⟨b1, b2⟩ | ⟨b1, b2⟩ <;> rw [a2] at b1 b2 <;> rw [b2] <;> rcases hT with rfl | rfl <;> omega
  · have : ko 5 = 4 := by decide
    rw [this]
    refine pair_eq rfl ?_
    show (2 * (v / 2 + Bb (decide (v % 2 = 1)) * (T / 2))) % T + Bb (decide (v / 2 + Bb (decide (v % 2 = 1)) * (T / 2) ≥ T / 2)) = v
    rcases b_dec (v % 2 = 1) with ⟨a1, a2⟩ | ⟨a1, a2⟩ <;> rw [a2] <;> rcases b_dec (v / 2 + Bb (decide (v % 2 = 1)) * (T / 2) ≥ T / 2) with ⟨b1, b2⟩ | ⟨b1, b2⟩ <;> rw [a2] at b1 b2 <;> rw [b2] <;> rcases hT with rfl | rfl <;> omega
  · have : ko 6 = 7 := by decide
    rw [this]
    refine pair_eq ?_ ?_
    · show decide ((2 * v % T + Bb x) % 2 = 1) = x
      cases x
      · exact decide_eq_false (by show ¬ (2 * v % T + 0) % 2 = 1; rcases hT with rfl | rfl <;> omega)
      · exact decide_eq_true (by show (2 * v % T + 1) % 2 = 1; rcases hT with rfl | rfl <;> omega)
    · show (2 * v % T + Bb x) / 2 + Bb (decide (v ≥ T / 2)) * (T / 2) = v
      rcases b_dec (v ≥ T / 2) with ⟨a1, a2⟩ | ⟨a1, a2⟩ <;> rw [a2] <;> rcases hT with rfl | rfl <;> omega
  · have : ko 7 = 6 := by decide
    rw [this]
    refine pair_eq ?_ ?_
    · show decide (v / 2 + Bb x * (T / 2) ≥ T / 2) = x
      cases x
      · exact decide_eq_false (by show ¬ v / 2 + 0 * (T / 2) ≥ T / 2; rcases hT with rfl | rfl <;> omega)
      · exact decide_eq_true (by show v / 2 + 1 * (T / 2) ≥ T / 2; rcases hT with rfl | rfl <;> omega)
    · show (2 * (v / 2 + Bb x * (T / 2))) % T + Bb (decide (v % 2 = 1)) = v
      rcases b_dec (v % 2 = 1) with ⟨a1, a2⟩ | ⟨a1, a2⟩ <;> rw [a2] <;> rcases hT with rfl | rfl <;> omega
theorem it_range {T : Int} (hT : T = 256 ∨ T = 65536) (k : Int) : ∀ (c : Nat) (p : Bool × Int), 0 ≤ p.2 → p.2 < T → 0 ≤ (it (step k T) c p).2 ∧ (it (step k T) c p).2 < T
  | 0, p, h0, h1 => ⟨h0, h1⟩
  | c + 1, p, h0, h1 => by
    have o := out_range hT k p.1 p.2 h0 h1
    exact it_range hT k c (step k T p) o.1 o.2
/-- There and back. -/
theorem there {T : Int} (hT : T = 256 ∨ T = 65536) {k : Int} (h4 : 4 ≤ k) (h7 : k ≤ 7) : ∀ (c : Nat) (p : Bool × Int), 0 ≤ p.2 → p.2 < T → it (step (ko k) T) c (it (step k T) c p) = p
  | 0, p, _, _ => rfl
  | c + 1, p, h0, h1 => by
    have r := it_range hT k c p h0 h1
    rw [it_succ (step k T) c p]
    show it (step (ko k) T) c (step (ko k) T (step k T ((it (step k T) c p).1, (it (step k T) c p).2))) = p
    rw [back hT h4 h7 _ _ r.1 r.2]
    exact there hT h4 h7 c p h0 h1
theorem ko_rot {k : Int} (h4 : 4 ≤ k) (h7 : k ≤ 7) : 4 ≤ ko k ∧ ko k ≤ 7 := by
  have hk : k = 4 ∨ k = 5 ∨ k = 6 ∨ k = 7 := by omega
  rcases hk with rfl | rfl | rfl | rfl <;> decide
/-- The ones stay. -/
theorem ones_step {n : Nat} {T : Int} (hT : T = 256 ∨ T = 65536) (hn : T = 2 ^ (n + 1)) {k : Int} (h4 : 4 ≤ k) (h7 : k ≤ 7) (x : Bool) (v : Int) (h0 : 0 ≤ v) (h1 : v < T) :
    oc (n + 1) (step k T (x, v)).2 + (bif rot k then 0 else Bb (step k T (x, v)).1) = oc (n + 1) v + (bif rot k then 0 else Bb x) := by
  have hk : k = 4 ∨ k = 5 ∨ k = 6 ∨ k = 7 := by omega
  have hp : T / 2 = 2 ^ n := by rw [hn, Int.pow_succ]; omega
  have hx := b_range x
  have low : ∀ w b : Int, 0 ≤ w → 0 ≤ b → b ≤ 1 → oc (n + 1) (2 * w + b) = oc n w + b := by
    intro w b w0 b0 b1
    rw [oc, show (2 * w + b) % 2 = b by omega, show (2 * w + b) / 2 = w by omega]; omega
  rcases hk with rfl | rfl | rfl | rfl
  · show oc (n + 1) (2 * v % T + Bb (decide (v ≥ T / 2))) + 0 = oc (n + 1) v + 0
    have hb := b_range (decide (v ≥ T / 2))
    have hw : 2 * v % T = 2 * (v - Bb (decide (v ≥ T / 2)) * 2 ^ n) := by
      rw [← hp]
      rcases b_dec (v ≥ T / 2) with ⟨a1, a2⟩ | ⟨a1, a2⟩ <;> rw [a2] <;> rcases hT with rfl | rfl <;> omega
    have r : 0 ≤ v - Bb (decide (v ≥ T / 2)) * 2 ^ n ∧ v - Bb (decide (v ≥ T / 2)) * 2 ^ n < 2 ^ n := by
      rw [← hp]
      rcases b_dec (v ≥ T / 2) with ⟨a1, a2⟩ | ⟨a1, a2⟩ <;> rw [a2] <;> rcases hT with rfl | rfl <;> omega
    have e := oc_high n _ _ r.1 r.2 hb.1 hb.2
    rw [show v - Bb (decide (v ≥ T / 2)) * 2 ^ n + Bb (decide (v ≥ T / 2)) * 2 ^ n = v by omega] at e
    rw [hw, low _ _ r.1 hb.1 hb.2, e]
  · show oc (n + 1) (v / 2 + Bb (decide (v % 2 = 1)) * (T / 2)) + 0 = oc (n + 1) v + 0
    have hb := b_range (decide (v % 2 = 1))
    have hv : v = 2 * (v / 2) + Bb (decide (v % 2 = 1)) := by
      rcases b_dec (v % 2 = 1) with ⟨a1, a2⟩ | ⟨a1, a2⟩ <;> rw [a2] <;> omega
    have e := low (v / 2) _ (by omega) hb.1 hb.2
    rw [← hv] at e
    rw [hp, oc_high n _ _ (by omega) (by rw [← hp]; rcases hT with rfl | rfl <;> omega) hb.1 hb.2, e]
  · show oc (n + 1) (2 * v % T + Bb x) + Bb (decide (v ≥ T / 2)) = oc (n + 1) v + Bb x
    have hb := b_range (decide (v ≥ T / 2))
    have hw : 2 * v % T = 2 * (v - Bb (decide (v ≥ T / 2)) * 2 ^ n) := by
      rw [← hp]
      rcases b_dec (v ≥ T / 2) with ⟨a1, a2⟩ | ⟨a1, a2⟩ <;> rw [a2] <;> rcases hT with rfl | rfl <;> omega
    have r : 0 ≤ v - Bb (decide (v ≥ T / 2)) * 2 ^ n ∧ v - Bb (decide (v ≥ T / 2)) * 2 ^ n < 2 ^ n := by
      rw [← hp]
      rcases b_dec (v ≥ T / 2) with ⟨a1, a2⟩ | ⟨a1, a2⟩ <;> rw [a2] <;> rcases hT with rfl | rfl <;> omega
    have e := oc_high n _ _ r.1 r.2 hb.1 hb.2
    rw [show v - Bb (decide (v ≥ T / 2)) * 2 ^ n + Bb (decide (v ≥ T / 2)) * 2 ^ n = v by omega] at e
    rw [hw, low _ _ r.1 hx.1 hx.2, e]; omega
  · show oc (n + 1) (v / 2 + Bb x * (T / 2)) + Bb (decide (v % 2 = 1)) = oc (n + 1) v + Bb x
    have hb := b_range (decide (v % 2 = 1))
    have hv : v = 2 * (v / 2) + Bb (decide (v % 2 = 1)) := by
      rcases b_dec (v % 2 = 1) with ⟨a1, a2⟩ | ⟨a1, a2⟩ <;> rw [a2] <;> omega
    have e := low (v / 2) _ (by omega) hb.1 hb.2
    rw [← hv] at e
    rw [hp, oc_high n _ _ (by omega) (by rw [← hp]; rcases hT with rfl | rfl <;> omega) hx.1 hx.2, e]; omega
theorem ones_it {n : Nat} {T : Int} (hT : T = 256 ∨ T = 65536) (hn : T = 2 ^ (n + 1)) {k : Int} (h4 : 4 ≤ k) (h7 : k ≤ 7) : ∀ (c : Nat) (p : Bool × Int), 0 ≤ p.2 → p.2 < T →
    oc (n + 1) (it (step k T) c p).2 + (bif rot k then 0 else Bb (it (step k T) c p).1) = oc (n + 1) p.2 + (bif rot k then 0 else Bb p.1)
  | 0, p, _, _ => rfl
  | c + 1, p, h0, h1 => by
    have o := out_range hT k p.1 p.2 h0 h1
    have i := ones_it hT hn h4 h7 c (step k T p) o.1 o.2
    exact i.trans (ones_step hT hn h4 h7 p.1 p.2 h0 h1)
/-- A whole turn to the left. -/
theorem turn {n : Nat} {T : Int} (hT : T = 256 ∨ T = 65536) : ∀ (c : Nat) (p : Bool × Int), 0 ≤ p.2 → p.2 < T → ∃ K : Int, (it (step 4 T) c p).2 = 2 ^ c * p.2 + (T - 1) * K ∧ ((it (step 4 T) c p).2 = 0 ↔ p.2 = 0) ∧ (it (step 4 T) c p).1 = p.1
  | 0, p, _, _ => ⟨0, by simp [it], Iff.rfl, rfl⟩
  | c + 1, p, h0, h1 => by
    have o := out_range hT 4 p.1 p.2 h0 h1
    obtain ⟨K, e, z, x⟩ := turn (n := n) hT c (step 4 T p) o.1 o.2
    have s : (step 4 T p).2 = 2 * p.2 + (T - 1) * (- Bb (decide (p.2 ≥ T / 2))) := by
      show 2 * p.2 % T + Bb (decide (p.2 ≥ T / 2)) = _
      rcases b_dec (p.2 ≥ T / 2) with ⟨a1, a2⟩ | ⟨a1, a2⟩ <;> rw [a2] <;> rcases hT with rfl | rfl <;> omega
    have s0 : (step 4 T p).2 = 0 ↔ p.2 = 0 := by
      rw [s]
      rcases b_dec (p.2 ≥ T / 2) with ⟨a1, a2⟩ | ⟨a1, a2⟩ <;> rw [a2] <;> rcases hT with rfl | rfl <;> omega
    refine ⟨2 ^ c * (- Bb (decide (p.2 ≥ T / 2))) + K, ?_, z.trans s0, x⟩
    show (it (step 4 T) c (step 4 T p)).2 = _
    rw [e, s, Int.pow_succ, Int.mul_add, Int.mul_add, Int.mul_assoc, Int.mul_left_comm (2 ^ c) (T - 1), Int.add_assoc]
theorem period {s T : Int} (h : Sz s T) {n : Nat} (hw : IntKind.wrap IntKind.i64 (8 * s) = (n : Int)) (p : Bool × Int) (h0 : 0 ≤ p.2) (h1 : p.2 < T) : it (step 4 T) n p = p := by
  obtain ⟨K, e, z, x⟩ := turn (n := n) h.t n p h0 h1
  have r := it_range h.t 4 n p h0 h1
  refine pair_eq (b := p.1) (y := p.2) x ?_
  rcases size_iff.1 h.e4 with rfl | rfl
  · have : n = 8 := by have : IntKind.wrap IntKind.i64 (8 * 1) = 8 := by decide
                       omega
    subst this
    have t : T = 256 := h.e1.symm.trans (by decide)
    subst t
    omega
  · have : n = 16 := by have : IntKind.wrap IntKind.i64 (8 * 2) = 16 := by decide
                        omega
    subst this
    have t : T = 65536 := h.e1.symm.trans (by decide)
    subst t
    omega
theorem periods {s T : Int} (h : Sz s T) {n : Nat} (hw : IntKind.wrap IntKind.i64 (8 * s) = (n : Int)) (p : Bool × Int) (h0 : 0 ≤ p.2) (h1 : p.2 < T) : ∀ m : Nat, it (step 4 T) (m * n) p = p
  | 0 => by rw [Nat.zero_mul]; rfl
  | m + 1 => by rw [Nat.succ_mul, it_add, periods h hw p h0 h1 m, period h hw p h0 h1]
theorem whole {s T : Int} (h : Sz s T) {n : Nat} (hw : IntKind.wrap IntKind.i64 (8 * s) = (n : Int)) (p : Bool × Int) (h0 : 0 ≤ p.2) (h1 : p.2 < T) {k : Int} (hk : k = 4 ∨ k = 5) (m : Nat) : it (step k T) (m * n) p = p := by
  rcases hk with rfl | rfl
  · exact periods h hw p h0 h1 m
  · have t := there h.t (k := 4) (by decide) (by decide) (m * n) p h0 h1
    rw [periods h hw p h0 h1 m] at t
    exact t

theorem bk_ok (k s f v c : Int) : g82_1 k s f v c = g81_1 k s f v c := by
  unfold g82_1 g81_1
  rw [L174]
  have : g144_0 c 0 63 = g142_0 c 0 63 := rfl
  rw [this]
  cases g172_0 k s f v <;> cases g142_0 c 0 63 <;> cases decide (k < 4) <;> rfl
theorem bk_bad {k s f v c : Int} (h : g81_1 k s f v c = false) : g81_0 k s f v c = 0 ∧ g82_0 k s f v c = 0 := by
  have h2 : g82_1 k s f v c = false := (bk_ok k s f v c).trans h
  unfold g81_1 at h
  unfold g82_1 at h2
  unfold g81_0 g82_0
  rw [Bool.not_eq_false'] at h h2
  rw [h, h2]; exact ⟨rfl, rfl⟩
structure Good (k s f v c : Int) (T : Int) (n m : Nat) : Prop where
  ok : Ok k s f v T
  k4 : 4 ≤ k
  c : c = (m : Int)
  c63 : m ≤ 63
  n16 : n ≤ 16
  w : IntKind.wrap IntKind.i64 (8 * s) = (n : Int)
  t : T = 2 ^ n
  n0 : 0 < n
theorem bk_good {k s f v c : Int} (h : g81_1 k s f v c = true) : ∃ T n m, Good k s f v c T n m := by
  unfold g81_1 at h
  have h1 : g172_0 k s f v = true := by cases e : g172_0 k s f v <;> simp_all
  have h2 : decide (k < 4) = false := by cases e : decide (k < 4) <;> simp_all
  have h3 : g142_0 c 0 63 = true := by cases e : g142_0 c 0 63 <;> simp_all
  obtain ⟨T, o⟩ := ok_of h1
  obtain ⟨n, n1, n2, n3, n4, -⟩ := wid o.sz
  have hc := (L142 c 0 63).1 h3
  have h2 := of_decide_eq_false h2
  exact ⟨T, n, c.toNat, o, by omega, by omega, by omega, n1, n2, n3, n4⟩
theorem Good.out {k s f v c T : Int} {n m : Nat} (h : Good k s f v c T n m) :
    g81_1 k s f v c = true ∧ g81_0 k s f v c = v ∧ g82_0 k s f v c = v ∧ g72_0 k s f v c = (sh k T f v m).1 ∧ g72_1 k s f v c = (sh k T f v m).2 ∧ g72_2 k s f v c = true ∧
    Option.isSome (L173_0 70 k s f v c 0) = true ∧ Option.isSome (L175_0 70 k s f v c 0) = true ∧
    Option.isSome (L173_0 70 (ko k) s (g173_1 k s f v c) (g173_0 k s f v c) c 0) = true ∧ Option.isSome (L175_0 70 (ko k) s (g175_1 k s f v c) (g175_0 k s f v c) c 0) = true := by
  have hb := by_ h.ok m h.c63
  have hs := sh_step h.ok m h.c63
  have kk := ko_rot h.k4 h.ok.k1
  have ok2 : Ok (ko k) s (sh k T f v m).2 (sh k T f v m).1 T := ⟨hs.1.sz, by omega, by omega, hs.1.f0, hs.1.f1, hs.1.v0, hs.1.v1⟩
  have hb2 := by_ ok2 m h.c63
  have hs2 := (sh_step ok2 m h.c63).2
  have t := there h.ok.sz.t h.k4 h.ok.k1 m (X f, v) h.ok.v0 h.ok.v1
  rw [hs.2, hs2] at t
  have tv : (sh (ko k) T (sh k T f v m).2 (sh k T f v m).1 m).1 = v := congrArg Prod.snd t
  have c1 := (L142 c 0 63).2 (by rw [h.c]; have := h.c63; omega)
  have c2 : g144_0 c 0 63 = true := c1
  have k4 : decide (k < 4) = false := decide_eq_false (by have := h.k4; omega)
  have g := h.ok.ok
  have g2 : g174_0 k s f v = true := (L174 k s f v).trans g
  rw [← h.c] at hb hb2
  have a1 : g81_1 k s f v c = true := by unfold g81_1; rw [g, c1, k4]; rfl
  have a2 : g81_0 k s f v c = v := by
    unfold g81_0; rw [g, c1, k4]
    show g173_0 (ko k) s (g173_1 k s f v c) (g173_0 k s f v c) c = v
    rw [hb.1, hb.2.1, hb2.1, tv]
  have a3 : g82_0 k s f v c = v := by
    unfold g82_0; rw [g2, c2, k4]
    show g175_0 (ko k) s (g175_1 k s f v c) (g175_0 k s f v c) c = v
    rw [hb.2.2.1, hb.2.2.2.1, hb2.2.2.1, tv]
  have a4 : g72_0 k s f v c = (sh k T f v m).1 := by
    unfold g72_0; rw [g, c1]
    exact hb.1
  have a5 : g72_1 k s f v c = (sh k T f v m).2 := by
    unfold g72_1; rw [g, c1]
    exact hb.2.1
  have a6 : g72_2 k s f v c = true := by unfold g72_2; rw [g, c1]; rfl
  refine ⟨a1, a2, a3, a4, a5, a6, hb.2.2.2.2.1, hb.2.2.2.2.2, ?_, ?_⟩
  · rw [hb.1, hb.2.1]; exact hb2.2.2.2.2.1
  · rw [hb.2.2.1, hb.2.2.2.1]; exact hb2.2.2.2.2.2
/-- The counts of ones. -/
theorem Good.ones {k s f v c T : Int} {n m : Nat} (h : Good k s f v c T n m) :
    (decide (k ≤ 5) = true → oc n (sh k T f v m).1 = oc n v) ∧ (decide (k > 5) = true → oc n (sh k T f v m).1 + Int.fdiv (sh k T f v m).2 16 = oc n v + Int.fdiv f 16) := by
  have hs := sh_step h.ok m h.c63
  obtain ⟨j, hj⟩ : ∃ j, n = j + 1 := ⟨n - 1, by have := h.n0; omega⟩
  have ht := h.t
  rw [hj] at ht
  have o := ones_it h.ok.sz.t ht h.k4 h.ok.k1 m (X f, v) h.ok.v0 h.ok.v1
  rw [hs.2] at o
  subst hj
  have fx : ∀ f : Int, 0 ≤ f → f < 32 → Int.fdiv f 16 = Bb (X f) := by
    intro f f0 f1
    have := (flags_x f.toNat (by omega)).2.2.2
    rw [show ((f.toNat : Nat) : Int) = f by omega] at this
    exact this
  rw [fx _ hs.1.f0 hs.1.f1, fx _ h.ok.f0 h.ok.f1]
  have hk : k = 4 ∨ k = 5 ∨ k = 6 ∨ k = 7 := by have := h.k4; have := h.ok.k1; omega
  constructor
  · intro hk5
    have := of_decide_eq_true hk5
    have hr : rot k = true := by rcases hk with rfl | rfl | rfl | rfl <;> first | rfl | omega
    rw [hr] at o
    simpa using o
  · intro hk5
    have := of_decide_eq_true hk5
    have hr : rot k = false := by rcases hk with rfl | rfl | rfl | rfl <;> first | rfl | omega
    rw [hr] at o
    exact o
theorem Good.whole {k s f v c T : Int} {n m : Nat} (h : Good k s f v c T n m) (hk : k ≤ 5) (hc : Int.tmod c (IntKind.wrap IntKind.i64 (8 * s)) = 0) : (sh k T f v m).1 = v := by
  have hs := sh_step h.ok m h.c63
  rw [h.w, h.c] at hc
  have : m % n = 0 := by
    rw [Int.tmod_eq_emod_of_nonneg (by omega)] at hc
    exact_mod_cast hc
  obtain ⟨q, hq⟩ : ∃ q, m = q * n := ⟨m / n, by rw [Nat.div_mul_cancel (Nat.dvd_of_mod_eq_zero this)]⟩
  have w := YtckjibiolfapiaaRotates.whole h.ok.sz h.w (X f, v) h.ok.v0 h.ok.v1 (k := k) (by have := h.k4; omega) q
  rw [← hq, hs.2] at w
  exact congrArg Prod.snd w
/-- Reversing. -/
theorem rev {s v : Int} (h : g151_0 s v = true) : ∃ T n, Sz s T ∧ n ≤ 16 ∧ IntKind.wrap IntKind.i64 (8 * s) = ((n : Nat) : Int) ∧ T = 2 ^ n ∧ 0 ≤ v ∧ v < T := by
  have hs : g198_0 s = true := by
    have ha := h
    unfold g151_0 at ha
    cases e : g198_0 s
    · rw [e] at ha; simp at ha
    · rfl
  obtain ⟨T, hT⟩ := sz_of hs
  have v1 := (L151 hT v).1 h
  obtain ⟨n, n1, n2, n3, n4, -⟩ := wid hT
  exact ⟨T, n, hT, n1, n2, n3, v1.1, v1.2⟩

theorem pure10 (x0 x1 : List Row) : g10_0 x0 x1 = true := by
  unfold g10_0
  generalize g80_0 x0 = k
  generalize g80_1 x0 = s
  generalize g80_2 x0 = f
  generalize g80_3 x0 = v
  generalize g80_4 x0 = c
  generalize g158_0 x1 = s'
  generalize g158_1 x1 = v'
  have last : (bif bif bif bif !g151_0 s' v' == g181_0 s' v' then true else g84_0 s' v' != g85_0 s' v' then true else !g151_0 s' v' == g181_0 s' v' then true else g60_0 s' v' != g86_0 s' v' then false else bif g151_0 s' v' then bif bif bif g151_0 s' (g84_0 s' v') then g84_0 s' (g84_0 s' v') == v' else false then g151_0 s' (g84_0 s' v') else false then g60_0 s' (g84_0 s' v') == g60_0 s' v' else false else true) = true := by
    rw [L181]
    cases hv : g151_0 s' v'
    · have e1 : g84_0 s' v' = 0 := by unfold g84_0; rw [hv]; rfl
      have e2 : g85_0 s' v' = 0 := by unfold g85_0; rw [L181, hv]; rfl
      have e3 : g60_0 s' v' = 0 := by unfold g60_0; rw [hv]; rfl
      have e4 : g86_0 s' v' = 0 := by unfold g86_0; rw [L181, hv]; rfl
      rw [e1, e2, e3, e4]; rfl
    · obtain ⟨T, n, hT, n1, n2, n3, v0, v1⟩ := rev hv
      obtain ⟨o1, o2, -, -⟩ := ones hT n1 n3 v0 v1
      obtain ⟨r1, r2, -, -⟩ := revs hT n1 n2 v0 v1
      have rr := rv_range n v'
      have q := (L151 hT (rv n v')).2 ⟨rr.1, by rw [n3]; exact rr.2⟩
      obtain ⟨o3, -, -, -⟩ := ones hT n1 n3 rr.1 (by rw [n3]; exact rr.2)
      obtain ⟨r3, -, -, -⟩ := revs hT n1 n2 rr.1 (by rw [n3]; exact rr.2)
      rw [o1, o2, r1, r2, q, o3, r3, rv_rv n v' v0 (by rw [← n3]; exact v1), oc_rv]
      simp
  rw [last, bk_ok]
  cases hg : g81_1 k s f v c
  · obtain ⟨b1, b2⟩ := bk_bad hg
    rw [b1, b2]
    simp
  · obtain ⟨T, n, m, h⟩ := bk_good hg
    obtain ⟨a1, a2, a3, a4, a5, a6, -⟩ := h.out
    have hs := (sh_step h.ok m h.c63).1
    have q1 := (L151 h.ok.sz v).2 ⟨h.ok.v0, h.ok.v1⟩
    have q2 := (L151 h.ok.sz (sh k T f v m).1).2 ⟨hs.v0, hs.v1⟩
    obtain ⟨o1, -, -, -⟩ := ones h.ok.sz h.n16 h.t h.ok.v0 h.ok.v1
    obtain ⟨o2, -, -, -⟩ := ones h.ok.sz h.n16 h.t hs.v0 hs.v1
    have hon := h.ones
    have c1 : (bif decide (k ≤ 5) then oc n v != oc n (sh k T f v m).1 else false) = false := by
      cases e : decide (k ≤ 5)
      · rfl
      · rw [hon.1 e]; simp
    have c2 : (bif decide (k > 5) then IntKind.wrap IntKind.i64 (oc n v + Int.fdiv f 16) != IntKind.wrap IntKind.i64 (oc n (sh k T f v m).1 + Int.fdiv (sh k T f v m).2 16) else false) = false := by
      cases e : decide (k > 5)
      · rfl
      · rw [hon.2 e]; simp
    have c3 : (bif bif decide (k ≤ 5) then Int.tmod c (IntKind.wrap IntKind.i64 (8 * s)) == 0 else false then (sh k T f v m).1 != v else false) = false := by
      cases e : decide (k ≤ 5)
      · rfl
      · cases e2 : Int.tmod c (IntKind.wrap IntKind.i64 (8 * s)) == 0
        · rfl
        · rw [h.whole (of_decide_eq_true e) (by simpa using e2)]; simp
    rw [a2, a3, a4, a5, a6, q1, q2, o1, o2, c1, c2, c3]
    simp

theorem okL (x0 x1 : List Row) (h0 : bytesOk x0 = true) (h1 : bytesOk x1 = true) : ∃ ok, q10 [.one (.imm true 1 x0), .one (.imm true 1 x1)] [] = some ((SV.one (T.lit (Value.bool (g10_0 x0 x1))), []), ok) ∧ ok = true := by
  refine ⟨_, rfl, ?_⟩
  rw [h0, h1]
  generalize g80_0 x0 = k
  generalize g80_1 x0 = s
  generalize g80_2 x0 = f
  generalize g80_3 x0 = v
  generalize g80_4 x0 = c
  generalize g158_0 x1 = s'
  generalize g158_1 x1 = v'
  have p60 : ∀ s v, (Option.isSome (L60_0 70 v 0) || !g151_0 s v) = true := by
    intro s v
    cases hv : g151_0 s v
    · simp
    · obtain ⟨T, n, hT, n1, n2, n3, v0, v1⟩ := rev hv
      rw [(ones hT n1 n3 v0 v1).2.2.1]; rfl
  have p86 : ∀ s v, (Option.isSome (L86_0 70 v 0) || !g181_0 s v) = true := by
    intro s v
    rw [L181]
    cases hv : g151_0 s v
    · simp
    · obtain ⟨T, n, hT, n1, n2, n3, v0, v1⟩ := rev hv
      rw [(ones hT n1 n3 v0 v1).2.2.2]; rfl
  have p84 : ∀ s v, (Option.isSome (L84_0 70 v 0 (IntKind.wrap IntKind.i64 (8 * s)) 0) || !g151_0 s v) = true := by
    intro s v
    cases hv : g151_0 s v
    · simp
    · obtain ⟨T, n, hT, n1, n2, n3, v0, v1⟩ := rev hv
      rw [(revs hT n1 n2 v0 v1).2.2.1]; rfl
  have p85 : ∀ s v, (Option.isSome (L85_0 70 s v 0 0) || !g181_0 s v) = true := by
    intro s v
    rw [L181]
    cases hv : g151_0 s v
    · simp
    · obtain ⟨T, n, hT, n1, n2, n3, v0, v1⟩ := rev hv
      rw [(revs hT n1 n2 v0 v1).2.2.2]; rfl
  have k144 : g144_0 c 0 63 = g142_0 c 0 63 := rfl
  rw [p60, p86, p84, p85, p60, p60, p84, p60, L174, k144]
  cases e1 : g172_0 k s f v
  · have : g81_1 k s f v c = false := by unfold g81_1; rw [e1]; rfl
    rw [this]; simp
  · cases e2 : g142_0 c 0 63
    · have : g81_1 k s f v c = false := by unfold g81_1; rw [e1, e2]; cases decide (k < 4) <;> rfl
      rw [this]; simp
    · obtain ⟨T, o⟩ := ok_of e1
      obtain ⟨n, n1, n2, n3, n4, -⟩ := wid o.sz
      have hc := (L142 c 0 63).1 e2
      obtain ⟨m, hm⟩ : ∃ m : Nat, c = m := ⟨c.toNat, by omega⟩
      have hb := by_ o m (by omega)
      rw [← hm] at hb
      have hs := size_pos o.sz.e4
      rw [decide_eq_true hs, hb.2.2.2.2.1, hb.2.2.2.2.2]
      have hw : (IntKind.wrap IntKind.i64 (8 * s) != 0) = true := by rw [n2, bne_iff_ne]; omega
      rw [hw]
      cases e3 : decide (k < 4)
      · have hg : g81_1 k s f v c = true := by unfold g81_1; rw [e1, e2, e3]; rfl
        obtain ⟨T', n', m', h⟩ := bk_good hg
        obtain ⟨-, -, -, -, -, -, -, -, i3, i4⟩ := h.out
        unfold ko at i3 i4
        rw [i3, i4]
        simp
      · simp
end Go.Proofs.YtckjibiolfapiaaRotates
