/- Lazy: the plain law. -/
import Derived.Test.YtilfpkfifdhhdaaZqLazyQ
import Derived.Test.YtilfpkfifdhhdaaZqList
set_option linter.unusedVariables false
set_option linter.unusedSimpArgs false
namespace Go.Proofs.YtilfpkfifdhhdaaLazy
open Go Go.Zq
set_option maxHeartbeats 4000000
set_option maxRecDepth 100000

/-! Draws of operations: rows of four numbers. -/
abbrev Op := Int × Int × Int × Int
def row (t : Op) : Row := [.lit (.int .i64 t.1), .lit (.int .i64 t.2.1), .lit (.int .i64 t.2.2.1), .lit (.int .i64 t.2.2.2)]
def fr (l : List Op) : List Row := l.map row
theorem fr_len (l : List Op) : (fr l).length = l.length := by simp [fr]
theorem posA {p : Int} (hp : okTo 40 p = true) {v1 : List Row} {c : Bool} {x y z : Int} :
    2 ≤ (bif c then p + 1 + 1 + g93_2 v1 (p + 1 + 1) x y + g93_2 v1 (p + 1 + 1 + g93_2 v1 (p + 1 + 1) x y) z y else p + 1 + 1 + g93_2 v1 (p + 1 + 1) x y) - p ∧ (bif c then p + 1 + 1 + g93_2 v1 (p + 1 + 1) x y + g93_2 v1 (p + 1 + 1 + g93_2 v1 (p + 1 + 1) x y) z y else p + 1 + 1 + g93_2 v1 (p + 1 + 1) x y) - p ≤ 16 := by
  have h1 := b93_2 v1 (p + 1 + 1) x y
  have h2 := b93_2 v1 (p + 1 + 1 + g93_2 v1 (p + 1 + 1) x y) z y
  have := h1.1; have := h1.2; have := h2.1; have := h2.2
  cases c
  · simp only [cond_false]; omega
  · simp only [cond_true]; omega
theorem ok_rng {k p q : Int} (hp : okTo 40 p = true) (h0 : p ≤ q) (h1 : q + k ≤ p + 40) : okTo k q = true := by
  rw [okTo_iff] at *
  omega
theorem posy {v0 v1 : List Row} {p s n : Int} (hb : bytesOk v1 = true) (hp : okTo 40 p = true) (hl : v0.length ≤ 100) : y164_0 v0 v1 p s n = true := by
  have q0 : okTo 2 p = true := ok_rng hp (by omega) (by omega)
  have q1 : okTo 7 (p + 1 + 1) = true := ok_rng hp (by omega) (by omega)
  have q2 : ∀ x y, okTo 7 (p + 1 + 1 + g93_2 v1 (p + 1 + 1) x y) = true := fun x y => by
    have h := b93_2 v1 (p + 1 + 1) x y
    have := h.1; have := h.2
    exact ok_rng hp (by omega) (by omega)
  have l1 : decide ((v0.length + 1) * 32 ≤ 140737488355328) = true := decide_eq_true (by omega)
  have l2 : decide (v0.length + 1 ≤ 140737488355328) = true := decide_eq_true (by omega)
  unfold y164_0 g139_s21 g139_s22
  simp only [hb, q0, q1, q2, l1, l2, Bool.true_and, Bool.and_true, Bool.true_or]
  have A := @posA p hp v1 (decide (IntKind.wrap IntKind.i64 ((1 : Int) + g73_0 v1 p s (5 : Int)) ≤ (3 : Int))) (g73_3 v1 (p + 1) (g73_3 v1 p s 5) 2) (IntKind.wrap IntKind.i64 (1 + g73_0 v1 (p + 1) (g73_3 v1 p s 5) 2)) (g93_3 v1 (p + 1 + 1) (g73_3 v1 (p + 1) (g73_3 v1 p s 5) 2) (IntKind.wrap IntKind.i64 (1 + g73_0 v1 (p + 1) (g73_3 v1 p s 5) 2)))
  revert A
  generalize (bif decide (IntKind.wrap IntKind.i64 ((1 : Int) + g73_0 v1 p s (5 : Int)) ≤ (3 : Int)) then p + 1 + 1 + g93_2 v1 (p + 1 + 1) (g73_3 v1 (p + 1) (g73_3 v1 p s 5) 2) (IntKind.wrap IntKind.i64 (1 + g73_0 v1 (p + 1) (g73_3 v1 p s 5) 2)) + g93_2 v1 (p + 1 + 1 + g93_2 v1 (p + 1 + 1) (g73_3 v1 (p + 1) (g73_3 v1 p s 5) 2) (IntKind.wrap IntKind.i64 (1 + g73_0 v1 (p + 1) (g73_3 v1 p s 5) 2))) (g93_3 v1 (p + 1 + 1) (g73_3 v1 (p + 1) (g73_3 v1 p s 5) 2) (IntKind.wrap IntKind.i64 (1 + g73_0 v1 (p + 1) (g73_3 v1 p s 5) 2))) (IntKind.wrap IntKind.i64 (1 + g73_0 v1 (p + 1) (g73_3 v1 p s 5) 2)) else p + 1 + 1 + g93_2 v1 (p + 1 + 1) (g73_3 v1 (p + 1) (g73_3 v1 p s 5) 2) (IntKind.wrap IntKind.i64 (1 + g73_0 v1 (p + 1) (g73_3 v1 p s 5) 2))) = a
  intro A
  have a1 : okTo 1 a = true := ok_rng hp (by omega) (by omega)
  have a2 : okTo 1 (a + 1) = true := ok_rng hp (by omega) (by omega)
  have a3 : okTo 1 (a + 1 + 1) = true := ok_rng hp (by omega) (by omega)
  have a5 : okTo 5 (a + 1 + 1 + 1) = true := ok_rng hp (by omega) (by omega)
  have a6 : ∀ x, okTo 1 (a + 1 + 1 + 1 + g150_2 v1 (a + 1 + 1 + 1) x) = true := fun x => by
    have h := b150_2 v1 (a + 1 + 1 + 1) x
    have := h.1; have := h.2
    exact ok_rng hp (by omega) (by omega)
  simp only [a1, a2, a3, a5, a6, Bool.true_and, Bool.and_true, Bool.true_or]
theorem ops_loop {v1 : List Row} (hb : bytesOk v1 = true) (n : Nat) (hn : n ≤ 60) : ∀ (k : Nat) (v0 : List Row) (p s : Int), n < k → v0.length + n ≤ 90 → okTo (40 + 26 * n) p = true →
    ∃ l p' s', L164_0 k v0 v1 p s (n : Int) = some (v0 ++ fr l, v1, p', s', 0) ∧ l.length = n := by
  induction n with
  | zero =>
    intro k v0 p s hk hl hp
    obtain ⟨k, rfl⟩ : ∃ j, k = j + 1 := ⟨k - 1, by omega⟩
    refine ⟨[], p, s, ?_, rfl⟩
    have hy := @posy v0 v1 p s ((0 : Nat) : Int) hb (okTo_le hp (by omega)) (by omega)
    have hz : z164_0 v0 v1 p s ((0 : Nat) : Int) = true := rfl
    simp only [L164_0, hy, hz, cond_true]
    simp [fr]
  | succ n ih =>
    intro k v0 p s hk hl hp
    obtain ⟨k, rfl⟩ : ∃ j, k = j + 1 := ⟨k - 1, by omega⟩
    have hy := @posy v0 v1 p s ((n + 1 : Nat) : Int) hb (okTo_le hp (by omega)) (by omega)
    have hz : z164_0 v0 v1 p s ((n + 1 : Nat) : Int) = false := by
      unfold z164_0
      rw [decide_eq_true (by omega : ((n + 1 : Nat) : Int) > 0)]
      rfl
    have e : IntKind.wrap IntKind.i64 (((n + 1 : Nat) : Int) - 1) = (n : Int) := by rw [IntKind.wrap_i64]; omega
    simp only [L164_0, hy, hz, cond_true, cond_false, e]
    have hb5 := b139_5 v1 p s
    obtain ⟨l, p', s', h1, h2⟩ := ih (by omega) k (v0 ++ [[T.lit (Value.int IntKind.i64 (g139_0 v1 p s)), T.lit (Value.int IntKind.i64 (g139_1 v1 p s)), T.lit (Value.int IntKind.i64 (g139_2 v1 p s)), T.lit (Value.int IntKind.i64 (g139_3 v1 p s))]]) (p + g139_5 v1 p s) (g139_6 v1 p s) (by omega) (by simp; omega) (by
      have := hb5.1; have := hb5.2
      rw [okTo_iff] at *
      omega)
    refine ⟨(g139_0 v1 p s, g139_1 v1 p s, g139_2 v1 p s, g139_3 v1 p s) :: l, p', s', ?_, by simp [h2]⟩
    rw [h1]
    simp [fr, row]
structure OpsD (x0 : List Row) : Prop where
  ok : Option.isSome (L164_0 70 [] x0 (bif g83_0 x0 2 (g73_3 x0 1 (g73_3 x0 0 0 33) 8) 20 then 4 else 3) (g164_s3 x0 1 (g73_3 x0 0 0 33)) (g164_s4 x0 1 (g73_3 x0 0 0 33))) = true
  rows : ∃ l, g164_3 x0 1 (g73_3 x0 0 0 33) = fr l ∧ l.length ≤ 41
theorem ops_d {x0 : List Row} (hb : bytesOk x0 = true) : OpsD x0 := by
  have hn : 0 ≤ g164_s4 x0 1 (g73_3 x0 0 0 33) ∧ g164_s4 x0 1 (g73_3 x0 0 0 33) ≤ 41 := by
    unfold g164_s4
    have r1 := pick_rng hb (p := 1 + 1 + 1) (by decide) (g164_s2 x0 1 (g73_3 x0 0 0 33)) (n := 2) (by decide)
    have r2 := pick_rng hb (p := 1) (by decide) (g73_3 x0 0 0 33) (n := 8) (by decide)
    cases g164_s0 x0 1 (g73_3 x0 0 0 33)
    · simp only [cond_false]; omega
    · simp only [cond_true]; rw [IntKind.wrap_i64]; omega
  obtain ⟨n, hn'⟩ := Int.eq_ofNat_of_zero_le hn.1
  have hpos : okTo (40 + 26 * (n : Int)) (bif g83_0 x0 2 (g73_3 x0 1 (g73_3 x0 0 0 33) 8) 20 then 4 else 3) = true := by
    rw [okTo_iff]
    cases g83_0 x0 2 (g73_3 x0 1 (g73_3 x0 0 0 33) 8) 20
    · simp only [cond_false]; omega
    · simp only [cond_true]; omega
  obtain ⟨l, p', s', h1, h2⟩ := ops_loop hb n (by omega) 70 [] _ (g164_s3 x0 1 (g73_3 x0 0 0 33)) (by omega) (by simp; omega) hpos
  rw [← hn'] at h1
  refine ⟨by rw [h1]; rfl, l, ?_, by omega⟩
  have e : g164_3 x0 1 (g73_3 x0 0 0 33) = ((L164_0 70 [] x0 (bif g83_0 x0 2 (g73_3 x0 1 (g73_3 x0 0 0 33) 8) 20 then 4 else 3) (g164_s3 x0 1 (g73_3 x0 0 0 33)) (g164_s4 x0 1 (g73_3 x0 0 0 33))).getD (default, default, default, default, default)).1 := rfl
  rw [e, h1]
  rfl
/-! What operations make of flags. -/
theorem lim_b (n : Int) (h : n = 1 ∨ n = 2) : g156_0 n = g152_0 n := by
  rcases h with rfl | rfl
  · exact (by decide +kernel : g156_0 1 = g152_0 1)
  · exact (by decide +kernel : g156_0 2 = g152_0 2)
theorem lim1 : g152_0 1 = 256 := by decide +kernel
theorem lim2 : g152_0 2 = 65536 := by decide +kernel
def orI (a b : Int) : Int := IntKind.wrap IntKind.i64 (↑(BitVec.toNat (BitVec.ofInt 64 a ||| BitVec.ofInt 64 b)) : Int)
def andI (a b : Int) : Int := IntKind.wrap IntKind.i64 (↑(BitVec.toNat (BitVec.ofInt 64 a &&& BitVec.ofInt 64 b)) : Int)
def andnI (a b : Int) : Int := IntKind.wrap IntKind.i64 (↑(BitVec.toNat (BitVec.ofInt 64 a &&& ~~~BitVec.ofInt 64 b)) : Int)
def fl (c : Bool) (n : Int) : Int := bif c then n else 0
def zn (z n : Bool) : Int := orI (fl z 4) (fl n 8)
def fl5 (c o z n : Bool) : Int := orI (orI (fl c 17) (fl o 2)) (zn z n)
theorem f32 {f : Int} (h0 : 0 ≤ f) (h1 : f ≤ 31) : ∃ i : Fin 32, f = (i.val : Int) := ⟨⟨f.toNat, by omega⟩, by simp; omega⟩
theorem f16 {f : Int} (h0 : 0 ≤ f) (h1 : f ≤ 15) : ∃ i : Fin 16, f = (i.val : Int) := ⟨⟨f.toNat, by omega⟩, by simp; omega⟩
theorem zn_rng (z n : Bool) : 0 ≤ zn z n ∧ zn z n ≤ 15 := by cases z <;> cases n <;> decide +kernel
theorem fl5_rng (c o z n : Bool) : 0 ≤ fl5 c o z n ∧ fl5 c o z n ≤ 31 := by cases c <;> cases o <;> cases z <;> cases n <;> decide +kernel
theorem cmp_all : ∀ g f : Fin 32, orI (andnI (g.val : Int) 16) (andI (f.val : Int) 16) = (f.val : Int) / 16 * 16 + (g.val : Int) % 16 ∧ orI (andI (g.val : Int) 15) (andI (f.val : Int) 16) = (f.val : Int) / 16 * 16 + (g.val : Int) % 16 ∧ orI (andI (f.val : Int) 16) (andnI (g.val : Int) 16) = (f.val : Int) / 16 * 16 + (g.val : Int) % 16 := by decide +kernel
theorem log_all : ∀ (f : Fin 32) (z : Fin 16), orI (andI (f.val : Int) 16) (z.val : Int) = (f.val : Int) / 16 * 16 + (z.val : Int) := by decide +kernel
def turnOk (f : Fin 32) (z : Fin 16) (e : Bool) : Prop :=
  orI (orI (orI (IntKind.wrap IntKind.i64 (fl e 1 * 1)) (andI (f.val : Int) 16)) 0) (z.val : Int) = (f.val : Int) / 16 * 16 + orI (fl e 1) (z.val : Int) ∧
  orI (orI (orI (fl e 1) (z.val : Int)) 0) (andI (f.val : Int) 16) = (f.val : Int) / 16 * 16 + orI (fl e 1) (z.val : Int) ∧ 0 ≤ orI (fl e 1) (z.val : Int) ∧ orI (fl e 1) (z.val : Int) ≤ 15
instance (f : Fin 32) (z : Fin 16) (e : Bool) : Decidable (turnOk f z e) := by unfold turnOk; infer_instance
theorem turn_all : ∀ (f : Fin 32) (z : Fin 16) (e : Bool), turnOk f z e := by decide +kernel
theorem cmp_at {g f : Int} (hg : 0 ≤ g ∧ g ≤ 31) (hf : 0 ≤ f ∧ f ≤ 31) : orI (andnI g 16) (andI f 16) = f / 16 * 16 + g % 16 ∧ orI (andI g 15) (andI f 16) = f / 16 * 16 + g % 16 ∧ orI (andI f 16) (andnI g 16) = f / 16 * 16 + g % 16 := by
  obtain ⟨i, rfl⟩ := f32 hg.1 hg.2
  obtain ⟨j, rfl⟩ := f32 hf.1 hf.2
  exact cmp_all i j
theorem log_at {f z : Int} (hf : 0 ≤ f ∧ f ≤ 31) (hz : 0 ≤ z ∧ z ≤ 15) : orI (andI f 16) z = f / 16 * 16 + z := by
  obtain ⟨i, rfl⟩ := f32 hf.1 hf.2
  obtain ⟨j, rfl⟩ := f16 hz.1 hz.2
  exact log_all i j
theorem turn_at {f z : Int} (hf : 0 ≤ f ∧ f ≤ 31) (hz : 0 ≤ z ∧ z ≤ 15) (e : Bool) :
    orI (orI (orI (IntKind.wrap IntKind.i64 (fl e 1 * 1)) (andI f 16)) 0) z = f / 16 * 16 + orI (fl e 1) z ∧
    orI (orI (orI (fl e 1) z) 0) (andI f 16) = f / 16 * 16 + orI (fl e 1) z ∧ 0 ≤ orI (fl e 1) z ∧ orI (fl e 1) z ≤ 15 := by
  obtain ⟨i, rfl⟩ := f32 hf.1 hf.2
  obtain ⟨j, rfl⟩ := f16 hz.1 hz.2
  exact turn_all i j e
/-! The functions, in those words. -/
theorem mask_s {s : Int} (h : s = 1 ∨ s = 2) (z : Int) : andI z (IntKind.wrap IntKind.i64 (g152_0 s - 1)) = z % g152_0 s := by
  rcases h with rfl | rfl
  · rw [lim1]; exact mask_at z 8 (by decide)
  · rw [lim2]; exact mask_at z 16 (by decide)
def val (s z : Int) : Int := andI z (IntKind.wrap IntKind.i64 (g152_0 s - 1))
def half (s : Int) : Int := IntKind.wrap IntKind.i64 (Int.tdiv (g152_0 s) 2)
def sgn (s v : Int) : Int := bif decide (v ≥ half s) then IntKind.wrap IntKind.i64 (v - g152_0 s) else v
theorem reck_eq (s z w : Int) : g182_1 s z w = fl5 (z != val s z) (w != sgn s (val s z)) (val s z == 0) (decide (val s z ≥ half s)) := rfl
theorem iadd_eq (s a b : Int) : g167_1 s 0 a b = g182_1 s (IntKind.wrap .i64 (IntKind.wrap .i64 (a + b) + 0)) (IntKind.wrap .i64 (IntKind.wrap .i64 (sgn s a + sgn s b) + 0)) := rfl
theorem isub_eq (s a b : Int) : g168_1 s 0 a b = g182_1 s (IntKind.wrap .i64 (IntKind.wrap .i64 (a - b) - 0)) (IntKind.wrap .i64 (IntKind.wrap .i64 (sgn s a - sgn s b) - 0)) := rfl
theorem sadd_eq {s : Int} (h : s = 1 ∨ s = 2) (a b : Int) : g172_1 s 0 a b = g167_1 s 0 a b := by
  rw [iadd_eq, reck_eq]
  unfold g172_1 g188_0 g187_0 g172_0
  rw [lim_b s h]
  rfl
theorem ssub_eq {s : Int} (h : s = 1 ∨ s = 2) {a b : Int} (ha : 0 ≤ a ∧ a < g152_0 s) (hb : 0 ≤ b ∧ b < g152_0 s) : g173_1 s 0 a b = g168_1 s 0 a b := by
  rw [isub_eq, reck_eq]
  have e : (IntKind.wrap .i64 (IntKind.wrap .i64 (a - b) - 0) != val s (IntKind.wrap .i64 (IntKind.wrap .i64 (a - b) - 0))) = decide (IntKind.wrap .i64 (IntKind.wrap .i64 (a - b) - 0) < 0) := by
    have w : IntKind.wrap .i64 (IntKind.wrap .i64 (a - b) - 0) = a - b := by
      rcases h with rfl | rfl
      · rw [lim1] at ha hb; simp only [IntKind.wrap_i64]; omega
      · rw [lim2] at ha hb; simp only [IntKind.wrap_i64]; omega
    rw [w, val, mask_s h, Bool.eq_iff_iff, bne_iff_ne, decide_eq_true_eq]
    rcases h with rfl | rfl
    · rw [lim1] at ha hb ⊢; omega
    · rw [lim2] at ha hb ⊢; omega
  rw [e]
  unfold g173_1 g188_0 g187_0 g173_0
  rw [lim_b s h]
  rfl
theorem made_k {k s a b : Int} (hs : s = 1 ∨ s = 2) (ha : 0 ≤ a ∧ a < g152_0 s) (hb : 0 ≤ b ∧ b < g152_0 s) (hk : 1 ≤ k ∧ k ≤ 5) :
    ∃ y, 0 ≤ y ∧ y ≤ 31 ∧ ((k = 1 ∨ k = 2) → ∀ f, g126_0 f k s a b = y ∧ g127_0 f k s a b = y) ∧
      (¬ (k = 1 ∨ k = 2) → y ≤ 15 ∧ ∀ f, 0 ≤ f ∧ f ≤ 31 → g126_0 f k s a b = f / 16 * 16 + y ∧ g127_0 f k s a b = f / 16 * 16 + y) := by
  have hk' : k = 1 ∨ k = 2 ∨ k = 3 ∨ k = 4 ∨ k = 5 := by omega
  rcases hk' with rfl | rfl | rfl | rfl | rfl
  · have r : 0 ≤ g167_1 s 0 a b ∧ g167_1 s 0 a b ≤ 31 := by rw [iadd_eq, reck_eq]; exact fl5_rng ..
    refine ⟨g167_1 s 0 a b, r.1, r.2, fun _ f => ⟨rfl, ?_⟩, fun h => absurd (.inl rfl) h⟩
    exact sadd_eq hs a b
  · have r : 0 ≤ g168_1 s 0 a b ∧ g168_1 s 0 a b ≤ 31 := by rw [isub_eq, reck_eq]; exact fl5_rng ..
    refine ⟨g168_1 s 0 a b, r.1, r.2, fun _ f => ⟨rfl, ?_⟩, fun h => absurd (.inr rfl) h⟩
    exact ssub_eq hs ha hb
  · have r : 0 ≤ g168_1 s 0 a b ∧ g168_1 s 0 a b ≤ 31 := by rw [isub_eq, reck_eq]; exact fl5_rng ..
    refine ⟨g168_1 s 0 a b % 16, by omega, by omega, fun h => absurd h (by decide), fun _ => ⟨by omega, fun f hf => ?_⟩⟩
    obtain ⟨c1, c2, _⟩ := cmp_at r hf
    refine ⟨c1, ?_⟩
    have e : g127_0 f 3 s a b = orI (andI (g173_1 s 0 a b) 15) (andI f 16) := rfl
    rw [e, ssub_eq hs ha hb]
    exact c2
  · have r := zn_rng (a == 0) (decide (a ≥ half s))
    refine ⟨zn (a == 0) (decide (a ≥ half s)), r.1, by omega, fun h => absurd h (by decide), fun _ => ⟨r.2, fun f hf => ?_⟩⟩
    have l := log_at hf r
    refine ⟨l, ?_⟩
    have e : g127_0 f 4 s a b = orI (andI f 16) (g188_0 s a) := rfl
    rw [e]
    unfold g188_0
    rw [lim_b s hs]
    exact l
  · have fe : Int.fdiv a (2 ^ min (Int.toNat (IntKind.wrap .i64 (IntKind.wrap .i64 (8 * s) - 1))) 64) = fl (decide (a ≥ half s)) 1 := by
      rcases hs with rfl | rfl
      · have h1 : half 1 = 128 := by decide +kernel
        have h2 : (2 : Int) ^ min (Int.toNat (IntKind.wrap .i64 (IntKind.wrap .i64 (8 * 1) - 1))) 64 = 128 := by decide +kernel
        rw [lim1] at ha
        rw [h1, h2, Int.fdiv_eq_ediv_of_nonneg _ (by decide)]
        by_cases h : a ≥ 128
        · rw [decide_eq_true h]; show a / 128 = 1; omega
        · rw [decide_eq_false h]; show a / 128 = 0; omega
      · have h1 : half 2 = 32768 := by decide +kernel
        have h2 : (2 : Int) ^ min (Int.toNat (IntKind.wrap .i64 (IntKind.wrap .i64 (8 * 2) - 1))) 64 = 32768 := by decide +kernel
        rw [lim2] at ha
        rw [h1, h2, Int.fdiv_eq_ediv_of_nonneg _ (by decide)]
        by_cases h : a ≥ 32768
        · rw [decide_eq_true h]; show a / 32768 = 1; omega
        · rw [decide_eq_false h]; show a / 32768 = 0; omega
    have v0 : ∀ f, g171_0 4 s f a = orI (andI (IntKind.wrap .i64 (a * 2)) (IntKind.wrap .i64 (g152_0 s - 1))) (fl (decide (a ≥ half s)) 1) := fun f => by
      rw [← fe]; rfl
    have v1 : ∀ f, g176_s8 4 s f a = orI (andI (IntKind.wrap .i64 (a * 2)) (IntKind.wrap .i64 (g152_0 s - 1))) (fl (decide (a ≥ half s)) 1) := fun f => by
      have e : g176_s8 4 s f a = orI (andI (IntKind.wrap .i64 (a * 2)) (g176_s1 s)) (g176_s2 s a) := rfl
      have e1 : g176_s1 s = IntKind.wrap .i64 (g152_0 s - 1) := by rcases hs with rfl | rfl <;> decide +kernel
      have e2 : g176_s2 s a = fl (decide (a ≥ half s)) 1 := by unfold g176_s2; rw [lim_b s hs]; rfl
      rw [e, e1, e2]
    generalize hv : orI (andI (IntKind.wrap .i64 (a * 2)) (IntKind.wrap .i64 (g152_0 s - 1))) (fl (decide (a ≥ half s)) 1) = v at v0 v1
    have r := zn_rng (v == 0) (decide (v ≥ half s))
    have t0 := turn_at (f := 0) ⟨by decide, by decide⟩ r (decide (a ≥ half s))
    refine ⟨orI (fl (decide (a ≥ half s)) 1) (zn (v == 0) (decide (v ≥ half s))), t0.2.2.1, by have := t0.2.2.2; omega, fun h => absurd h (by decide), fun _ => ⟨t0.2.2.2, fun f hf => ?_⟩⟩
    have t := turn_at hf r (decide (a ≥ half s))
    constructor
    · have e : g126_0 f 5 s a b = orI (orI (orI (IntKind.wrap .i64 (Int.fdiv a (2 ^ min (Int.toNat (IntKind.wrap .i64 (IntKind.wrap .i64 (8 * s) - 1))) 64) * 1)) (andI f 16)) 0) (g184_0 s (g171_0 4 s f a)) := rfl
      rw [e, fe, v0]
      exact t.1
    · have e2 : g176_s2 s a = fl (decide (a ≥ half s)) 1 := by unfold g176_s2; rw [lim_b s hs]; rfl
      have e : g127_0 f 5 s a b = orI (orI (orI (g176_s2 s a) (g188_0 s (g176_s8 4 s f a))) 0) (andI f 16) := rfl
      rw [e, v1, e2]
      unfold g188_0
      rw [lim_b s hs]
      exact t.2.1
/-! Walks over a list of operations. -/
def good (t : Op) : Bool := g64_0 t.1 t.2.1 t.2.2.1 t.2.2.2
def isSum (t : Op) : Bool := g129_0 t.1
theorem sgood_eq (k s a b : Int) : g65_0 k s a b = g64_0 k s a b := by
  have vs : ∀ v, g98_0 s v = g95_0 s v := fun v => by
    unfold g98_0 g95_0
    rw [show g155_0 s = g151_0 s from rfl]
    cases hs : g151_0 s
    · simp only [cond_false]
    · simp only [cond_true]
      have h : s = 1 ∨ s = 2 := by
        unfold g151_0 at hs
        by_cases h1 : s = 1
        · exact .inl h1
        · rw [beq_eq_false_iff_ne.2 h1, cond_false] at hs
          exact .inr (by simpa using hs)
      rw [lim_b s h]
      rfl
  unfold g65_0 g64_0
  rw [vs, vs, show g78_0 k 1 5 = g74_0 k 1 5 from rfl]
  cases g74_0 k 1 5 <;> cases g95_0 s a <;> cases g95_0 s b <;> rfl
theorem within_iff (v a b : Int) : g74_0 v a b = true ↔ a ≤ v ∧ v ≤ b := by
  unfold g74_0
  by_cases h : v ≥ a
  · rw [decide_eq_true h, cond_true, decide_eq_true_eq]; omega
  · rw [decide_eq_false h]; simp; omega
theorem val_of {s v : Int} (h : g95_0 s v = true) : (s = 1 ∨ s = 2) ∧ 0 ≤ v ∧ v < g152_0 s := by
  unfold g95_0 at h
  cases hs : g151_0 s
  · rw [hs] at h; simp at h
  · rw [hs, cond_true, within_iff] at h
    have h' : s = 1 ∨ s = 2 := by
      unfold g151_0 at hs
      by_cases h1 : s = 1
      · exact .inl h1
      · rw [beq_eq_false_iff_ne.2 h1, cond_false] at hs
        exact .inr (by simpa using hs)
    refine ⟨h', h.1, ?_⟩
    rcases h' with rfl | rfl
    · rw [lim1] at h ⊢; have := h.2; rw [IntKind.wrap_i64] at this; omega
    · rw [lim2] at h ⊢; have := h.2; rw [IntKind.wrap_i64] at this; omega
theorem good_of {t : Op} (h : good t = true) : (1 ≤ t.1 ∧ t.1 ≤ 5) ∧ (t.2.1 = 1 ∨ t.2.1 = 2) ∧ (0 ≤ t.2.2.1 ∧ t.2.2.1 < g152_0 t.2.1) ∧ 0 ≤ t.2.2.2 ∧ t.2.2.2 < g152_0 t.2.1 := by
  unfold good g64_0 at h
  cases h1 : g74_0 t.1 1 5
  · rw [h1] at h; simp at h
  cases h2 : g95_0 t.2.1 t.2.2.1
  · rw [h1, h2] at h; simp at h
  cases h3 : g95_0 t.2.1 t.2.2.2
  · rw [h1, h2, h3] at h; simp at h
  have a := val_of h2
  exact ⟨(within_iff _ _ _).1 h1, a.1, a.2, (val_of h3).2⟩
def mk (f : Int) (t : Op) : Int := g126_0 f t.1 t.2.1 t.2.2.1 t.2.2.2
def smk (f : Int) (t : Op) : Int := g127_0 f t.1 t.2.1 t.2.2.1 t.2.2.2
theorem isSum_iff (t : Op) : isSum t = true ↔ t.1 = 1 ∨ t.1 = 2 := by
  unfold isSum g129_0
  by_cases h1 : t.1 = 1
  · rw [h1]; simp
  · rw [beq_eq_false_iff_ne.2 h1, cond_false, beq_iff_eq]; simp [h1]
theorem mk_laws {t : Op} (h : good t = true) :
    (0 ≤ mk 0 t ∧ mk 0 t ≤ 31) ∧ (isSum t = true → ∀ f, mk f t = mk 0 t ∧ smk f t = mk 0 t) ∧
      (isSum t = false → mk 0 t ≤ 15 ∧ ∀ f, 0 ≤ f ∧ f ≤ 31 → mk f t = f / 16 * 16 + mk 0 t ∧ smk f t = f / 16 * 16 + mk 0 t) := by
  obtain ⟨hk, hs, ha, hb⟩ := good_of h
  obtain ⟨y, y0, y1, p1, p2⟩ := made_k hs ha hb hk
  by_cases hq : t.1 = 1 ∨ t.1 = 2
  · have e := (p1 hq 0).1
    have e' : mk 0 t = y := e
    rw [e']
    refine ⟨⟨y0, y1⟩, fun _ f => p1 hq f, fun h' => ?_⟩
    rw [(isSum_iff t).2 hq] at h'
    exact absurd h' (by decide)
  · obtain ⟨q1, q2⟩ := p2 hq
    have e := (q2 0 ⟨by decide, by decide⟩).1
    have e' : mk 0 t = y := by rw [show mk 0 t = g126_0 0 t.1 t.2.1 t.2.2.1 t.2.2.2 from rfl, e]; omega
    rw [e']
    exact ⟨⟨y0, y1⟩, fun h' => absurd ((isSum_iff t).1 h') hq, fun _ => ⟨q1, q2⟩⟩
/-! Rows. -/
structure RowAt (R : List Row) (i : Int) (t : Op) : Prop where
  a0 : intAt R (Int.toNat i) 0 = t.1
  a1 : intAt R (Int.toNat i) 1 = t.2.1
  a2 : intAt R (Int.toNat i) 2 = t.2.2.1
  a3 : intAt R (Int.toNat i) 3 = t.2.2.2
  ir : inRow [Kd.int IntKind.i64, Kd.int IntKind.i64, Kd.int IntKind.i64, Kd.int IntKind.i64] R i = true
theorem row_at (pre : List Op) (t : Op) (l : List Op) : RowAt (fr (pre ++ t :: l)) (pre.length : Int) t := by
  have e : (fr (pre ++ t :: l)).getD (Int.toNat (pre.length : Int)) [] = row t := by
    simp [fr]
  have c : ∀ i, intAt (fr (pre ++ t :: l)) (Int.toNat (pre.length : Int)) i = tInt ((row t).getD i (.nls 0)) := fun i => by
    unfold intAt cellAt
    rw [e]
  refine ⟨c 0, c 1, c 2, c 3, ?_⟩
  unfold inRow hasRow
  have h0 : decide (0 ≤ (pre.length : Int)) = true := decide_eq_true (by omega)
  have h1 : Nat.blt (Int.toNat (pre.length : Int)) (fr (pre ++ t :: l)).length = true := by
    rw [fr_len]; simp [Nat.blt_eq]
  rw [h0, h1, e]
  rfl
theorem w1 {n : Nat} (h : n < 1000) : IntKind.wrap IntKind.i64 ((n : Int) + 1) = ((n + 1 : Nat) : Int) := by rw [IntKind.wrap_i64]; omega
theorem fr_next (pre : List Op) (t : Op) (l : List Op) : fr (pre ++ t :: l) = fr ((pre ++ [t]) ++ l) := by simp
/-- Whether all are good: the implementation's walk. -/
theorem walk_i (q : Bool) (l : List Op) : ∀ (pre : List Op) (k : Nat) (n : Int), n = ((pre ++ l).length : Int) → (pre ++ l).length < 100 → l.length < k → ∃ j, L181_0 k q (fr (pre ++ l)) n (pre.length : Int) = some (q, fr (pre ++ l), n, j) ∧
    (l.all good = true ∧ j = n ∨ l.all good = false ∧ 0 ≤ j ∧ j < n ∧ g166_0 (intAt (fr (pre ++ l)) (Int.toNat j) 0) (intAt (fr (pre ++ l)) (Int.toNat j) 1) (intAt (fr (pre ++ l)) (Int.toNat j) 2) (intAt (fr (pre ++ l)) (Int.toNat j) 3) = true) := by
  induction l with
  | nil =>
    intro pre k n hn hl hk
    obtain ⟨k, rfl⟩ : ∃ j, k = j + 1 := ⟨k - 1, by simp at hk; omega⟩
    have hd : decide ((pre.length : Int) < n) = false := decide_eq_false (by rw [hn]; simp)
    refine ⟨(pre.length : Int), ?_, .inl ⟨rfl, by rw [hn]; simp⟩⟩
    have hy : y181_0 q (fr (pre ++ [])) n (pre.length : Int) = true := by
      unfold y181_0; rw [hd]; simp
    have hz : z181_0 q (fr (pre ++ [])) n (pre.length : Int) = true := by
      unfold z181_0; rw [hd]; simp
    simp only [L181_0, hy, hz, cond_true]
  | cons t l ih =>
    intro pre k n hn hl hk
    obtain ⟨k, rfl⟩ : ∃ j, k = j + 1 := ⟨k - 1, by simp at hk; omega⟩
    have r := row_at pre t l
    have hlt : (pre.length : Int) < n := by rw [hn]; simp; omega
    have hy : y181_0 q (fr (pre ++ t :: l)) n (pre.length : Int) = true := by
      unfold y181_0; rw [r.ir]; rfl
    have hz : z181_0 q (fr (pre ++ t :: l)) n (pre.length : Int) = !good t := by
      unfold z181_0 g166_0
      rw [r.a0, r.a1, r.a2, r.a3, decide_eq_true hlt]
      simp [good]
    have hg : g166_0 (intAt (fr (pre ++ t :: l)) (Int.toNat (pre.length : Int)) 0) (intAt (fr (pre ++ t :: l)) (Int.toNat (pre.length : Int)) 1) (intAt (fr (pre ++ t :: l)) (Int.toNat (pre.length : Int)) 2) (intAt (fr (pre ++ t :: l)) (Int.toNat (pre.length : Int)) 3) = !good t := by
      rw [r.a0, r.a1, r.a2, r.a3]; rfl
    cases hgd : good t
    · refine ⟨(pre.length : Int), ?_, .inr ⟨by simp [hgd], by omega, hlt, by rw [hg, hgd]; rfl⟩⟩
      simp only [L181_0, hy, hz, hgd, Bool.not_false, cond_true]
    · have hp : pre.length < 1000 := by simp at hl; omega
      obtain ⟨j, h1, h2⟩ := ih (pre ++ [t]) k n (by rw [hn]; simp) (by simpa using hl) (by simp at hk; omega)
      refine ⟨j, ?_, ?_⟩
      · simp only [L181_0, hy, hz, hgd, Bool.not_true, cond_true, cond_false, w1 hp]
        rw [fr_next]
        rw [show ((pre.length + 1 : Nat) : Int) = ((pre ++ [t]).length : Int) by simp]
        exact h1
      · rw [fr_next]
        rcases h2 with ⟨a, b⟩ | ⟨a, b⟩
        · exact .inl ⟨by simp [hgd, a], b⟩
        · exact .inr ⟨by simp [hgd, a], b⟩
/-- The same: the reference's walk. -/
theorem walk_s (q q' : Bool) (l : List Op) : ∀ (pre : List Op) (k : Nat) (n : Int) (R0 : List Row), n = ((pre ++ l).length : Int) → (pre ++ l).length < 100 → l.length < k → ∃ j, L124_0 k q R0 q' (fr (pre ++ l)) n (pre.length : Int) = some (q, R0, q', fr (pre ++ l), n, j) ∧
    (l.all good = true ∧ j = n ∨ l.all good = false ∧ 0 ≤ j ∧ j < n ∧ g65_0 (intAt (fr (pre ++ l)) (Int.toNat j) 0) (intAt (fr (pre ++ l)) (Int.toNat j) 1) (intAt (fr (pre ++ l)) (Int.toNat j) 2) (intAt (fr (pre ++ l)) (Int.toNat j) 3) = false) := by
  induction l with
  | nil =>
    intro pre k n R0 hn hl hk
    obtain ⟨k, rfl⟩ : ∃ j, k = j + 1 := ⟨k - 1, by simp at hk; omega⟩
    have hd : decide ((pre.length : Int) < n) = false := decide_eq_false (by rw [hn]; simp)
    refine ⟨(pre.length : Int), ?_, .inl ⟨rfl, by rw [hn]; simp⟩⟩
    have hy : y124_0 q R0 q' (fr (pre ++ [])) n (pre.length : Int) = true := by
      unfold y124_0; rw [hd]; simp
    have hz : z124_0 q R0 q' (fr (pre ++ [])) n (pre.length : Int) = true := by
      unfold z124_0; rw [hd]; simp
    simp only [L124_0, hy, hz, cond_true]
  | cons t l ih =>
    intro pre k n R0 hn hl hk
    obtain ⟨k, rfl⟩ : ∃ j, k = j + 1 := ⟨k - 1, by simp at hk; omega⟩
    have r := row_at pre t l
    have hlt : (pre.length : Int) < n := by rw [hn]; simp; omega
    have hy : y124_0 q R0 q' (fr (pre ++ t :: l)) n (pre.length : Int) = true := by
      unfold y124_0; rw [r.ir]; rfl
    have hz : z124_0 q R0 q' (fr (pre ++ t :: l)) n (pre.length : Int) = !good t := by
      unfold z124_0
      rw [r.a0, r.a1, r.a2, r.a3, decide_eq_true hlt, sgood_eq]
      simp [good]
    have hg : g65_0 (intAt (fr (pre ++ t :: l)) (Int.toNat (pre.length : Int)) 0) (intAt (fr (pre ++ t :: l)) (Int.toNat (pre.length : Int)) 1) (intAt (fr (pre ++ t :: l)) (Int.toNat (pre.length : Int)) 2) (intAt (fr (pre ++ t :: l)) (Int.toNat (pre.length : Int)) 3) = good t := by
      rw [r.a0, r.a1, r.a2, r.a3, sgood_eq]; rfl
    cases hgd : good t
    · refine ⟨(pre.length : Int), ?_, .inr ⟨by simp [hgd], by omega, hlt, by rw [hg, hgd]⟩⟩
      simp only [L124_0, hy, hz, hgd, Bool.not_false, cond_true]
    · have hp : pre.length < 1000 := by simp at hl; omega
      obtain ⟨j, h1, h2⟩ := ih (pre ++ [t]) k n R0 (by rw [hn]; simp) (by simpa using hl) (by simp at hk; omega)
      refine ⟨j, ?_, ?_⟩
      · simp only [L124_0, hy, hz, hgd, Bool.not_true, cond_true, cond_false, w1 hp]
        rw [fr_next]
        rw [show ((pre.length + 1 : Nat) : Int) = ((pre ++ [t]).length : Int) by simp]
        exact h1
      · rw [fr_next]
        rcases h2 with ⟨a, b⟩ | ⟨a, b⟩
        · exact .inl ⟨by simp [hgd, a], b⟩
        · exact .inr ⟨by simp [hgd, a], b⟩
def lastOf (a : Op) (l : List Op) : Op := l.foldl (fun _ t => t) a
def farOf (a : Op) (l : List Op) : Op := l.foldl (fun f t => if isSum t then t else f) a
/-- Notes: the implementation's walk. -/
theorem note_i (q : Bool) (B : Int) (l : List Op) : ∀ (pre : List Op) (k : Nat) (n : Int) (a f : Op), n = ((pre ++ l).length : Int) → (pre ++ l).length < 100 → l.length < k →
    L41_0 k 0 0 0 0 0 0 0 0 0 B a.1 a.2.1 a.2.2.1 a.2.2.2 f.1 f.2.1 f.2.2.1 f.2.2.2 q (fr (pre ++ l)) n (pre.length : Int) =
      some (0, 0, 0, 0, 0, 0, 0, 0, 0, B, (lastOf a l).1, (lastOf a l).2.1, (lastOf a l).2.2.1, (lastOf a l).2.2.2, (farOf f l).1, (farOf f l).2.1, (farOf f l).2.2.1, (farOf f l).2.2.2, q, fr (pre ++ l), n, n) := by
  induction l with
  | nil =>
    intro pre k n a f hn hl hk
    obtain ⟨k, rfl⟩ : ∃ j, k = j + 1 := ⟨k - 1, by simp at hk; omega⟩
    have e : (pre.length : Int) = n := by rw [hn]; simp
    rw [e]
    have hd : decide (n < n) = false := decide_eq_false (by omega)
    simp only [L41_0, y41_0, z41_0, hd, Bool.not_false, Bool.or_true, Bool.true_or, cond_true]
    rfl
  | cons t l ih =>
    intro pre k n a f hn hl hk
    obtain ⟨k, rfl⟩ : ∃ j, k = j + 1 := ⟨k - 1, by simp at hk; omega⟩
    have r := row_at pre t l
    have hd : decide ((pre.length : Int) < n) = true := decide_eq_true (by rw [hn]; simp; omega)
    have hp : pre.length < 1000 := by simp at hl; omega
    simp only [L41_0, y41_0, z41_0, hd, r.ir, r.a0, r.a1, r.a2, r.a3, Bool.not_true, Bool.or_false, Bool.true_or, cond_true, cond_false, w1 hp]
    have h := ih (pre ++ [t]) k n t (if isSum t then t else f) (by rw [hn]; simp) (by simpa using hl) (by simp at hk; omega)
    rw [← fr_next] at h
    rw [show ((pre.length + 1 : Nat) : Int) = ((pre ++ [t]).length : Int) by simp]
    have el : lastOf a (t :: l) = lastOf t l := rfl
    have ef : farOf f (t :: l) = farOf (if isSum t then t else f) l := rfl
    rw [el, ef, ← h]
    unfold g122_5 g122_6 g122_7 g122_8
    rw [show g129_0 t.1 = isSum t from rfl]
    cases isSum t <;> rfl
theorem note_s (q : Bool) (B : Int) (l : List Op) : ∀ (pre : List Op) (k : Nat) (n : Int) (a f : Op), n = ((pre ++ l).length : Int) → (pre ++ l).length < 100 → l.length < k →
    L42_0 k 0 0 0 0 0 0 0 0 0 B a.1 a.2.1 a.2.2.1 a.2.2.2 f.1 f.2.1 f.2.2.1 f.2.2.2 q (fr (pre ++ l)) n (pre.length : Int) =
      some (0, 0, 0, 0, 0, 0, 0, 0, 0, B, (lastOf a l).1, (lastOf a l).2.1, (lastOf a l).2.2.1, (lastOf a l).2.2.2, (farOf f l).1, (farOf f l).2.1, (farOf f l).2.2.1, (farOf f l).2.2.2, q, fr (pre ++ l), n, n) := by
  induction l with
  | nil =>
    intro pre k n a f hn hl hk
    obtain ⟨k, rfl⟩ : ∃ j, k = j + 1 := ⟨k - 1, by simp at hk; omega⟩
    have e : (pre.length : Int) = n := by rw [hn]; simp
    rw [e]
    have hd : decide (n < n) = false := decide_eq_false (by omega)
    simp only [L42_0, y42_0, z42_0, hd, Bool.not_false, Bool.or_true, Bool.true_or, cond_true]
    rfl
  | cons t l ih =>
    intro pre k n a f hn hl hk
    obtain ⟨k, rfl⟩ : ∃ j, k = j + 1 := ⟨k - 1, by simp at hk; omega⟩
    have r := row_at pre t l
    have hd : decide ((pre.length : Int) < n) = true := decide_eq_true (by rw [hn]; simp; omega)
    have hp : pre.length < 1000 := by simp at hl; omega
    simp only [L42_0, y42_0, z42_0, hd, r.ir, r.a0, r.a1, r.a2, r.a3, Bool.not_true, Bool.or_false, Bool.true_or, cond_true, cond_false, w1 hp]
    have h := ih (pre ++ [t]) k n t (if isSum t then t else f) (by rw [hn]; simp) (by simpa using hl) (by simp at hk; omega)
    rw [← fr_next] at h
    rw [show ((pre.length + 1 : Nat) : Int) = ((pre ++ [t]).length : Int) by simp]
    have el : lastOf a (t :: l) = lastOf t l := rfl
    have ef : farOf f (t :: l) = farOf (if isSum t then t else f) l := rfl
    rw [el, ef, ← h]
    unfold g125_5 g125_6 g125_7 g125_8
    rw [show g141_0 t.1 = isSum t from rfl]
    cases isSum t <;> rfl
/-- Flags worked out each time. -/
def flagsOf (f : Int) (l : List Op) : Int := l.foldl mk f
theorem mk_rng {t : Op} (h : good t = true) {f : Int} (hf : 0 ≤ f ∧ f ≤ 31) : 0 ≤ mk f t ∧ mk f t ≤ 31 := by
  obtain ⟨r, p1, p2⟩ := mk_laws h
  cases hs : isSum t
  · obtain ⟨q, p⟩ := p2 hs
    rw [(p f hf).1]; omega
  · rw [(p1 hs f).1]; exact r
theorem smk_eq {t : Op} (h : good t = true) {f : Int} (hf : 0 ≤ f ∧ f ≤ 31) : smk f t = mk f t := by
  obtain ⟨r, p1, p2⟩ := mk_laws h
  cases hs : isSum t
  · obtain ⟨q, p⟩ := p2 hs
    rw [(p f hf).1, (p f hf).2]
  · rw [(p1 hs f).1, (p1 hs f).2]
theorem sh_ok {s : Int} (h : s = 1 ∨ s = 2) : decide (0 ≤ IntKind.wrap IntKind.i64 (8 * s)) = true ∧ decide (0 ≤ IntKind.wrap IntKind.i64 (IntKind.wrap IntKind.i64 (8 * s) - 1)) = true := by
  rcases h with rfl | rfl <;> decide +kernel
theorem eager_i (q : Bool) (l : List Op) : ∀ (pre : List Op) (k : Nat) (n : Int) (f : Int), n = ((pre ++ l).length : Int) → (pre ++ l).length < 100 → l.length < k → l.all good = true →
    L43_0 k f q (fr (pre ++ l)) n (pre.length : Int) = some (flagsOf f l, q, fr (pre ++ l), n, n) := by
  induction l with
  | nil =>
    intro pre k n f hn hl hk hg
    obtain ⟨k, rfl⟩ : ∃ j, k = j + 1 := ⟨k - 1, by simp at hk; omega⟩
    have e : (pre.length : Int) = n := by rw [hn]; simp
    rw [e]
    have hd : decide (n < n) = false := decide_eq_false (by omega)
    simp only [L43_0, y43_0, z43_0, hd, Bool.not_false, Bool.or_true, Bool.true_or, cond_true]
    rfl
  | cons t l ih =>
    intro pre k n f hn hl hk hg
    obtain ⟨k, rfl⟩ : ∃ j, k = j + 1 := ⟨k - 1, by simp at hk; omega⟩
    have r := row_at pre t l
    have hd : decide ((pre.length : Int) < n) = true := decide_eq_true (by rw [hn]; simp; omega)
    have hp : pre.length < 1000 := by simp at hl; omega
    have hg' : good t = true ∧ l.all good = true := by simpa using hg
    obtain ⟨s1, s2⟩ := sh_ok (good_of hg'.1).2.1
    simp only [L43_0, y43_0, z43_0, hd, r.ir, r.a0, r.a1, r.a2, r.a3, s1, s2, Bool.not_true, Bool.or_false, Bool.true_or, Bool.true_and, Bool.and_true, cond_true, cond_false, w1 hp]
    have h := ih (pre ++ [t]) k n (mk f t) (by rw [hn]; simp) (by simpa using hl) (by simp at hk; omega) hg'.2
    rw [← fr_next] at h
    rw [show ((pre.length + 1 : Nat) : Int) = ((pre ++ [t]).length : Int) by simp]
    exact h
theorem eager_s (q : Bool) (l : List Op) : ∀ (pre : List Op) (k : Nat) (n : Int) (f : Int), n = ((pre ++ l).length : Int) → (pre ++ l).length < 100 → l.length < k → l.all good = true → 0 ≤ f ∧ f ≤ 31 →
    L44_0 k f q (fr (pre ++ l)) n (pre.length : Int) = some (flagsOf f l, q, fr (pre ++ l), n, n) := by
  induction l with
  | nil =>
    intro pre k n f hn hl hk hg hf
    obtain ⟨k, rfl⟩ : ∃ j, k = j + 1 := ⟨k - 1, by simp at hk; omega⟩
    have e : (pre.length : Int) = n := by rw [hn]; simp
    rw [e]
    have hd : decide (n < n) = false := decide_eq_false (by omega)
    simp only [L44_0, y44_0, z44_0, hd, Bool.not_false, Bool.or_true, Bool.true_or, cond_true]
    rfl
  | cons t l ih =>
    intro pre k n f hn hl hk hg hf
    obtain ⟨k, rfl⟩ : ∃ j, k = j + 1 := ⟨k - 1, by simp at hk; omega⟩
    have r := row_at pre t l
    have hd : decide ((pre.length : Int) < n) = true := decide_eq_true (by rw [hn]; simp; omega)
    have hp : pre.length < 1000 := by simp at hl; omega
    have hg' : good t = true ∧ l.all good = true := by simpa using hg
    simp only [L44_0, y44_0, z44_0, hd, r.ir, r.a0, r.a1, r.a2, r.a3, Bool.not_true, Bool.or_false, Bool.true_or, Bool.true_and, Bool.and_true, cond_true, cond_false, w1 hp]
    rw [show g127_0 f t.1 t.2.1 t.2.2.1 t.2.2.2 = mk f t from smk_eq hg'.1 hf]
    have h := ih (pre ++ [t]) k n (mk f t) (by rw [hn]; simp) (by simpa using hl) (by simp at hk; omega) hg'.2 (mk_rng hg'.1 hf)
    rw [← fr_next] at h
    rw [show ((pre.length + 1 : Nat) : Int) = ((pre ++ [t]).length : Int) by simp]
    exact h
/-! What waits. -/
def Z : Op := (0, 0, 0, 0)
def xOf (B : Int) (t : Op) : Int := if t.1 = 0 then B else mk 0 t
structure G (a f : Op) : Prop where
  h : (a = Z ∧ f = Z) ∨ (good a = true ∧ (f = Z ∧ isSum a = false ∨ good f = true ∧ isSum f = true ∧ (isSum a = true → f = a)))
theorem good_ne {t : Op} (h : good t = true) : t.1 ≠ 0 := by have := (good_of h).1; omega
theorem xOf_rng {B : Int} (hB : 0 ≤ B ∧ B ≤ 31) {t : Op} (h : t = Z ∨ good t = true) : 0 ≤ xOf B t ∧ xOf B t ≤ 31 := by
  rcases h with rfl | h
  · exact hB
  · unfold xOf; rw [if_neg (good_ne h)]; exact (mk_laws h).1
theorem G_a {a f : Op} (g : G a f) : a = Z ∨ good a = true := by rcases g.h with ⟨h, _⟩ | ⟨h, _⟩ <;> simp [h]
theorem G_f {a f : Op} (g : G a f) : f = Z ∨ good f = true := by rcases g.h with ⟨_, h⟩ | ⟨_, ⟨h, _⟩ | ⟨h, _⟩⟩ <;> simp [h]
theorem G_step {a f t : Op} (g : G a f) (ht : good t = true) : G t (if isSum t = true then t else f) := by
  refine ⟨.inr ⟨ht, ?_⟩⟩
  by_cases hs : isSum t = true
  · rw [if_pos hs]; exact .inr ⟨ht, hs, fun _ => rfl⟩
  · rw [if_neg hs]
    have hs' : isSum t = false := by simpa using hs
    rcases g.h with ⟨_, h⟩ | ⟨_, ⟨h, _⟩ | ⟨h1, h2, _⟩⟩
    · exact .inl ⟨h, hs'⟩
    · exact .inl ⟨h, hs'⟩
    · exact .inr ⟨h1, h2, fun h => absurd h hs⟩
theorem inv {B : Int} (hB : 0 ≤ B ∧ B ≤ 31) (l : List Op) : ∀ (a f : Op) (e : Int), G a f → 0 ≤ e ∧ e ≤ 31 → e = xOf B f / 16 * 16 + xOf B a % 16 → l.all good = true →
    G (lastOf a l) (farOf f l) ∧ (0 ≤ flagsOf e l ∧ flagsOf e l ≤ 31) ∧ flagsOf e l = xOf B (farOf f l) / 16 * 16 + xOf B (lastOf a l) % 16 := by
  induction l with
  | nil => intro a f e g he h _; exact ⟨g, he, h⟩
  | cons t l ih =>
    intro a f e g he h hg
    have hg' : good t = true ∧ l.all good = true := by simpa using hg
    have xa := xOf_rng hB (G_a g)
    have xf := xOf_rng hB (G_f g)
    obtain ⟨r, p1, p2⟩ := mk_laws hg'.1
    have xt : xOf B t = mk 0 t := by unfold xOf; rw [if_neg (good_ne hg'.1)]
    refine ih t (if isSum t = true then t else f) (mk e t) (G_step g hg'.1) (mk_rng hg'.1 he) ?_ hg'.2
    cases hs : isSum t
    · obtain ⟨q, p⟩ := p2 hs
      rw [(p e he).1, xt]
      simp only [Bool.false_eq_true, if_false]
      omega
    · rw [(p1 hs e).1, if_pos rfl, xt]
      omega
theorem beq_n {a : Int} (h : a ≠ 0) : (a == 0) = false := beq_eq_false_iff_ne.2 h
theorem lazy_good {B : Int} {a f : Op} (hB : g128_0 B = true) (g : G a f) : g47_0 B a.1 a.2.1 a.2.2.1 a.2.2.2 f.1 f.2.1 f.2.2.1 f.2.2.2 = true := by
  unfold g47_0
  rw [hB]
  rcases g.h with ⟨rfl, rfl⟩ | ⟨ha, ⟨rfl, hs⟩ | ⟨hf, hsf, he⟩⟩
  · rfl
  · have h0 := beq_n (good_ne ha)
    have ha' : g64_0 a.1 a.2.1 a.2.2.1 a.2.2.2 = true := ha
    have hs' : g129_0 a.1 = false := hs
    rw [h0, ha', hs']
    rfl
  · have h0 := beq_n (good_ne ha)
    have h1 := beq_n (good_ne hf)
    have ha' : g64_0 a.1 a.2.1 a.2.2.1 a.2.2.2 = true := ha
    have hf' : g64_0 f.1 f.2.1 f.2.2.1 f.2.2.2 = true := hf
    have hs' : g129_0 f.1 = true := hsf
    rw [h0, h1, ha', hf', hs']
    cases hsa : isSum a
    · rw [show g129_0 a.1 = false from hsa]; rfl
    · rw [show g129_0 a.1 = true from hsa, he hsa]
      simp
theorem lazy_flags {B : Int} {a f : Op} (hB : g128_0 B = true) (g : G a f) : g45_0 B a.1 a.2.1 a.2.2.1 a.2.2.2 f.1 f.2.1 f.2.2.1 f.2.2.2 = xOf B f / 16 * 16 + xOf B a % 16 := by
  have hB' : 0 ≤ B ∧ B ≤ 31 := (within_iff B 0 31).1 hB
  unfold g45_0
  rw [lazy_good hB g, Bool.not_true, cond_false]
  have e : ∀ t : Op, (bif t.1 != 0 then g126_0 0 t.1 t.2.1 t.2.2.1 t.2.2.2 else B) = xOf B t := fun t => by
    unfold xOf
    by_cases h : t.1 = 0
    · rw [if_pos h, h]; rfl
    · rw [if_neg h, show (t.1 != 0) = true from by simp [h]]; rfl
  rw [e f, e a]
  exact (cmp_at (xOf_rng hB' (G_a g)) (xOf_rng hB' (G_f g))).2.2
/-! Whether operations may be. -/
theorem conts (q : Bool) {l : List Op} (h : l.length ≤ 41) : Option.isSome (L181_0 70 q (fr l) (↑(List.length (fr l)) : Int) 0) = true ∧ g165_0 q (fr l) = !l.all good := by
  obtain ⟨j, h1, h2⟩ := walk_i q l [] 70 (↑(List.length (fr l)) : Int) (by simp [fr_len]) (by simp; omega) (by omega)
  have h1 : L181_0 70 q (fr l) (↑(List.length (fr l)) : Int) 0 = some (q, fr l, (↑(List.length (fr l)) : Int), j) := h1
  have h2 : (l.all good = true ∧ j = (↑(List.length (fr l)) : Int) ∨ l.all good = false ∧ 0 ≤ j ∧ j < (↑(List.length (fr l)) : Int) ∧ g166_0 (intAt (fr l) (Int.toNat j) 0) (intAt (fr l) (Int.toNat j) 1) (intAt (fr l) (Int.toNat j) 2) (intAt (fr l) (Int.toNat j) 3) = true) := h2
  refine ⟨by rw [h1]; rfl, ?_⟩
  have e : w181_0_3 70 q (fr l) (↑(List.length (fr l)) : Int) 0 = j := by
    unfold w181_0_3; rw [h1]; rfl
  unfold g165_0 g181_0
  rw [e]
  rcases h2 with ⟨a, rfl⟩ | ⟨a, b, c, d⟩
  · rw [decide_eq_false (by omega : ¬ (↑(List.length (fr l)) : Int) < (↑(List.length (fr l)) : Int)), Bool.and_false, a]
    rfl
  · rw [d, decide_eq_true c, a]
    simp [b]
theorem sops (q : Bool) {l : List Op} (h : l.length ≤ 41) : Option.isSome (L124_0 70 q (fr l) q (fr l) (↑(List.length (fr l)) : Int) 0) = true ∧ g124_0 q (fr l) = (l.all good && decide ((↑(List.length (fr l)) : Int) ≤ 40)) := by
  obtain ⟨j, h1, h2⟩ := walk_s q q l [] 70 (↑(List.length (fr l)) : Int) (fr l) (by simp [fr_len]) (by simp; omega) (by omega)
  have h1 : L124_0 70 q (fr l) q (fr l) (↑(List.length (fr l)) : Int) 0 = some (q, fr l, q, fr l, (↑(List.length (fr l)) : Int), j) := h1
  have h2 : (l.all good = true ∧ j = (↑(List.length (fr l)) : Int) ∨ l.all good = false ∧ 0 ≤ j ∧ j < (↑(List.length (fr l)) : Int) ∧ g65_0 (intAt (fr l) (Int.toNat j) 0) (intAt (fr l) (Int.toNat j) 1) (intAt (fr l) (Int.toNat j) 2) (intAt (fr l) (Int.toNat j) 3) = false) := h2
  refine ⟨by rw [h1]; rfl, ?_⟩
  have e : w124_0_5 70 q (fr l) q (fr l) (↑(List.length (fr l)) : Int) 0 = j := by
    unfold w124_0_5; rw [h1]; rfl
  unfold g124_0
  rw [e]
  rcases h2 with ⟨a, rfl⟩ | ⟨a, b, c, d⟩
  · rw [decide_eq_false (by omega : ¬ (↑(List.length (fr l)) : Int) < (↑(List.length (fr l)) : Int)), Bool.and_false, a]
    rfl
  · rw [d, decide_eq_true c, a]
    rfl
theorem are_i (B : Int) {l : List Op} (h : l.length ≤ 41) : g121_0 B true (fr l) = (g128_0 B && (decide ((↑(List.length (fr l)) : Int) ≤ 40) && l.all good)) := by
  unfold g121_0
  rw [(conts true h).2]
  cases g128_0 B <;> cases decide ((↑(List.length (fr l)) : Int) ≤ 40) <;> cases l.all good <;> rfl
theorem are_s (B : Int) {l : List Op} (h : l.length ≤ 41) : (bif !g123_0 B then true else !g124_0 true (fr l)) = !g121_0 B true (fr l) := by
  rw [are_i B h, (sops true h).2, show g123_0 B = g128_0 B from rfl]
  cases g128_0 B <;> cases decide ((↑(List.length (fr l)) : Int) ≤ 40) <;> cases l.all good <;> rfl
/-! The conditions. -/
theorem part {t : Op} (h : t = Z ∨ good t = true) : ((decide (0 ≤ IntKind.wrap IntKind.i64 (8 * t.2.1)) || !t.1 == 1) && ((decide (0 ≤ IntKind.wrap IntKind.i64 (8 * t.2.1)) || !t.1 == 2) && ((decide (0 ≤ IntKind.wrap IntKind.i64 (8 * t.2.1)) || !t.1 == 3) && ((decide (0 ≤ IntKind.wrap IntKind.i64 (8 * t.2.1)) || !t.1 == 4) && (decide (0 ≤ IntKind.wrap IntKind.i64 (IntKind.wrap IntKind.i64 (8 * t.2.1) - 1)) && (decide (0 ≤ IntKind.wrap IntKind.i64 (IntKind.wrap IntKind.i64 (8 * t.2.1) - 1)) && decide (0 ≤ IntKind.wrap IntKind.i64 (8 * t.2.1))) || t.1 == 4) || t.1 == 3) || t.1 == 2) || t.1 == 1) || !t.1 != 0) = true := by
  rcases h with rfl | h
  · decide +kernel
  · obtain ⟨s1, s2⟩ := sh_ok (good_of h).2.1
    simp only [s1, s2, Bool.true_or, Bool.and_self]
section
variable {B : Int} {a f : Op} {e : Int}
theorem test_ok {k : Int} (hk : 0 ≤ k ∧ k ≤ 15) (he : 0 ≤ e ∧ e ≤ 31) : g49_1 k e = true := by
  unfold g49_1 g130_0 g128_0
  rw [(within_iff k 0 15).2 hk, (within_iff e 0 31).2 he]
  rfl
theorem cond_ok (hB : g128_0 B = true) (g : G a f) (he : 0 ≤ e ∧ e ≤ 31) (hf : e = xOf B f / 16 * 16 + xOf B a % 16) {k : Int} (hk : 0 ≤ k ∧ k ≤ 15) :
    (bif bif !g48_1 B a.1 a.2.1 a.2.2.1 a.2.2.2 f.1 f.2.1 f.2.2.1 f.2.2.2 k then true else !g49_1 k e then true else !g48_0 B a.1 a.2.1 a.2.2.1 a.2.2.2 f.1 f.2.1 f.2.2.1 f.2.2.2 k == g49_0 k e) = false := by
  have h1 : g45_1 B a.1 a.2.1 a.2.2.1 a.2.2.2 f.1 f.2.1 f.2.2.1 f.2.2.2 = true := lazy_good hB g
  unfold g48_1 g48_0
  rw [h1, lazy_flags hB g, ← hf, test_ok hk he]
  simp
theorem cond_loop (hB : g128_0 B = true) (g : G a f) (he : 0 ≤ e ∧ e ≤ 31) (hf : e = xOf B f / 16 * 16 + xOf B a % 16) : ∀ (m k i : Nat), m < k → i + m = 16 →
    L6_0 k B a.1 a.2.1 a.2.2.1 a.2.2.2 f.1 f.2.1 f.2.2.1 f.2.2.2 e (i : Int) = some (B, a.1, a.2.1, a.2.2.1, a.2.2.2, f.1, f.2.1, f.2.2.1, f.2.2.2, e, 16) := by
  intro m
  induction m with
  | zero =>
    intro k i hk hi
    obtain ⟨k, rfl⟩ : ∃ j, k = j + 1 := ⟨k - 1, by omega⟩
    have e16 : (i : Int) = 16 := by omega
    have hd : decide ((16 : Int) < 16) = false := by decide
    rw [e16]
    have hy : ∀ p, (p || !false) = true := fun p => by cases p <;> rfl
    simp only [L6_0, y6_0, z6_0, hd, Bool.not_false, Bool.or_true, Bool.true_or, cond_true]
  | succ m ih =>
    intro k i hk hi
    obtain ⟨k, rfl⟩ : ∃ j, k = j + 1 := ⟨k - 1, by omega⟩
    have hd : decide ((i : Int) < 16) = true := decide_eq_true (by omega)
    have c := cond_ok hB g he hf (k := (i : Int)) ⟨by omega, by omega⟩
    have hw : IntKind.wrap IntKind.i64 ((i : Int) + 1) = ((i + 1 : Nat) : Int) := w1 (by omega)
    have hy : y6_0 B a.1 a.2.1 a.2.2.1 a.2.2.2 f.1 f.2.1 f.2.2.1 f.2.2.2 e (i : Int) = true := by
      unfold y6_0
      rw [part (G_f g), part (G_a g)]
      rfl
    have hz : z6_0 B a.1 a.2.1 a.2.2.1 a.2.2.2 f.1 f.2.1 f.2.2.1 f.2.2.2 e (i : Int) = false := by
      unfold z6_0
      rw [hd, c]
      rfl
    simp only [L6_0, hy, hz, cond_true, cond_false, hw]
    exact ih k (i + 1) (by omega) (by omega)
end
/-! The law. -/
structure Run (B : Int) (l : List Op) : Prop where
  hB : g128_0 B = true
  len : l.length ≤ 40
  all : l.all good = true
  n1 : L41_0 70 0 0 0 0 0 0 0 0 0 B 0 0 0 0 0 0 0 0 true (fr l) (↑(List.length (fr l)) : Int) 0 = some (0, 0, 0, 0, 0, 0, 0, 0, 0, B, (lastOf Z l).1, (lastOf Z l).2.1, (lastOf Z l).2.2.1, (lastOf Z l).2.2.2, (farOf Z l).1, (farOf Z l).2.1, (farOf Z l).2.2.1, (farOf Z l).2.2.2, true, fr l, (↑(List.length (fr l)) : Int), (↑(List.length (fr l)) : Int))
  n2 : L42_0 70 0 0 0 0 0 0 0 0 0 B 0 0 0 0 0 0 0 0 true (fr l) (↑(List.length (fr l)) : Int) 0 = some (0, 0, 0, 0, 0, 0, 0, 0, 0, B, (lastOf Z l).1, (lastOf Z l).2.1, (lastOf Z l).2.2.1, (lastOf Z l).2.2.2, (farOf Z l).1, (farOf Z l).2.1, (farOf Z l).2.2.1, (farOf Z l).2.2.2, true, fr l, (↑(List.length (fr l)) : Int), (↑(List.length (fr l)) : Int))
  n3 : L43_0 70 B true (fr l) (↑(List.length (fr l)) : Int) 0 = some (flagsOf B l, true, fr l, (↑(List.length (fr l)) : Int), (↑(List.length (fr l)) : Int))
  n4 : L44_0 70 B true (fr l) (↑(List.length (fr l)) : Int) 0 = some (flagsOf B l, true, fr l, (↑(List.length (fr l)) : Int), (↑(List.length (fr l)) : Int))
  g : G (lastOf Z l) (farOf Z l)
  er : 0 ≤ flagsOf B l ∧ flagsOf B l ≤ 31
  ee : flagsOf B l = xOf B (farOf Z l) / 16 * 16 + xOf B (lastOf Z l) % 16
theorem run_of {B : Int} {l : List Op} (h41 : l.length ≤ 41) (h : g121_0 B true (fr l) = true) : Run B l := by
  rw [are_i B h41] at h
  have h' : g128_0 B = true ∧ (List.length (fr l) : Int) ≤ 40 ∧ l.all good = true := by
    have a := Bool.and_eq_true_iff.1 h
    have b := Bool.and_eq_true_iff.1 a.2
    exact ⟨a.1, of_decide_eq_true b.1, b.2⟩
  obtain ⟨hB, h40, hg⟩ := h'
  rw [fr_len] at h40
  have hB' : 0 ≤ B ∧ B ≤ 31 := (within_iff B 0 31).1 hB
  have hn : (↑(List.length (fr l)) : Int) = (([] ++ l : List Op).length : Int) := by simp [fr_len]
  have hl : ([] ++ l : List Op).length < 100 := by simp; omega
  obtain ⟨g, er, ee⟩ := inv hB' l Z Z B ⟨.inl ⟨rfl, rfl⟩⟩ hB' (by show B = B / 16 * 16 + B % 16; omega) hg
  exact ⟨hB, by omega, hg, note_i true B l [] 70 _ Z Z hn hl (by omega), note_s true B l [] 70 _ Z Z hn hl (by omega), eager_i true l [] 70 _ B hn hl (by omega) hg, eager_s true l [] 70 _ B hn hl (by omega) hg hB', g, er, ee⟩
structure Sts (x0 : List Row) (B : Int) (l : List Op) : Prop where
  a0 : g41_0 B true (fr l) = B
  a1 : g41_1 B true (fr l) = (lastOf Z l).1
  a2 : g41_2 B true (fr l) = (lastOf Z l).2.1
  a3 : g41_3 B true (fr l) = (lastOf Z l).2.2.1
  a4 : g41_4 B true (fr l) = (lastOf Z l).2.2.2
  a5 : g41_5 B true (fr l) = (farOf Z l).1
  a6 : g41_6 B true (fr l) = (farOf Z l).2.1
  a7 : g41_7 B true (fr l) = (farOf Z l).2.2.1
  a8 : g41_8 B true (fr l) = (farOf Z l).2.2.2
  a9 : g41_9 B true (fr l) = true
  b0 : g42_0 B true (fr l) = B
  b1 : g42_1 B true (fr l) = (lastOf Z l).1
  b2 : g42_2 B true (fr l) = (lastOf Z l).2.1
  b3 : g42_3 B true (fr l) = (lastOf Z l).2.2.1
  b4 : g42_4 B true (fr l) = (lastOf Z l).2.2.2
  b5 : g42_5 B true (fr l) = (farOf Z l).1
  b6 : g42_6 B true (fr l) = (farOf Z l).2.1
  b7 : g42_7 B true (fr l) = (farOf Z l).2.2.1
  b8 : g42_8 B true (fr l) = (farOf Z l).2.2.2
  b9 : g42_9 B true (fr l) = true
  c0 : g43_0 B true (fr l) = flagsOf B l
  c1 : g43_1 B true (fr l) = true
  d0 : g44_0 B true (fr l) = flagsOf B l
  d1 : g44_1 B true (fr l) = true
theorem sts {x0 : List Row} {B : Int} {l : List Op} (h41 : l.length ≤ 41) (h : g121_0 B true (fr l) = true) : Sts x0 B l := by
  have r := run_of h41 h
  have hs := are_s B h41
  rw [h] at hs
  have hs : (bif !g123_0 B then true else !g124_0 true (fr l)) = false := hs
  have i : ∀ {α : Type} (φ : Int × Int × Int × Int × Int × Int × Int × Int × Int × Int × Int × Int × Int × Int × Int × Int × Int × Int × Bool × List Row × Int × Int → α), φ ((L41_0 70 0 0 0 0 0 0 0 0 0 B 0 0 0 0 0 0 0 0 true (fr l) (↑(List.length (fr l)) : Int) 0).getD (default, default, default, default, default, default, default, default, default, default, default, default, default, default, default, default, default, default, default, default, default, default)) = φ (0, 0, 0, 0, 0, 0, 0, 0, 0, B, (lastOf Z l).1, (lastOf Z l).2.1, (lastOf Z l).2.2.1, (lastOf Z l).2.2.2, (farOf Z l).1, (farOf Z l).2.1, (farOf Z l).2.2.1, (farOf Z l).2.2.2, true, fr l, (↑(List.length (fr l)) : Int), (↑(List.length (fr l)) : Int)) := fun φ => by rw [r.n1]; rfl
  have j : ∀ {α : Type} (φ : Int × Int × Int × Int × Int × Int × Int × Int × Int × Int × Int × Int × Int × Int × Int × Int × Int × Int × Bool × List Row × Int × Int → α), φ ((L42_0 70 0 0 0 0 0 0 0 0 0 B 0 0 0 0 0 0 0 0 true (fr l) (↑(List.length (fr l)) : Int) 0).getD (default, default, default, default, default, default, default, default, default, default, default, default, default, default, default, default, default, default, default, default, default, default)) = φ (0, 0, 0, 0, 0, 0, 0, 0, 0, B, (lastOf Z l).1, (lastOf Z l).2.1, (lastOf Z l).2.2.1, (lastOf Z l).2.2.2, (farOf Z l).1, (farOf Z l).2.1, (farOf Z l).2.2.1, (farOf Z l).2.2.2, true, fr l, (↑(List.length (fr l)) : Int), (↑(List.length (fr l)) : Int)) := fun φ => by rw [r.n2]; rfl
  constructor
  · unfold g41_0; rw [h]; rfl
  · unfold g41_1; rw [h]; exact i fun z => z.2.2.2.2.2.2.2.2.2.2.1
  · unfold g41_2; rw [h]; exact i fun z => z.2.2.2.2.2.2.2.2.2.2.2.1
  · unfold g41_3; rw [h]; exact i fun z => z.2.2.2.2.2.2.2.2.2.2.2.2.1
  · unfold g41_4; rw [h]; exact i fun z => z.2.2.2.2.2.2.2.2.2.2.2.2.2.1
  · unfold g41_5; rw [h]; exact i fun z => z.2.2.2.2.2.2.2.2.2.2.2.2.2.2.1
  · unfold g41_6; rw [h]; exact i fun z => z.2.2.2.2.2.2.2.2.2.2.2.2.2.2.2.1
  · unfold g41_7; rw [h]; exact i fun z => z.2.2.2.2.2.2.2.2.2.2.2.2.2.2.2.2.1
  · unfold g41_8; rw [h]; exact i fun z => z.2.2.2.2.2.2.2.2.2.2.2.2.2.2.2.2.2.1
  · exact h
  · unfold g42_0; rw [hs]; rfl
  · unfold g42_1; rw [hs]; exact j fun z => z.2.2.2.2.2.2.2.2.2.2.1
  · unfold g42_2; rw [hs]; exact j fun z => z.2.2.2.2.2.2.2.2.2.2.2.1
  · unfold g42_3; rw [hs]; exact j fun z => z.2.2.2.2.2.2.2.2.2.2.2.2.1
  · unfold g42_4; rw [hs]; exact j fun z => z.2.2.2.2.2.2.2.2.2.2.2.2.2.1
  · unfold g42_5; rw [hs]; exact j fun z => z.2.2.2.2.2.2.2.2.2.2.2.2.2.2.1
  · unfold g42_6; rw [hs]; exact j fun z => z.2.2.2.2.2.2.2.2.2.2.2.2.2.2.2.1
  · unfold g42_7; rw [hs]; exact j fun z => z.2.2.2.2.2.2.2.2.2.2.2.2.2.2.2.2.1
  · unfold g42_8; rw [hs]; exact j fun z => z.2.2.2.2.2.2.2.2.2.2.2.2.2.2.2.2.2.1
  · unfold g42_9; rw [hs]; rfl
  · unfold g43_0 w43_0_0; rw [h, r.n3]; rfl
  · exact h
  · unfold g44_0 w44_0_0; rw [hs, r.n4]; rfl
  · unfold g44_1; rw [hs]; rfl
structure Off (B : Int) (l : List Op) : Prop where
  a9 : g41_9 B true (fr l) = false
  s1 : ∀ x0, g120_0 x0 = B → g120_1 x0 = fr l → g6_s1 x0 = false
theorem off {B : Int} {l : List Op} (h41 : l.length ≤ 41) (h : g121_0 B true (fr l) = false) : Off B l := by
  have hs := are_s B h41
  rw [h] at hs
  have hs : (bif !g123_0 B then true else !g124_0 true (fr l)) = true := hs
  refine ⟨h, fun x0 e1 e2 => ?_⟩
  unfold g6_s1
  rw [e1, e2]
  unfold g41_0 g41_1 g41_2 g41_3 g41_4 g41_5 g41_6 g41_7 g41_8 g41_9 g42_0 g42_1 g42_2 g42_3 g42_4 g42_5 g42_6 g42_7 g42_8 g42_9 g43_0 g43_1 g44_0 g44_1
  rw [h, hs]
  rfl
theorem pure6 (x0 : List Row) (h0 : bytesOk x0 = true) : g6_0 x0 = true := by
  obtain ⟨l, hl, h41⟩ := (ops_d h0).rows
  have hR : g120_1 x0 = fr l := hl
  generalize hB : g120_0 x0 = B
  cases h : g121_0 B true (fr l)
  · have o := off h41 h
    have e1 := o.s1 x0 hB hR
    unfold g6_0
    rw [e1, hB, hR, o.a9]
    simp
  · have s := sts (x0 := x0) h41 h
    have r := run_of h41 h
    have fg := lazy_good r.hB r.g
    have ff := lazy_flags r.hB r.g
    rw [← r.ee] at ff
    have cl : L6_0 70 B (lastOf Z l).1 (lastOf Z l).2.1 (lastOf Z l).2.2.1 (lastOf Z l).2.2.2 (farOf Z l).1 (farOf Z l).2.1 (farOf Z l).2.2.1 (farOf Z l).2.2.2 (flagsOf B l) 0 = _ := cond_loop r.hB r.g r.er r.ee 16 70 0 (by omega) (by omega)
    have f1 : g45_1 B (lastOf Z l).1 (lastOf Z l).2.1 (lastOf Z l).2.2.1 (lastOf Z l).2.2.2 (farOf Z l).1 (farOf Z l).2.1 (farOf Z l).2.2.1 (farOf Z l).2.2.2 = true := fg
    have e4 : g6_s4 x0 = 16 := by
      unfold g6_s4 w6_0_10
      rw [hB, hR, s.a0, s.a1, s.a2, s.a3, s.a4, s.a5, s.a6, s.a7, s.a8, s.c0, cl]
      rfl
    have e1 : g6_s1 x0 = false := by
      unfold g6_s1
      rw [hB, hR, s.a0, s.a1, s.a2, s.a3, s.a4, s.a5, s.a6, s.a7, s.a8, s.a9, s.b0, s.b1, s.b2, s.b3, s.b4, s.b5, s.b6, s.b7, s.b8, s.b9, s.c0, s.c1, s.d0, s.d1]
      simp
    have e3 : g6_s3 x0 = false := by
      have ht : IntKind.wrap IntKind.i64 (Int.tdiv (flagsOf B l) 16) = Int.fdiv (flagsOf B l) 16 := by
        have := r.er
        rw [IntKind.wrap_i64, Int.tdiv_eq_ediv_of_nonneg this.1, Int.fdiv_eq_ediv_of_nonneg _ (by decide)]
        omega
      unfold g6_s3 g6_s2
      rw [hB, hR, s.a0, s.a1, s.a2, s.a3, s.a4, s.a5, s.a6, s.a7, s.a8, s.c0]
      unfold g46_0 g46_1 g46_2
      rw [fg, f1, ff, ht]
      simp
    unfold g6_0
    rw [e1, e3, e4]
    simp
theorem okL (x0 : List Row) (h0 : bytesOk x0 = true) : ∃ ok, q6 [.one (.imm true 1 x0)] [] = some ((SV.one (T.lit (Value.bool (g6_0 x0))), []), ok) ∧ ok = true := by
  refine ⟨_, rfl, ?_⟩
  have od := ops_d h0
  obtain ⟨l, hl, h41⟩ := od.rows
  have hR : g120_1 x0 = fr l := hl
  have ok1 : Option.isSome (L164_0 70 [] x0 (bif g83_0 x0 2 (g73_3 x0 1 (g6_s6 x0) 8) 20 then 4 else 3) (g164_s3 x0 1 (g6_s6 x0)) (g164_s4 x0 1 (g6_s6 x0))) = true := od.ok
  generalize hB : g120_0 x0 = B
  have c1 := (conts true h41).1
  have c2 := (sops true h41).1
  have hs := are_s B h41
  have e7 : g6_s7 x0 = true := by unfold g6_s7; rw [hR, c1]; rfl
  have e8 : g6_s8 x0 = true := by unfold g6_s8; rw [hR, c2]; rfl
  have e9 : g6_s9 x0 = !g121_0 B true (fr l) := by unfold g6_s9; rw [hB, hR]; exact hs
  rw [h0, ok1, e7, e8, e9, hR]
  cases h : g121_0 B true (fr l)
  · have a9 : g41_9 B true (fr l) = false := h
    rw [a9]
    simp
  · have s := sts (x0 := x0) h41 h
    have r := run_of h41 h
    have cl : L6_0 70 B (lastOf Z l).1 (lastOf Z l).2.1 (lastOf Z l).2.2.1 (lastOf Z l).2.2.2 (farOf Z l).1 (farOf Z l).2.1 (farOf Z l).2.2.1 (farOf Z l).2.2.2 (flagsOf B l) 0 = _ := cond_loop r.hB r.g r.er r.ee 16 70 0 (by omega) (by omega)
    have e26 : g6_s26 x0 = true := by
      unfold g6_s26 g6_s11 g6_s12 g6_s13 g6_s14 g6_s15 g6_s17 g6_s19 g6_s20 g6_s21 g6_s22 g6_s23 g6_s25 g6_s16 g6_s24 g6_s10 g6_s18
      rw [hB, hR, s.a1, s.a2, s.a5, s.a6, part (G_f r.g), part (G_a r.g)]
      rfl
    rw [e26, s.a0, s.a1, s.a2, s.a3, s.a4, s.a5, s.a6, s.a7, s.a8, s.c0, r.n1, r.n2, r.n3, r.n4, cl]
    simp
theorem pureL (x0 : List Row) (h0 : bytesOk x0 = true) : g6_0 x0 = true := pure6 x0 h0
end Go.Proofs.YtilfpkfifdhhdaaLazy
