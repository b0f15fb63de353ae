/- Notes: the plain law. -/
import Derived.Test.YtilfpkfifdhhdaaZqNotesQ
import Derived.Test.YtilfpkfifdhhdaaZqList
set_option linter.unusedVariables false
set_option linter.unusedSimpArgs false
namespace Go.Proofs.YtilfpkfifdhhdaaNotes
open Go Go.Zq
set_option maxHeartbeats 4000000
set_option maxRecDepth 100000

/-! Draws of operations: rows of four numbers. -/
abbrev Op := Int × Int × Int × Int
def row (t : Op) : Row := [.lit (.int .i64 t.1), .lit (.int .i64 t.2.1), .lit (.int .i64 t.2.2.1), .lit (.int .i64 t.2.2.2)]
def fr (l : List Op) : List Row := l.map row
theorem fr_len (l : List Op) : (fr l).length = l.length := by simp [fr]
theorem posA {p : Int} (hp : okTo 40 p = true) {v1 : List Row} {c : Bool} {x y z : Int} :
    2 ≤ (bif c then p + 1 + 1 + g93_2 v1 (p + 1 + 1) x y + g93_2 v1 (p + 1 + 1 + g93_2 v1 (p + 1 + 1) x y) z y else p + 1 + 1 + g93_2 v1 (p + 1 + 1) x y) - p ∧ (bif c then p + 1 + 1 + g93_2 v1 (p + 1 + 1) x y + g93_2 v1 (p + 1 + 1 + g93_2 v1 (p + 1 + 1) x y) z y else p + 1 + 1 + g93_2 v1 (p + 1 + 1) x y) - p ≤ 16 := by
  have h1 := b93_2 v1 (p + 1 + 1) x y
  have h2 := b93_2 v1 (p + 1 + 1 + g93_2 v1 (p + 1 + 1) x y) z y
  have := h1.1; have := h1.2; have := h2.1; have := h2.2
  cases c
  · simp only [cond_false]; omega
  · simp only [cond_true]; omega
theorem ok_rng {k p q : Int} (hp : okTo 40 p = true) (h0 : p ≤ q) (h1 : q + k ≤ p + 40) : okTo k q = true := by
  rw [okTo_iff] at *
  omega
theorem posy {v0 v1 : List Row} {p s n : Int} (hb : bytesOk v1 = true) (hp : okTo 40 p = true) (hl : v0.length ≤ 100) : y164_0 v0 v1 p s n = true := by
  have q0 : okTo 2 p = true := ok_rng hp (by omega) (by omega)
  have q1 : okTo 7 (p + 1 + 1) = true := ok_rng hp (by omega) (by omega)
  have q2 : ∀ x y, okTo 7 (p + 1 + 1 + g93_2 v1 (p + 1 + 1) x y) = true := fun x y => by
    have h := b93_2 v1 (p + 1 + 1) x y
    have := h.1; have := h.2
    exact ok_rng hp (by omega) (by omega)
  have l1 : decide ((v0.length + 1) * 32 ≤ 140737488355328) = true := decide_eq_true (by omega)
  have l2 : decide (v0.length + 1 ≤ 140737488355328) = true := decide_eq_true (by omega)
  unfold y164_0 g139_s21 g139_s22
  simp only [hb, q0, q1, q2, l1, l2, Bool.true_and, Bool.and_true, Bool.true_or]
  have A := @posA p hp v1 (decide (IntKind.wrap IntKind.i64 ((1 : Int) + g73_0 v1 p s (5 : Int)) ≤ (3 : Int))) (g73_3 v1 (p + 1) (g73_3 v1 p s 5) 2) (IntKind.wrap IntKind.i64 (1 + g73_0 v1 (p + 1) (g73_3 v1 p s 5) 2)) (g93_3 v1 (p + 1 + 1) (g73_3 v1 (p + 1) (g73_3 v1 p s 5) 2) (IntKind.wrap IntKind.i64 (1 + g73_0 v1 (p + 1) (g73_3 v1 p s 5) 2)))
  revert A
  generalize (bif decide (IntKind.wrap IntKind.i64 ((1 : Int) + g73_0 v1 p s (5 : Int)) ≤ (3 : Int)) then p + 1 + 1 + g93_2 v1 (p + 1 + 1) (g73_3 v1 (p + 1) (g73_3 v1 p s 5) 2) (IntKind.wrap IntKind.i64 (1 + g73_0 v1 (p + 1) (g73_3 v1 p s 5) 2)) + g93_2 v1 (p + 1 + 1 + g93_2 v1 (p + 1 + 1) (g73_3 v1 (p + 1) (g73_3 v1 p s 5) 2) (IntKind.wrap IntKind.i64 (1 + g73_0 v1 (p + 1) (g73_3 v1 p s 5) 2))) (g93_3 v1 (p + 1 + 1) (g73_3 v1 (p + 1) (g73_3 v1 p s 5) 2) (IntKind.wrap IntKind.i64 (1 + g73_0 v1 (p + 1) (g73_3 v1 p s 5) 2))) (IntKind.wrap IntKind.i64 (1 + g73_0 v1 (p + 1) (g73_3 v1 p s 5) 2)) else p + 1 + 1 + g93_2 v1 (p + 1 + 1) (g73_3 v1 (p + 1) (g73_3 v1 p s 5) 2) (IntKind.wrap IntKind.i64 (1 + g73_0 v1 (p + 1) (g73_3 v1 p s 5) 2))) = a
  intro A
  have a1 : okTo 1 a = true := ok_rng hp (by omega) (by omega)
  have a2 : okTo 1 (a + 1) = true := ok_rng hp (by omega) (by omega)
  have a3 : okTo 1 (a + 1 + 1) = true := ok_rng hp (by omega) (by omega)
  have a5 : okTo 5 (a + 1 + 1 + 1) = true := ok_rng hp (by omega) (by omega)
  have a6 : ∀ x, okTo 1 (a + 1 + 1 + 1 + g150_2 v1 (a + 1 + 1 + 1) x) = true := fun x => by
    have h := b150_2 v1 (a + 1 + 1 + 1) x
    have := h.1; have := h.2
    exact ok_rng hp (by omega) (by omega)
  simp only [a1, a2, a3, a5, a6, Bool.true_and, Bool.and_true, Bool.true_or]
theorem ops_loop {v1 : List Row} (hb : bytesOk v1 = true) (n : Nat) (hn : n ≤ 60) : ∀ (k : Nat) (v0 : List Row) (p s : Int), n < k → v0.length + n ≤ 90 → okTo (40 + 26 * n) p = true →
    ∃ l p' s', L164_0 k v0 v1 p s (n : Int) = some (v0 ++ fr l, v1, p', s', 0) ∧ l.length = n ∧ p ≤ p' ∧ p' ≤ p + 26 * n := by
  induction n with
  | zero =>
    intro k v0 p s hk hl hp
    obtain ⟨k, rfl⟩ : ∃ j, k = j + 1 := ⟨k - 1, by omega⟩
    refine ⟨[], p, s, ?_, rfl, by omega, by omega⟩
    have hy := @posy v0 v1 p s ((0 : Nat) : Int) hb (okTo_le hp (by omega)) (by omega)
    have hz : z164_0 v0 v1 p s ((0 : Nat) : Int) = true := rfl
    simp only [L164_0, hy, hz, cond_true]
    simp [fr]
  | succ n ih =>
    intro k v0 p s hk hl hp
    obtain ⟨k, rfl⟩ : ∃ j, k = j + 1 := ⟨k - 1, by omega⟩
    have hy := @posy v0 v1 p s ((n + 1 : Nat) : Int) hb (okTo_le hp (by omega)) (by omega)
    have hz : z164_0 v0 v1 p s ((n + 1 : Nat) : Int) = false := by
      unfold z164_0
      rw [decide_eq_true (by omega : ((n + 1 : Nat) : Int) > 0)]
      rfl
    have e : IntKind.wrap IntKind.i64 (((n + 1 : Nat) : Int) - 1) = (n : Int) := by rw [IntKind.wrap_i64]; omega
    simp only [L164_0, hy, hz, cond_true, cond_false, e]
    have hb5 := b139_5 v1 p s
    obtain ⟨l, p', s', h1, h2, h3, h4⟩ := ih (by omega) k (v0 ++ [[T.lit (Value.int IntKind.i64 (g139_0 v1 p s)), T.lit (Value.int IntKind.i64 (g139_1 v1 p s)), T.lit (Value.int IntKind.i64 (g139_2 v1 p s)), T.lit (Value.int IntKind.i64 (g139_3 v1 p s))]]) (p + g139_5 v1 p s) (g139_6 v1 p s) (by omega) (by simp; omega) (by
      have := hb5.1; have := hb5.2
      rw [okTo_iff] at *
      omega)
    refine ⟨(g139_0 v1 p s, g139_1 v1 p s, g139_2 v1 p s, g139_3 v1 p s) :: l, p', s', ?_, by simp [h2], by have := hb5.1; omega, by have := hb5.2; omega⟩
    rw [h1]
    simp [fr, row]
structure OpsD (x0 : List Row) (s : Int) : Prop where
  ok : Option.isSome (L164_0 70 [] x0 (bif g83_0 x0 2 (g73_3 x0 1 s 8) 20 then 4 else 3) (g164_s3 x0 1 s) (g164_s4 x0 1 s)) = true
  rows : ∃ l, g164_3 x0 1 s = fr l ∧ l.length ≤ 41
  pos : 0 ≤ g164_1 x0 1 s ∧ g164_1 x0 1 s ≤ 2000
theorem ops_d {x0 : List Row} (hb : bytesOk x0 = true) (s : Int) : OpsD x0 s := by
  have hn : 0 ≤ g164_s4 x0 1 s ∧ g164_s4 x0 1 s ≤ 41 := by
    unfold g164_s4
    have r1 := pick_rng hb (p := 1 + 1 + 1) (by decide) (g164_s2 x0 1 s) (n := 2) (by decide)
    have r2 := pick_rng hb (p := 1) (by decide) s (n := 8) (by decide)
    cases g164_s0 x0 1 s
    · simp only [cond_false]; omega
    · simp only [cond_true]; rw [IntKind.wrap_i64]; omega
  obtain ⟨n, hn'⟩ := Int.eq_ofNat_of_zero_le hn.1
  have hp4 : 0 ≤ (bif g83_0 x0 2 (g73_3 x0 1 s 8) 20 then (4 : Int) else 3) ∧ (bif g83_0 x0 2 (g73_3 x0 1 s 8) 20 then (4 : Int) else 3) ≤ 4 := by
    cases g83_0 x0 2 (g73_3 x0 1 s 8) 20 <;> exact ⟨by decide, by decide⟩
  have hpos : okTo (40 + 26 * (n : Int)) (bif g83_0 x0 2 (g73_3 x0 1 s 8) 20 then 4 else 3) = true := by
    rw [okTo_iff]; omega
  obtain ⟨l, p', s', h1, h2, h3, h4⟩ := ops_loop hb n (by omega) 70 [] _ (g164_s3 x0 1 s) (by omega) (by simp; omega) hpos
  rw [← hn'] at h1
  have e : g164_3 x0 1 s = ((L164_0 70 [] x0 (bif g83_0 x0 2 (g73_3 x0 1 s 8) 20 then 4 else 3) (g164_s3 x0 1 s) (g164_s4 x0 1 s)).getD (default, default, default, default, default)).1 := rfl
  have e1 : g164_1 x0 1 s = ((L164_0 70 [] x0 (bif g83_0 x0 2 (g73_3 x0 1 s 8) 20 then 4 else 3) (g164_s3 x0 1 s) (g164_s4 x0 1 s)).getD (default, default, default, default, default)).2.2.1 := rfl
  have e2 : g164_1 x0 1 s = p' := by rw [e1, h1]; rfl
  exact ⟨by rw [h1]; rfl, ⟨l, by rw [e, h1]; rfl, by omega⟩, by rw [e2]; omega⟩
/-! What operations make of flags. -/
theorem lim_b (n : Int) (h : n = 1 ∨ n = 2) : g156_0 n = g152_0 n := by
  rcases h with rfl | rfl
  · exact (by decide +kernel : g156_0 1 = g152_0 1)
  · exact (by decide +kernel : g156_0 2 = g152_0 2)
theorem lim1 : g152_0 1 = 256 := by decide +kernel
theorem lim2 : g152_0 2 = 65536 := by decide +kernel
def orI (a b : Int) : Int := IntKind.wrap IntKind.i64 (↑(BitVec.toNat (BitVec.ofInt 64 a ||| BitVec.ofInt 64 b)) : Int)
def andI (a b : Int) : Int := IntKind.wrap IntKind.i64 (↑(BitVec.toNat (BitVec.ofInt 64 a &&& BitVec.ofInt 64 b)) : Int)
def andnI (a b : Int) : Int := IntKind.wrap IntKind.i64 (↑(BitVec.toNat (BitVec.ofInt 64 a &&& ~~~BitVec.ofInt 64 b)) : Int)
def fl (c : Bool) (n : Int) : Int := bif c then n else 0
def zn (z n : Bool) : Int := orI (fl z 4) (fl n 8)
def fl5 (c o z n : Bool) : Int := orI (orI (fl c 17) (fl o 2)) (zn z n)
theorem f32 {f : Int} (h0 : 0 ≤ f) (h1 : f ≤ 31) : ∃ i : Fin 32, f = (i.val : Int) := ⟨⟨f.toNat, by omega⟩, by simp; omega⟩
theorem f16 {f : Int} (h0 : 0 ≤ f) (h1 : f ≤ 15) : ∃ i : Fin 16, f = (i.val : Int) := ⟨⟨f.toNat, by omega⟩, by simp; omega⟩
theorem zn_rng (z n : Bool) : 0 ≤ zn z n ∧ zn z n ≤ 15 := by cases z <;> cases n <;> decide +kernel
theorem fl5_rng (c o z n : Bool) : 0 ≤ fl5 c o z n ∧ fl5 c o z n ≤ 31 := by cases c <;> cases o <;> cases z <;> cases n <;> decide +kernel
theorem cmp_all : ∀ g f : Fin 32, orI (andnI (g.val : Int) 16) (andI (f.val : Int) 16) = (f.val : Int) / 16 * 16 + (g.val : Int) % 16 ∧ orI (andI (g.val : Int) 15) (andI (f.val : Int) 16) = (f.val : Int) / 16 * 16 + (g.val : Int) % 16 ∧ orI (andI (f.val : Int) 16) (andnI (g.val : Int) 16) = (f.val : Int) / 16 * 16 + (g.val : Int) % 16 := by decide +kernel
theorem log_all : ∀ (f : Fin 32) (z : Fin 16), orI (andI (f.val : Int) 16) (z.val : Int) = (f.val : Int) / 16 * 16 + (z.val : Int) := by decide +kernel
def turnOk (f : Fin 32) (z : Fin 16) (e : Bool) : Prop :=
  orI (orI (orI (IntKind.wrap IntKind.i64 (fl e 1 * 1)) (andI (f.val : Int) 16)) 0) (z.val : Int) = (f.val : Int) / 16 * 16 + orI (fl e 1) (z.val : Int) ∧
  orI (orI (orI (fl e 1) (z.val : Int)) 0) (andI (f.val : Int) 16) = (f.val : Int) / 16 * 16 + orI (fl e 1) (z.val : Int) ∧ 0 ≤ orI (fl e 1) (z.val : Int) ∧ orI (fl e 1) (z.val : Int) ≤ 15
instance (f : Fin 32) (z : Fin 16) (e : Bool) : Decidable (turnOk f z e) := by unfold turnOk; infer_instance
theorem turn_all : ∀ (f : Fin 32) (z : Fin 16) (e : Bool), turnOk f z e := by decide +kernel
theorem cmp_at {g f : Int} (hg : 0 ≤ g ∧ g ≤ 31) (hf : 0 ≤ f ∧ f ≤ 31) : orI (andnI g 16) (andI f 16) = f / 16 * 16 + g % 16 ∧ orI (andI g 15) (andI f 16) = f / 16 * 16 + g % 16 ∧ orI (andI f 16) (andnI g 16) = f / 16 * 16 + g % 16 := by
  obtain ⟨i, rfl⟩ := f32 hg.1 hg.2
  obtain ⟨j, rfl⟩ := f32 hf.1 hf.2
  exact cmp_all i j
theorem log_at {f z : Int} (hf : 0 ≤ f ∧ f ≤ 31) (hz : 0 ≤ z ∧ z ≤ 15) : orI (andI f 16) z = f / 16 * 16 + z := by
  obtain ⟨i, rfl⟩ := f32 hf.1 hf.2
  obtain ⟨j, rfl⟩ := f16 hz.1 hz.2
  exact log_all i j
theorem turn_at {f z : Int} (hf : 0 ≤ f ∧ f ≤ 31) (hz : 0 ≤ z ∧ z ≤ 15) (e : Bool) :
    orI (orI (orI (IntKind.wrap IntKind.i64 (fl e 1 * 1)) (andI f 16)) 0) z = f / 16 * 16 + orI (fl e 1) z ∧
    orI (orI (orI (fl e 1) z) 0) (andI f 16) = f / 16 * 16 + orI (fl e 1) z ∧ 0 ≤ orI (fl e 1) z ∧ orI (fl e 1) z ≤ 15 := by
  obtain ⟨i, rfl⟩ := f32 hf.1 hf.2
  obtain ⟨j, rfl⟩ := f16 hz.1 hz.2
  exact turn_all i j e
/-! The functions, in those words. -/
theorem mask_s {s : Int} (h : s = 1 ∨ s = 2) (z : Int) : andI z (IntKind.wrap IntKind.i64 (g152_0 s - 1)) = z % g152_0 s := by
  rcases h with rfl | rfl
  · rw [lim1]; exact mask_at z 8 (by decide)
  · rw [lim2]; exact mask_at z 16 (by decide)
def val (s z : Int) : Int := andI z (IntKind.wrap IntKind.i64 (g152_0 s - 1))
def half (s : Int) : Int := IntKind.wrap IntKind.i64 (Int.tdiv (g152_0 s) 2)
def sgn (s v : Int) : Int := bif decide (v ≥ half s) then IntKind.wrap IntKind.i64 (v - g152_0 s) else v
theorem reck_eq (s z w : Int) : g182_1 s z w = fl5 (z != val s z) (w != sgn s (val s z)) (val s z == 0) (decide (val s z ≥ half s)) := rfl
theorem iadd_eq (s a b : Int) : g167_1 s 0 a b = g182_1 s (IntKind.wrap .i64 (IntKind.wrap .i64 (a + b) + 0)) (IntKind.wrap .i64 (IntKind.wrap .i64 (sgn s a + sgn s b) + 0)) := rfl
theorem isub_eq (s a b : Int) : g168_1 s 0 a b = g182_1 s (IntKind.wrap .i64 (IntKind.wrap .i64 (a - b) - 0)) (IntKind.wrap .i64 (IntKind.wrap .i64 (sgn s a - sgn s b) - 0)) := rfl
theorem sadd_eq {s : Int} (h : s = 1 ∨ s = 2) (a b : Int) : g172_1 s 0 a b = g167_1 s 0 a b := by
  rw [iadd_eq, reck_eq]
  unfold g172_1 g188_0 g187_0 g172_0
  rw [lim_b s h]
  rfl
theorem ssub_eq {s : Int} (h : s = 1 ∨ s = 2) {a b : Int} (ha : 0 ≤ a ∧ a < g152_0 s) (hb : 0 ≤ b ∧ b < g152_0 s) : g173_1 s 0 a b = g168_1 s 0 a b := by
  rw [isub_eq, reck_eq]
  have e : (IntKind.wrap .i64 (IntKind.wrap .i64 (a - b) - 0) != val s (IntKind.wrap .i64 (IntKind.wrap .i64 (a - b) - 0))) = decide (IntKind.wrap .i64 (IntKind.wrap .i64 (a - b) - 0) < 0) := by
    have w : IntKind.wrap .i64 (IntKind.wrap .i64 (a - b) - 0) = a - b := by
      rcases h with rfl | rfl
      · rw [lim1] at ha hb; simp only [IntKind.wrap_i64]; omega
      · rw [lim2] at ha hb; simp only [IntKind.wrap_i64]; omega
    rw [w, val, mask_s h, Bool.eq_iff_iff, bne_iff_ne, decide_eq_true_eq]
    rcases h with rfl | rfl
    · rw [lim1] at ha hb ⊢; omega
    · rw [lim2] at ha hb ⊢; omega
  rw [e]
  unfold g173_1 g188_0 g187_0 g173_0
  rw [lim_b s h]
  rfl
theorem made_k {k s a b : Int} (hs : s = 1 ∨ s = 2) (ha : 0 ≤ a ∧ a < g152_0 s) (hb : 0 ≤ b ∧ b < g152_0 s) (hk : 1 ≤ k ∧ k ≤ 5) :
    ∃ y, 0 ≤ y ∧ y ≤ 31 ∧ ((k = 1 ∨ k = 2) → ∀ f, g126_0 f k s a b = y ∧ g127_0 f k s a b = y) ∧
      (¬ (k = 1 ∨ k = 2) → y ≤ 15 ∧ ∀ f, 0 ≤ f ∧ f ≤ 31 → g126_0 f k s a b = f / 16 * 16 + y ∧ g127_0 f k s a b = f / 16 * 16 + y) := by
  have hk' : k = 1 ∨ k = 2 ∨ k = 3 ∨ k = 4 ∨ k = 5 := by omega
  rcases hk' with rfl | rfl | rfl | rfl | rfl
  · have r : 0 ≤ g167_1 s 0 a b ∧ g167_1 s 0 a b ≤ 31 := by rw [iadd_eq, reck_eq]; exact fl5_rng ..
    refine ⟨g167_1 s 0 a b, r.1, r.2, fun _ f => ⟨rfl, ?_⟩, fun h => absurd (.inl rfl) h⟩
    exact sadd_eq hs a b
  · have r : 0 ≤ g168_1 s 0 a b ∧ g168_1 s 0 a b ≤ 31 := by rw [isub_eq, reck_eq]; exact fl5_rng ..
    refine ⟨g168_1 s 0 a b, r.1, r.2, fun _ f => ⟨rfl, ?_⟩, fun h => absurd (.inr rfl) h⟩
    exact ssub_eq hs ha hb
  · have r : 0 ≤ g168_1 s 0 a b ∧ g168_1 s 0 a b ≤ 31 := by rw [isub_eq, reck_eq]; exact fl5_rng ..
    refine ⟨g168_1 s 0 a b % 16, by omega, by omega, fun h => absurd h (by decide), fun _ => ⟨by omega, fun f hf => ?_⟩⟩
    obtain ⟨c1, c2, _⟩ := cmp_at r hf
    refine ⟨c1, ?_⟩
    have e : g127_0 f 3 s a b = orI (andI (g173_1 s 0 a b) 15) (andI f 16) := rfl
    rw [e, ssub_eq hs ha hb]
    exact c2
  · have r := zn_rng (a == 0) (decide (a ≥ half s))
    refine ⟨zn (a == 0) (decide (a ≥ half s)), r.1, by omega, fun h => absurd h (by decide), fun _ => ⟨r.2, fun f hf => ?_⟩⟩
    have l := log_at hf r
    refine ⟨l, ?_⟩
    have e : g127_0 f 4 s a b = orI (andI f 16) (g188_0 s a) := rfl
    rw [e]
    unfold g188_0
    rw [lim_b s hs]
    exact l
  · have fe : Int.fdiv a (2 ^ min (Int.toNat (IntKind.wrap .i64 (IntKind.wrap .i64 (8 * s) - 1))) 64) = fl (decide (a ≥ half s)) 1 := by
      rcases hs with rfl | rfl
      · have h1 : half 1 = 128 := by decide +kernel
        have h2 : (2 : Int) ^ min (Int.toNat (IntKind.wrap .i64 (IntKind.wrap .i64 (8 * 1) - 1))) 64 = 128 := by decide +kernel
        rw [lim1] at ha
        rw [h1, h2, Int.fdiv_eq_ediv_of_nonneg _ (by decide)]
        by_cases h : a ≥ 128
        · rw [decide_eq_true h]; show a / 128 = 1; omega
        · rw [decide_eq_false h]; show a / 128 = 0; omega
      · have h1 : half 2 = 32768 := by decide +kernel
        have h2 : (2 : Int) ^ min (Int.toNat (IntKind.wrap .i64 (IntKind.wrap .i64 (8 * 2) - 1))) 64 = 32768 := by decide +kernel
        rw [lim2] at ha
        rw [h1, h2, Int.fdiv_eq_ediv_of_nonneg _ (by decide)]
        by_cases h : a ≥ 32768
        · rw [decide_eq_true h]; show a / 32768 = 1; omega
        · rw [decide_eq_false h]; show a / 32768 = 0; omega
    have v0 : ∀ f, g171_0 4 s f a = orI (andI (IntKind.wrap .i64 (a * 2)) (IntKind.wrap .i64 (g152_0 s - 1))) (fl (decide (a ≥ half s)) 1) := fun f => by
      rw [← fe]; rfl
    have v1 : ∀ f, g176_s8 4 s f a = orI (andI (IntKind.wrap .i64 (a * 2)) (IntKind.wrap .i64 (g152_0 s - 1))) (fl (decide (a ≥ half s)) 1) := fun f => by
      have e : g176_s8 4 s f a = orI (andI (IntKind.wrap .i64 (a * 2)) (g176_s1 s)) (g176_s2 s a) := rfl
      have e1 : g176_s1 s = IntKind.wrap .i64 (g152_0 s - 1) := by rcases hs with rfl | rfl <;> decide +kernel
      have e2 : g176_s2 s a = fl (decide (a ≥ half s)) 1 := by unfold g176_s2; rw [lim_b s hs]; rfl
      rw [e, e1, e2]
    generalize hv : orI (andI (IntKind.wrap .i64 (a * 2)) (IntKind.wrap .i64 (g152_0 s - 1))) (fl (decide (a ≥ half s)) 1) = v at v0 v1
    have r := zn_rng (v == 0) (decide (v ≥ half s))
    have t0 := turn_at (f := 0) ⟨by decide, by decide⟩ r (decide (a ≥ half s))
    refine ⟨orI (fl (decide (a ≥ half s)) 1) (zn (v == 0) (decide (v ≥ half s))), t0.2.2.1, by have := t0.2.2.2; omega, fun h => absurd h (by decide), fun _ => ⟨t0.2.2.2, fun f hf => ?_⟩⟩
    have t := turn_at hf r (decide (a ≥ half s))
    constructor
    · have e : g126_0 f 5 s a b = orI (orI (orI (IntKind.wrap .i64 (Int.fdiv a (2 ^ min (Int.toNat (IntKind.wrap .i64 (IntKind.wrap .i64 (8 * s) - 1))) 64) * 1)) (andI f 16)) 0) (g184_0 s (g171_0 4 s f a)) := rfl
      rw [e, fe, v0]
      exact t.1
    · have e2 : g176_s2 s a = fl (decide (a ≥ half s)) 1 := by unfold g176_s2; rw [lim_b s hs]; rfl
      have e : g127_0 f 5 s a b = orI (orI (orI (g176_s2 s a) (g188_0 s (g176_s8 4 s f a))) 0) (andI f 16) := rfl
      rw [e, v1, e2]
      unfold g188_0
      rw [lim_b s hs]
      exact t.2.1
/-! Walks over a list of operations. -/
def good (t : Op) : Bool := g64_0 t.1 t.2.1 t.2.2.1 t.2.2.2
def isSum (t : Op) : Bool := g129_0 t.1
theorem sgood_eq (k s a b : Int) : g65_0 k s a b = g64_0 k s a b := by
  have vs : ∀ v, g98_0 s v = g95_0 s v := fun v => by
    unfold g98_0 g95_0
    rw [show g155_0 s = g151_0 s from rfl]
    cases hs : g151_0 s
    · simp only [cond_false]
    · simp only [cond_true]
      have h : s = 1 ∨ s = 2 := by
        unfold g151_0 at hs
        by_cases h1 : s = 1
        · exact .inl h1
        · rw [beq_eq_false_iff_ne.2 h1, cond_false] at hs
          exact .inr (by simpa using hs)
      rw [lim_b s h]
      rfl
  unfold g65_0 g64_0
  rw [vs, vs, show g78_0 k 1 5 = g74_0 k 1 5 from rfl]
  cases g74_0 k 1 5 <;> cases g95_0 s a <;> cases g95_0 s b <;> rfl
theorem within_iff (v a b : Int) : g74_0 v a b = true ↔ a ≤ v ∧ v ≤ b := by
  unfold g74_0
  by_cases h : v ≥ a
  · rw [decide_eq_true h, cond_true, decide_eq_true_eq]; omega
  · rw [decide_eq_false h]; simp; omega
theorem val_of {s v : Int} (h : g95_0 s v = true) : (s = 1 ∨ s = 2) ∧ 0 ≤ v ∧ v < g152_0 s := by
  unfold g95_0 at h
  cases hs : g151_0 s
  · rw [hs] at h; simp at h
  · rw [hs, cond_true, within_iff] at h
    have h' : s = 1 ∨ s = 2 := by
      unfold g151_0 at hs
      by_cases h1 : s = 1
      · exact .inl h1
      · rw [beq_eq_false_iff_ne.2 h1, cond_false] at hs
        exact .inr (by simpa using hs)
    refine ⟨h', h.1, ?_⟩
    rcases h' with rfl | rfl
    · rw [lim1] at h ⊢; have := h.2; rw [IntKind.wrap_i64] at this; omega
    · rw [lim2] at h ⊢; have := h.2; rw [IntKind.wrap_i64] at this; omega
theorem good_of {t : Op} (h : good t = true) : (1 ≤ t.1 ∧ t.1 ≤ 5) ∧ (t.2.1 = 1 ∨ t.2.1 = 2) ∧ (0 ≤ t.2.2.1 ∧ t.2.2.1 < g152_0 t.2.1) ∧ 0 ≤ t.2.2.2 ∧ t.2.2.2 < g152_0 t.2.1 := by
  unfold good g64_0 at h
  cases h1 : g74_0 t.1 1 5
  · rw [h1] at h; simp at h
  cases h2 : g95_0 t.2.1 t.2.2.1
  · rw [h1, h2] at h; simp at h
  cases h3 : g95_0 t.2.1 t.2.2.2
  · rw [h1, h2, h3] at h; simp at h
  have a := val_of h2
  exact ⟨(within_iff _ _ _).1 h1, a.1, a.2, (val_of h3).2⟩
def mk (f : Int) (t : Op) : Int := g126_0 f t.1 t.2.1 t.2.2.1 t.2.2.2
def smk (f : Int) (t : Op) : Int := g127_0 f t.1 t.2.1 t.2.2.1 t.2.2.2
theorem isSum_iff (t : Op) : isSum t = true ↔ t.1 = 1 ∨ t.1 = 2 := by
  unfold isSum g129_0
  by_cases h1 : t.1 = 1
  · rw [h1]; simp
  · rw [beq_eq_false_iff_ne.2 h1, cond_false, beq_iff_eq]; simp [h1]
theorem mk_laws {t : Op} (h : good t = true) :
    (0 ≤ mk 0 t ∧ mk 0 t ≤ 31) ∧ (isSum t = true → ∀ f, mk f t = mk 0 t ∧ smk f t = mk 0 t) ∧
      (isSum t = false → mk 0 t ≤ 15 ∧ ∀ f, 0 ≤ f ∧ f ≤ 31 → mk f t = f / 16 * 16 + mk 0 t ∧ smk f t = f / 16 * 16 + mk 0 t) := by
  obtain ⟨hk, hs, ha, hb⟩ := good_of h
  obtain ⟨y, y0, y1, p1, p2⟩ := made_k hs ha hb hk
  by_cases hq : t.1 = 1 ∨ t.1 = 2
  · have e := (p1 hq 0).1
    have e' : mk 0 t = y := e
    rw [e']
    refine ⟨⟨y0, y1⟩, fun _ f => p1 hq f, fun h' => ?_⟩
    rw [(isSum_iff t).2 hq] at h'
    exact absurd h' (by decide)
  · obtain ⟨q1, q2⟩ := p2 hq
    have e := (q2 0 ⟨by decide, by decide⟩).1
    have e' : mk 0 t = y := by rw [show mk 0 t = g126_0 0 t.1 t.2.1 t.2.2.1 t.2.2.2 from rfl, e]; omega
    rw [e']
    exact ⟨⟨y0, y1⟩, fun h' => absurd ((isSum_iff t).1 h') hq, fun _ => ⟨q1, q2⟩⟩
/-! Rows. -/
structure RowAt (R : List Row) (i : Int) (t : Op) : Prop where
  a0 : intAt R (Int.toNat i) 0 = t.1
  a1 : intAt R (Int.toNat i) 1 = t.2.1
  a2 : intAt R (Int.toNat i) 2 = t.2.2.1
  a3 : intAt R (Int.toNat i) 3 = t.2.2.2
  ir : inRow [Kd.int IntKind.i64, Kd.int IntKind.i64, Kd.int IntKind.i64, Kd.int IntKind.i64] R i = true
theorem row_at (pre : List Op) (t : Op) (l : List Op) : RowAt (fr (pre ++ t :: l)) (pre.length : Int) t := by
  have e : (fr (pre ++ t :: l)).getD (Int.toNat (pre.length : Int)) [] = row t := by
    simp [fr]
  have c : ∀ i, intAt (fr (pre ++ t :: l)) (Int.toNat (pre.length : Int)) i = tInt ((row t).getD i (.nls 0)) := fun i => by
    unfold intAt cellAt
    rw [e]
  refine ⟨c 0, c 1, c 2, c 3, ?_⟩
  unfold inRow hasRow
  have h0 : decide (0 ≤ (pre.length : Int)) = true := decide_eq_true (by omega)
  have h1 : Nat.blt (Int.toNat (pre.length : Int)) (fr (pre ++ t :: l)).length = true := by
    rw [fr_len]; simp [Nat.blt_eq]
  rw [h0, h1, e]
  rfl
theorem w1 {n : Nat} (h : n < 1000) : IntKind.wrap IntKind.i64 ((n : Int) + 1) = ((n + 1 : Nat) : Int) := by rw [IntKind.wrap_i64]; omega
theorem fr_next (pre : List Op) (t : Op) (l : List Op) : fr (pre ++ t :: l) = fr ((pre ++ [t]) ++ l) := by simp
/-- Whether all are good: the implementation's walk. -/
theorem walk_i (q : Bool) (l : List Op) : ∀ (pre : List Op) (k : Nat) (n : Int), n = ((pre ++ l).length : Int) → (pre ++ l).length < 100 → l.length < k → ∃ j, L181_0 k q (fr (pre ++ l)) n (pre.length : Int) = some (q, fr (pre ++ l), n, j) ∧
    (l.all good = true ∧ j = n ∨ l.all good = false ∧ 0 ≤ j ∧ j < n ∧ g166_0 (intAt (fr (pre ++ l)) (Int.toNat j) 0) (intAt (fr (pre ++ l)) (Int.toNat j) 1) (intAt (fr (pre ++ l)) (Int.toNat j) 2) (intAt (fr (pre ++ l)) (Int.toNat j) 3) = true) := by
  induction l with
  | nil =>
    intro pre k n hn hl hk
    obtain ⟨k, rfl⟩ : ∃ j, k = j + 1 := ⟨k - 1, by simp at hk; omega⟩
    have hd : decide ((pre.length : Int) < n) = false := decide_eq_false (by rw [hn]; simp)
    refine ⟨(pre.length : Int), ?_, .inl ⟨rfl, by rw [hn]; simp⟩⟩
    have hy : y181_0 q (fr (pre ++ [])) n (pre.length : Int) = true := by
      unfold y181_0; rw [hd]; simp
    have hz : z181_0 q (fr (pre ++ [])) n (pre.length : Int) = true := by
      unfold z181_0; rw [hd]; simp
    simp only [L181_0, hy, hz, cond_true]
  | cons t l ih =>
    intro pre k n hn hl hk
    obtain ⟨k, rfl⟩ : ∃ j, k = j + 1 := ⟨k - 1, by simp at hk; omega⟩
    have r := row_at pre t l
    have hlt : (pre.length : Int) < n := by rw [hn]; simp; omega
    have hy : y181_0 q (fr (pre ++ t :: l)) n (pre.length : Int) = true := by
      unfold y181_0; rw [r.ir]; rfl
    have hz : z181_0 q (fr (pre ++ t :: l)) n (pre.length : Int) = !good t := by
      unfold z181_0 g166_0
      rw [r.a0, r.a1, r.a2, r.a3, decide_eq_true hlt]
      simp [good]
    have hg : g166_0 (intAt (fr (pre ++ t :: l)) (Int.toNat (pre.length : Int)) 0) (intAt (fr (pre ++ t :: l)) (Int.toNat (pre.length : Int)) 1) (intAt (fr (pre ++ t :: l)) (Int.toNat (pre.length : Int)) 2) (intAt (fr (pre ++ t :: l)) (Int.toNat (pre.length : Int)) 3) = !good t := by
      rw [r.a0, r.a1, r.a2, r.a3]; rfl
    cases hgd : good t
    · refine ⟨(pre.length : Int), ?_, .inr ⟨by simp [hgd], by omega, hlt, by rw [hg, hgd]; rfl⟩⟩
      simp only [L181_0, hy, hz, hgd, Bool.not_false, cond_true]
    · have hp : pre.length < 1000 := by simp at hl; omega
      obtain ⟨j, h1, h2⟩ := ih (pre ++ [t]) k n (by rw [hn]; simp) (by simpa using hl) (by simp at hk; omega)
      refine ⟨j, ?_, ?_⟩
      · simp only [L181_0, hy, hz, hgd, Bool.not_true, cond_true, cond_false, w1 hp]
        rw [fr_next]
        rw [show ((pre.length + 1 : Nat) : Int) = ((pre ++ [t]).length : Int) by simp]
        exact h1
      · rw [fr_next]
        rcases h2 with ⟨a, b⟩ | ⟨a, b⟩
        · exact .inl ⟨by simp [hgd, a], b⟩
        · exact .inr ⟨by simp [hgd, a], b⟩
/-- The same: the reference's walk. -/
theorem walk_s (q q' : Bool) (l : List Op) : ∀ (pre : List Op) (k : Nat) (n : Int) (R0 : List Row), n = ((pre ++ l).length : Int) → (pre ++ l).length < 100 → l.length < k → ∃ j, L124_0 k q R0 q' (fr (pre ++ l)) n (pre.length : Int) = some (q, R0, q', fr (pre ++ l), n, j) ∧
    (l.all good = true ∧ j = n ∨ l.all good = false ∧ 0 ≤ j ∧ j < n ∧ g65_0 (intAt (fr (pre ++ l)) (Int.toNat j) 0) (intAt (fr (pre ++ l)) (Int.toNat j) 1) (intAt (fr (pre ++ l)) (Int.toNat j) 2) (intAt (fr (pre ++ l)) (Int.toNat j) 3) = false) := by
  induction l with
  | nil =>
    intro pre k n R0 hn hl hk
    obtain ⟨k, rfl⟩ : ∃ j, k = j + 1 := ⟨k - 1, by simp at hk; omega⟩
    have hd : decide ((pre.length : Int) < n) = false := decide_eq_false (by rw [hn]; simp)
    refine ⟨(pre.length : Int), ?_, .inl ⟨rfl, by rw [hn]; simp⟩⟩
    have hy : y124_0 q R0 q' (fr (pre ++ [])) n (pre.length : Int) = true := by
      unfold y124_0; rw [hd]; simp
    have hz : z124_0 q R0 q' (fr (pre ++ [])) n (pre.length : Int) = true := by
      unfold z124_0; rw [hd]; simp
    simp only [L124_0, hy, hz, cond_true]
  | cons t l ih =>
    intro pre k n R0 hn hl hk
    obtain ⟨k, rfl⟩ : ∃ j, k = j + 1 := ⟨k - 1, by simp at hk; omega⟩
    have r := row_at pre t l
    have hlt : (pre.length : Int) < n := by rw [hn]; simp; omega
    have hy : y124_0 q R0 q' (fr (pre ++ t :: l)) n (pre.length : Int) = true := by
      unfold y124_0; rw [r.ir]; rfl
    have hz : z124_0 q R0 q' (fr (pre ++ t :: l)) n (pre.length : Int) = !good t := by
      unfold z124_0
      rw [r.a0, r.a1, r.a2, r.a3, decide_eq_true hlt, sgood_eq]
      simp [good]
    have hg : g65_0 (intAt (fr (pre ++ t :: l)) (Int.toNat (pre.length : Int)) 0) (intAt (fr (pre ++ t :: l)) (Int.toNat (pre.length : Int)) 1) (intAt (fr (pre ++ t :: l)) (Int.toNat (pre.length : Int)) 2) (intAt (fr (pre ++ t :: l)) (Int.toNat (pre.length : Int)) 3) = good t := by
      rw [r.a0, r.a1, r.a2, r.a3, sgood_eq]; rfl
    cases hgd : good t
    · refine ⟨(pre.length : Int), ?_, .inr ⟨by simp [hgd], by omega, hlt, by rw [hg, hgd]⟩⟩
      simp only [L124_0, hy, hz, hgd, Bool.not_false, cond_true]
    · have hp : pre.length < 1000 := by simp at hl; omega
      obtain ⟨j, h1, h2⟩ := ih (pre ++ [t]) k n R0 (by rw [hn]; simp) (by simpa using hl) (by simp at hk; omega)
      refine ⟨j, ?_, ?_⟩
      · simp only [L124_0, hy, hz, hgd, Bool.not_true, cond_true, cond_false, w1 hp]
        rw [fr_next]
        rw [show ((pre.length + 1 : Nat) : Int) = ((pre ++ [t]).length : Int) by simp]
        exact h1
      · rw [fr_next]
        rcases h2 with ⟨a, b⟩ | ⟨a, b⟩
        · exact .inl ⟨by simp [hgd, a], b⟩
        · exact .inr ⟨by simp [hgd, a], b⟩
def lastOf (a : Op) (l : List Op) : Op := l.foldl (fun _ t => t) a
def farOf (a : Op) (l : List Op) : Op := l.foldl (fun f t => if isSum t then t else f) a
/-- Notes: the implementation's walk. -/
theorem note_s (q : Bool) (B : Int) (l : List Op) : ∀ (pre : List Op) (k : Nat) (n : Int) (a f : Op), n = ((pre ++ l).length : Int) → (pre ++ l).length < 100 → l.length < k →
    L42_0 k 0 0 0 0 0 0 0 0 0 B a.1 a.2.1 a.2.2.1 a.2.2.2 f.1 f.2.1 f.2.2.1 f.2.2.2 q (fr (pre ++ l)) n (pre.length : Int) =
      some (0, 0, 0, 0, 0, 0, 0, 0, 0, B, (lastOf a l).1, (lastOf a l).2.1, (lastOf a l).2.2.1, (lastOf a l).2.2.2, (farOf f l).1, (farOf f l).2.1, (farOf f l).2.2.1, (farOf f l).2.2.2, q, fr (pre ++ l), n, n) := by
  induction l with
  | nil =>
    intro pre k n a f hn hl hk
    obtain ⟨k, rfl⟩ : ∃ j, k = j + 1 := ⟨k - 1, by simp at hk; omega⟩
    have e : (pre.length : Int) = n := by rw [hn]; simp
    rw [e]
    have hd : decide (n < n) = false := decide_eq_false (by omega)
    simp only [L42_0, y42_0, z42_0, hd, Bool.not_false, Bool.or_true, Bool.true_or, cond_true]
    rfl
  | cons t l ih =>
    intro pre k n a f hn hl hk
    obtain ⟨k, rfl⟩ : ∃ j, k = j + 1 := ⟨k - 1, by simp at hk; omega⟩
    have r := row_at pre t l
    have hd : decide ((pre.length : Int) < n) = true := decide_eq_true (by rw [hn]; simp; omega)
    have hp : pre.length < 1000 := by simp at hl; omega
    simp only [L42_0, y42_0, z42_0, hd, r.ir, r.a0, r.a1, r.a2, r.a3, Bool.not_true, Bool.or_false, Bool.true_or, cond_true, cond_false, w1 hp]
    have h := ih (pre ++ [t]) k n t (if isSum t then t else f) (by rw [hn]; simp) (by simpa using hl) (by simp at hk; omega)
    rw [← fr_next] at h
    rw [show ((pre.length + 1 : Nat) : Int) = ((pre ++ [t]).length : Int) by simp]
    have el : lastOf a (t :: l) = lastOf t l := rfl
    have ef : farOf f (t :: l) = farOf (if isSum t then t else f) l := rfl
    rw [el, ef, ← h]
    unfold g125_5 g125_6 g125_7 g125_8
    rw [show g141_0 t.1 = isSum t from rfl]
    cases isSum t <;> rfl
/-- Flags worked out each time. -/
def flagsOf (f : Int) (l : List Op) : Int := l.foldl mk f
theorem mk_rng {t : Op} (h : good t = true) {f : Int} (hf : 0 ≤ f ∧ f ≤ 31) : 0 ≤ mk f t ∧ mk f t ≤ 31 := by
  obtain ⟨r, p1, p2⟩ := mk_laws h
  cases hs : isSum t
  · obtain ⟨q, p⟩ := p2 hs
    rw [(p f hf).1]; omega
  · rw [(p1 hs f).1]; exact r
theorem smk_eq {t : Op} (h : good t = true) {f : Int} (hf : 0 ≤ f ∧ f ≤ 31) : smk f t = mk f t := by
  obtain ⟨r, p1, p2⟩ := mk_laws h
  cases hs : isSum t
  · obtain ⟨q, p⟩ := p2 hs
    rw [(p f hf).1, (p f hf).2]
  · rw [(p1 hs f).1, (p1 hs f).2]
theorem sh_ok {s : Int} (h : s = 1 ∨ s = 2) : decide (0 ≤ IntKind.wrap IntKind.i64 (8 * s)) = true ∧ decide (0 ≤ IntKind.wrap IntKind.i64 (IntKind.wrap IntKind.i64 (8 * s) - 1)) = true := by
  rcases h with rfl | rfl <;> decide +kernel
theorem eager_i (q : Bool) (l : List Op) : ∀ (pre : List Op) (k : Nat) (n : Int) (f : Int), n = ((pre ++ l).length : Int) → (pre ++ l).length < 100 → l.length < k → l.all good = true →
    L43_0 k f q (fr (pre ++ l)) n (pre.length : Int) = some (flagsOf f l, q, fr (pre ++ l), n, n) := by
  induction l with
  | nil =>
    intro pre k n f hn hl hk hg
    obtain ⟨k, rfl⟩ : ∃ j, k = j + 1 := ⟨k - 1, by simp at hk; omega⟩
    have e : (pre.length : Int) = n := by rw [hn]; simp
    rw [e]
    have hd : decide (n < n) = false := decide_eq_false (by omega)
    simp only [L43_0, y43_0, z43_0, hd, Bool.not_false, Bool.or_true, Bool.true_or, cond_true]
    rfl
  | cons t l ih =>
    intro pre k n f hn hl hk hg
    obtain ⟨k, rfl⟩ : ∃ j, k = j + 1 := ⟨k - 1, by simp at hk; omega⟩
    have r := row_at pre t l
    have hd : decide ((pre.length : Int) < n) = true := decide_eq_true (by rw [hn]; simp; omega)
    have hp : pre.length < 1000 := by simp at hl; omega
    have hg' : good t = true ∧ l.all good = true := by simpa using hg
    obtain ⟨s1, s2⟩ := sh_ok (good_of hg'.1).2.1
    simp only [L43_0, y43_0, z43_0, hd, r.ir, r.a0, r.a1, r.a2, r.a3, s1, s2, Bool.not_true, Bool.or_false, Bool.true_or, Bool.true_and, Bool.and_true, cond_true, cond_false, w1 hp]
    have h := ih (pre ++ [t]) k n (mk f t) (by rw [hn]; simp) (by simpa using hl) (by simp at hk; omega) hg'.2
    rw [← fr_next] at h
    rw [show ((pre.length + 1 : Nat) : Int) = ((pre ++ [t]).length : Int) by simp]
    exact h
/-! What waits. -/
def Z : Op := (0, 0, 0, 0)
def xOf (B : Int) (t : Op) : Int := if t.1 = 0 then B else mk 0 t
structure G (a f : Op) : Prop where
  h : (a = Z ∧ f = Z) ∨ (good a = true ∧ (f = Z ∧ isSum a = false ∨ good f = true ∧ isSum f = true ∧ (isSum a = true → f = a)))
theorem good_ne {t : Op} (h : good t = true) : t.1 ≠ 0 := by have := (good_of h).1; omega
theorem xOf_rng {B : Int} (hB : 0 ≤ B ∧ B ≤ 31) {t : Op} (h : t = Z ∨ good t = true) : 0 ≤ xOf B t ∧ xOf B t ≤ 31 := by
  rcases h with rfl | h
  · exact hB
  · unfold xOf; rw [if_neg (good_ne h)]; exact (mk_laws h).1
theorem G_a {a f : Op} (g : G a f) : a = Z ∨ good a = true := by rcases g.h with ⟨h, _⟩ | ⟨h, _⟩ <;> simp [h]
theorem G_f {a f : Op} (g : G a f) : f = Z ∨ good f = true := by rcases g.h with ⟨_, h⟩ | ⟨_, ⟨h, _⟩ | ⟨h, _⟩⟩ <;> simp [h]
theorem G_step {a f t : Op} (g : G a f) (ht : good t = true) : G t (if isSum t = true then t else f) := by
  refine ⟨.inr ⟨ht, ?_⟩⟩
  by_cases hs : isSum t = true
  · rw [if_pos hs]; exact .inr ⟨ht, hs, fun _ => rfl⟩
  · rw [if_neg hs]
    have hs' : isSum t = false := by simpa using hs
    rcases g.h with ⟨_, h⟩ | ⟨_, ⟨h, _⟩ | ⟨h1, h2, _⟩⟩
    · exact .inl ⟨h, hs'⟩
    · exact .inl ⟨h, hs'⟩
    · exact .inr ⟨h1, h2, fun h => absurd h hs⟩
theorem inv {B : Int} (hB : 0 ≤ B ∧ B ≤ 31) (l : List Op) : ∀ (a f : Op) (e : Int), G a f → 0 ≤ e ∧ e ≤ 31 → e = xOf B f / 16 * 16 + xOf B a % 16 → l.all good = true →
    G (lastOf a l) (farOf f l) ∧ (0 ≤ flagsOf e l ∧ flagsOf e l ≤ 31) ∧ flagsOf e l = xOf B (farOf f l) / 16 * 16 + xOf B (lastOf a l) % 16 := by
  induction l with
  | nil => intro a f e g he h _; exact ⟨g, he, h⟩
  | cons t l ih =>
    intro a f e g he h hg
    have hg' : good t = true ∧ l.all good = true := by simpa using hg
    have xa := xOf_rng hB (G_a g)
    have xf := xOf_rng hB (G_f g)
    obtain ⟨r, p1, p2⟩ := mk_laws hg'.1
    have xt : xOf B t = mk 0 t := by unfold xOf; rw [if_neg (good_ne hg'.1)]
    refine ih t (if isSum t = true then t else f) (mk e t) (G_step g hg'.1) (mk_rng hg'.1 he) ?_ hg'.2
    cases hs : isSum t
    · obtain ⟨q, p⟩ := p2 hs
      rw [(p e he).1, xt]
      simp only [Bool.false_eq_true, if_false]
      omega
    · rw [(p1 hs e).1, if_pos rfl, xt]
      omega
theorem beq_n {a : Int} (h : a ≠ 0) : (a == 0) = false := beq_eq_false_iff_ne.2 h
theorem lazy_good {B : Int} {a f : Op} (hB : g128_0 B = true) (g : G a f) : g47_0 B a.1 a.2.1 a.2.2.1 a.2.2.2 f.1 f.2.1 f.2.2.1 f.2.2.2 = true := by
  unfold g47_0
  rw [hB]
  rcases g.h with ⟨rfl, rfl⟩ | ⟨ha, ⟨rfl, hs⟩ | ⟨hf, hsf, he⟩⟩
  · rfl
  · have h0 := beq_n (good_ne ha)
    have ha' : g64_0 a.1 a.2.1 a.2.2.1 a.2.2.2 = true := ha
    have hs' : g129_0 a.1 = false := hs
    rw [h0, ha', hs']
    rfl
  · have h0 := beq_n (good_ne ha)
    have h1 := beq_n (good_ne hf)
    have ha' : g64_0 a.1 a.2.1 a.2.2.1 a.2.2.2 = true := ha
    have hf' : g64_0 f.1 f.2.1 f.2.2.1 f.2.2.2 = true := hf
    have hs' : g129_0 f.1 = true := hsf
    rw [h0, h1, ha', hf', hs']
    cases hsa : isSum a
    · rw [show g129_0 a.1 = false from hsa]; rfl
    · rw [show g129_0 a.1 = true from hsa, he hsa]
      simp
theorem lazy_flags {B : Int} {a f : Op} (hB : g128_0 B = true) (g : G a f) : g45_0 B a.1 a.2.1 a.2.2.1 a.2.2.2 f.1 f.2.1 f.2.2.1 f.2.2.2 = xOf B f / 16 * 16 + xOf B a % 16 := by
  have hB' : 0 ≤ B ∧ B ≤ 31 := (within_iff B 0 31).1 hB
  unfold g45_0
  rw [lazy_good hB g, Bool.not_true, cond_false]
  have e : ∀ t : Op, (bif t.1 != 0 then g126_0 0 t.1 t.2.1 t.2.2.1 t.2.2.2 else B) = xOf B t := fun t => by
    unfold xOf
    by_cases h : t.1 = 0
    · rw [if_pos h, h]; rfl
    · rw [if_neg h, show (t.1 != 0) = true from by simp [h]]; rfl
  rw [e f, e a]
  exact (cmp_at (xOf_rng hB' (G_a g)) (xOf_rng hB' (G_f g))).2.2
/-! Whether operations may be. -/
theorem conts (q : Bool) {l : List Op} (h : l.length ≤ 41) : Option.isSome (L181_0 70 q (fr l) (↑(List.length (fr l)) : Int) 0) = true ∧ g165_0 q (fr l) = !l.all good := by
  obtain ⟨j, h1, h2⟩ := walk_i q l [] 70 (↑(List.length (fr l)) : Int) (by simp [fr_len]) (by simp; omega) (by omega)
  have h1 : L181_0 70 q (fr l) (↑(List.length (fr l)) : Int) 0 = some (q, fr l, (↑(List.length (fr l)) : Int), j) := h1
  have h2 : (l.all good = true ∧ j = (↑(List.length (fr l)) : Int) ∨ l.all good = false ∧ 0 ≤ j ∧ j < (↑(List.length (fr l)) : Int) ∧ g166_0 (intAt (fr l) (Int.toNat j) 0) (intAt (fr l) (Int.toNat j) 1) (intAt (fr l) (Int.toNat j) 2) (intAt (fr l) (Int.toNat j) 3) = true) := h2
  refine ⟨by rw [h1]; rfl, ?_⟩
  have e : w181_0_3 70 q (fr l) (↑(List.length (fr l)) : Int) 0 = j := by
    unfold w181_0_3; rw [h1]; rfl
  unfold g165_0 g181_0
  rw [e]
  rcases h2 with ⟨a, rfl⟩ | ⟨a, b, c, d⟩
  · rw [decide_eq_false (by omega : ¬ (↑(List.length (fr l)) : Int) < (↑(List.length (fr l)) : Int)), Bool.and_false, a]
    rfl
  · rw [d, decide_eq_true c, a]
    simp [b]
theorem sops (q : Bool) {l : List Op} (h : l.length ≤ 41) : Option.isSome (L124_0 70 q (fr l) q (fr l) (↑(List.length (fr l)) : Int) 0) = true ∧ g124_0 q (fr l) = (l.all good && decide ((↑(List.length (fr l)) : Int) ≤ 40)) := by
  obtain ⟨j, h1, h2⟩ := walk_s q q l [] 70 (↑(List.length (fr l)) : Int) (fr l) (by simp [fr_len]) (by simp; omega) (by omega)
  have h1 : L124_0 70 q (fr l) q (fr l) (↑(List.length (fr l)) : Int) 0 = some (q, fr l, q, fr l, (↑(List.length (fr l)) : Int), j) := h1
  have h2 : (l.all good = true ∧ j = (↑(List.length (fr l)) : Int) ∨ l.all good = false ∧ 0 ≤ j ∧ j < (↑(List.length (fr l)) : Int) ∧ g65_0 (intAt (fr l) (Int.toNat j) 0) (intAt (fr l) (Int.toNat j) 1) (intAt (fr l) (Int.toNat j) 2) (intAt (fr l) (Int.toNat j) 3) = false) := h2
  refine ⟨by rw [h1]; rfl, ?_⟩
  have e : w124_0_5 70 q (fr l) q (fr l) (↑(List.length (fr l)) : Int) 0 = j := by
    unfold w124_0_5; rw [h1]; rfl
  unfold g124_0
  rw [e]
  rcases h2 with ⟨a, rfl⟩ | ⟨a, b, c, d⟩
  · rw [decide_eq_false (by omega : ¬ (↑(List.length (fr l)) : Int) < (↑(List.length (fr l)) : Int)), Bool.and_false, a]
    rfl
  · rw [d, decide_eq_true c, a]
    rfl
theorem are_i (B : Int) {l : List Op} (h : l.length ≤ 41) : g121_0 B true (fr l) = (g128_0 B && (decide ((↑(List.length (fr l)) : Int) ≤ 40) && l.all good)) := by
  unfold g121_0
  rw [(conts true h).2]
  cases g128_0 B <;> cases decide ((↑(List.length (fr l)) : Int) ≤ 40) <;> cases l.all good <;> rfl
theorem are_s (B : Int) {l : List Op} (h : l.length ≤ 41) : (bif !g123_0 B then true else !g124_0 true (fr l)) = !g121_0 B true (fr l) := by
  rw [are_i B h, (sops true h).2, show g123_0 B = g128_0 B from rfl]
  cases g128_0 B <;> cases decide ((↑(List.length (fr l)) : Int) ≤ 40) <;> cases l.all good <;> rfl
/-! The conditions. -/
theorem part {t : Op} (h : t = Z ∨ good t = true) : ((decide (0 ≤ IntKind.wrap IntKind.i64 (8 * t.2.1)) || !t.1 == 1) && ((decide (0 ≤ IntKind.wrap IntKind.i64 (8 * t.2.1)) || !t.1 == 2) && ((decide (0 ≤ IntKind.wrap IntKind.i64 (8 * t.2.1)) || !t.1 == 3) && ((decide (0 ≤ IntKind.wrap IntKind.i64 (8 * t.2.1)) || !t.1 == 4) && (decide (0 ≤ IntKind.wrap IntKind.i64 (IntKind.wrap IntKind.i64 (8 * t.2.1) - 1)) && (decide (0 ≤ IntKind.wrap IntKind.i64 (IntKind.wrap IntKind.i64 (8 * t.2.1) - 1)) && decide (0 ≤ IntKind.wrap IntKind.i64 (8 * t.2.1))) || t.1 == 4) || t.1 == 3) || t.1 == 2) || t.1 == 1) || !t.1 != 0) = true := by
  rcases h with rfl | h
  · decide +kernel
  · obtain ⟨s1, s2⟩ := sh_ok (good_of h).2.1
    simp only [s1, s2, Bool.true_or, Bool.and_self]
section
variable {B : Int} {a f : Op} {e : Int}
theorem test_ok {k : Int} (hk : 0 ≤ k ∧ k ≤ 15) (he : 0 ≤ e ∧ e ≤ 31) : g49_1 k e = true := by
  unfold g49_1 g130_0 g128_0
  rw [(within_iff k 0 15).2 hk, (within_iff e 0 31).2 he]
  rfl
theorem cond_ok (hB : g128_0 B = true) (g : G a f) (he : 0 ≤ e ∧ e ≤ 31) (hf : e = xOf B f / 16 * 16 + xOf B a % 16) {k : Int} (hk : 0 ≤ k ∧ k ≤ 15) :
    (bif bif !g48_1 B a.1 a.2.1 a.2.2.1 a.2.2.2 f.1 f.2.1 f.2.2.1 f.2.2.2 k then true else !g49_1 k e then true else !g48_0 B a.1 a.2.1 a.2.2.1 a.2.2.2 f.1 f.2.1 f.2.2.1 f.2.2.2 k == g49_0 k e) = false := by
  have h1 : g45_1 B a.1 a.2.1 a.2.2.1 a.2.2.2 f.1 f.2.1 f.2.2.1 f.2.2.2 = true := lazy_good hB g
  unfold g48_1 g48_0
  rw [h1, lazy_flags hB g, ← hf, test_ok hk he]
  simp
end
/-! Notes, by both. -/
def isZ (t : Op) : Bool := t.1 == 0 && (t.2.1 == 0 && (t.2.2.1 == 0 && (t.2.2.2 == 0 && true)))
def eqO (a b : Op) : Bool := a.1 == b.1 && (a.2.1 == b.2.1 && (a.2.2.1 == b.2.2.1 && (a.2.2.2 == b.2.2.2 && true)))
theorem isZ_iff (t : Op) : isZ t = true ↔ t = Z := by
  obtain ⟨a, b, c, d⟩ := t
  simp [isZ, Z]
theorem eqO_iff (a b : Op) : eqO a b = true ↔ a = b := by
  obtain ⟨a1, a2, a3, a4⟩ := a
  obtain ⟨b1, b2, b3, b4⟩ := b
  simp [eqO]
def gi (gB za zf ga gf sa sf e : Bool) : Bool := bif bif !gB then !gB else bif bif !za then !ga else false then bif !za then !ga else false else bif !zf then bif !gf then true else !sf else false then false else bif za && !bif !gB then !gB else bif bif !za then !ga else false then bif !za then !ga else false else bif !zf then bif !gf then true else !sf else false then zf else bif !sa then true else e
def gs (gB za zf ga gf sa sf e : Bool) : Bool := bif bif !gB then true else bif !za then !ga else false then false else bif zf then !sa else bif bif bif !sf then true else !gf then true else za then false else bif !sa then true else e
theorem gl_i (B : Int) (a f : Op) : g47_0 B a.1 a.2.1 a.2.2.1 a.2.2.2 f.1 f.2.1 f.2.2.1 f.2.2.2 = gi (g128_0 B) (isZ a) (isZ f) (good a) (good f) (isSum a) (isSum f) (eqO f a) := rfl
theorem gl_s (B : Int) (a f : Op) : g66_0 B a.1 a.2.1 a.2.2.1 a.2.2.2 f.1 f.2.1 f.2.2.1 f.2.2.2 = gs (g128_0 B) (isZ a) (isZ f) (good a) (good f) (isSum a) (isSum f) (eqO a f) := by
  unfold g66_0
  rw [sgood_eq, sgood_eq]
  rfl
theorem gi_gs : ∀ gB za zf ga gf sa sf e : Bool, (za = true → sa = false) → (zf = true → sf = false) → (e = true → za = zf) → gi gB za zf ga gf sa sf e = gs gB za zf ga gf sa sf e := by decide
theorem gi_G : ∀ gB za zf ga gf sa sf e : Bool, (za = true → sa = false) → (zf = true → sf = false) → (e = true → za = zf) → gi gB za zf ga gf sa sf e = true → gB = true ∧ (za = true ∧ zf = true ∨ ga = true ∧ (zf = true ∧ sa = false ∨ gf = true ∧ sf = true ∧ (sa = true → e = true))) := by
  intro gB za zf ga gf sa sf e
  cases gB <;> cases za <;> cases zf <;> cases ga <;> cases gf <;> cases sa <;> cases sf <;> cases e <;> decide
theorem zs {t : Op} (h : isZ t = true) : isSum t = false := by rw [(isZ_iff t).1 h]; rfl
theorem ez {a f : Op} (h : eqO f a = true) : isZ a = isZ f := by rw [(eqO_iff f a).1 h]
theorem eq_sym (a f : Op) : eqO a f = eqO f a := by
  rw [Bool.eq_iff_iff, eqO_iff, eqO_iff]
  exact eq_comm
theorem sgl (B : Int) (a f : Op) : g66_0 B a.1 a.2.1 a.2.2.1 a.2.2.2 f.1 f.2.1 f.2.2.1 f.2.2.2 = g47_0 B a.1 a.2.1 a.2.2.1 a.2.2.2 f.1 f.2.1 f.2.2.1 f.2.2.2 := by
  rw [gl_i, gl_s, eq_sym]
  exact (gi_gs _ _ _ _ _ _ _ _ zs zs ez).symm
theorem good_G {B : Int} {a f : Op} (h : g47_0 B a.1 a.2.1 a.2.2.1 a.2.2.2 f.1 f.2.1 f.2.2.1 f.2.2.2 = true) : g128_0 B = true ∧ G a f := by
  rw [gl_i] at h
  obtain ⟨h1, h2⟩ := gi_G _ _ _ _ _ _ _ _ zs zs ez h
  refine ⟨h1, ⟨?_⟩⟩
  rcases h2 with ⟨x, y⟩ | ⟨x, ⟨y, z⟩ | ⟨y, z, w⟩⟩
  · exact .inl ⟨(isZ_iff a).1 x, (isZ_iff f).1 y⟩
  · exact .inr ⟨x, .inl ⟨(isZ_iff f).1 y, z⟩⟩
  · exact .inr ⟨x, .inr ⟨y, z, fun q => (eqO_iff f a).1 (w q)⟩⟩
/-- Flags of a note, by the reference. -/
def sfl (B : Int) (a f : Op) : Int := bif bif !isZ a then !isSum a else false then smk (bif !isZ f then smk B f else B) a else bif !isZ f then smk B f else B
theorem sfl_eq (B : Int) (a f : Op) : g143_0 B a.1 a.2.1 a.2.2.1 a.2.2.2 f.1 f.2.1 f.2.2.1 f.2.2.2 = sfl B a f := by
  unfold g143_0 g140_0 g141_0 sfl isZ isSum smk g129_0
  with_reducible rfl
theorem nz {t : Op} (h : good t = true) : isZ t = false := by
  cases hz : isZ t
  · rfl
  · have e := (isZ_iff t).1 hz
    have n := good_ne h
    rw [e] at n
    exact absurd rfl n
theorem zz : isZ Z = true := rfl
theorem xz (B : Int) : xOf B Z = B := by unfold xOf; rw [if_pos (show Z.1 = 0 from rfl)]
theorem xg (B : Int) {t : Op} (h : good t = true) : xOf B t = mk 0 t := by unfold xOf; rw [if_neg (good_ne h)]
theorem sf_z (B : Int) : sfl B Z Z = xOf B Z / 16 * 16 + xOf B Z % 16 := by
  unfold sfl
  rw [zz, xz, Bool.not_true, cond_false, cond_false, cond_false]
  omega
theorem sf_a {B : Int} (hB' : 0 ≤ B ∧ B ≤ 31) {a : Op} (ha : good a = true) (hs : isSum a = false) : sfl B a Z = xOf B Z / 16 * 16 + xOf B a % 16 := by
  obtain ⟨r, p1, p2⟩ := mk_laws ha
  obtain ⟨q, p⟩ := p2 hs
  unfold sfl
  rw [zz, nz ha, hs, xz, xg B ha, Bool.not_true, Bool.not_false, cond_true, cond_true, cond_false, (p B hB').2]
  omega
theorem sf_f {B : Int} {a f : Op} (ha : good a = true) (hf : good f = true) (hsf : isSum f = true) (hsa : isSum a = false) : sfl B a f = xOf B f / 16 * 16 + xOf B a % 16 := by
  obtain ⟨rf, f1, f2⟩ := mk_laws hf
  obtain ⟨r, p1, p2⟩ := mk_laws ha
  obtain ⟨q, p⟩ := p2 hsa
  unfold sfl
  rw [nz hf, nz ha, hsa, xg B ha, xg B hf, Bool.not_false, cond_true, cond_true, cond_true, (f1 hsf B).2, (p _ rf).2]
  omega
theorem sf_s {B : Int} {a : Op} (ha : good a = true) (hsa : isSum a = true) : sfl B a a = xOf B a / 16 * 16 + xOf B a % 16 := by
  obtain ⟨r, p1, p2⟩ := mk_laws ha
  unfold sfl
  rw [nz ha, hsa, xg B ha, Bool.not_false, Bool.not_true, cond_true, cond_false, cond_true, (p1 hsa B).2]
  omega
theorem sflags {B : Int} {a f : Op} (hB : g128_0 B = true) (g : G a f) : g143_0 B a.1 a.2.1 a.2.2.1 a.2.2.2 f.1 f.2.1 f.2.2.1 f.2.2.2 = xOf B f / 16 * 16 + xOf B a % 16 := by
  have hB' : 0 ≤ B ∧ B ≤ 31 := (within_iff B 0 31).1 hB
  rw [sfl_eq]
  rcases g.h with ⟨rfl, rfl⟩ | ⟨ha, ⟨rfl, hs⟩ | ⟨hf, hsf, he⟩⟩
  · exact sf_z B
  · exact sf_a hB' ha hs
  · cases hsa : isSum a
    · exact sf_f ha hf hsf hsa
    · have hfa := he hsa
      subst hfa
      exact sf_s hf hsa
theorem test_all : ∀ (k : Fin 16) (e : Fin 32), g131_0 (k.val : Int) (e.val : Int) = g145_0 (k.val : Int) (e.val : Int) := by decide +kernel
theorem test_at {k e : Int} (hk : 0 ≤ k ∧ k ≤ 15) (he : 0 ≤ e ∧ e ≤ 31) : g131_0 k e = g145_0 k e := by
  obtain ⟨i, rfl⟩ := f16 hk.1 hk.2
  obtain ⟨j, rfl⟩ := f32 he.1 he.2
  exact test_all i j
structure Same (B : Int) (a f : Op) : Prop where
  g : g45_1 B a.1 a.2.1 a.2.2.1 a.2.2.2 f.1 f.2.1 f.2.2.1 f.2.2.2 = g68_1 B a.1 a.2.1 a.2.2.1 a.2.2.2 f.1 f.2.1 f.2.2.1 f.2.2.2
  v : g45_0 B a.1 a.2.1 a.2.2.1 a.2.2.2 f.1 f.2.1 f.2.2.1 f.2.2.2 = g68_0 B a.1 a.2.1 a.2.2.1 a.2.2.2 f.1 f.2.1 f.2.2.1 f.2.2.2
  c0 : g46_0 B a.1 a.2.1 a.2.2.1 a.2.2.2 f.1 f.2.1 f.2.2.1 f.2.2.2 = g69_0 B a.1 a.2.1 a.2.2.1 a.2.2.2 f.1 f.2.1 f.2.2.1 f.2.2.2
  c1 : g46_1 B a.1 a.2.1 a.2.2.1 a.2.2.2 f.1 f.2.1 f.2.2.1 f.2.2.2 = g69_1 B a.1 a.2.1 a.2.2.1 a.2.2.2 f.1 f.2.1 f.2.2.1 f.2.2.2
  c2 : g46_2 B a.1 a.2.1 a.2.2.1 a.2.2.2 f.1 f.2.1 f.2.2.1 f.2.2.2 = g69_2 B a.1 a.2.1 a.2.2.1 a.2.2.2 f.1 f.2.1 f.2.2.1 f.2.2.2
  t1 : ∀ k, g48_1 B a.1 a.2.1 a.2.2.1 a.2.2.2 f.1 f.2.1 f.2.2.1 f.2.2.2 k = g71_1 B a.1 a.2.1 a.2.2.1 a.2.2.2 f.1 f.2.1 f.2.2.1 f.2.2.2 k
  t0 : ∀ k, g48_0 B a.1 a.2.1 a.2.2.1 a.2.2.2 f.1 f.2.1 f.2.2.1 f.2.2.2 k = g71_0 B a.1 a.2.1 a.2.2.1 a.2.2.2 f.1 f.2.1 f.2.2.1 f.2.2.2 k
theorem same_all (B : Int) (a f : Op) : Same B a f := by
  have sg := sgl B a f
  cases hg : g47_0 B a.1 a.2.1 a.2.2.1 a.2.2.2 f.1 f.2.1 f.2.2.1 f.2.2.2
  · have hs := sg.trans hg
    have i1 : g45_1 B a.1 a.2.1 a.2.2.1 a.2.2.2 f.1 f.2.1 f.2.2.1 f.2.2.2 = false := hg
    have s1 : g68_1 B a.1 a.2.1 a.2.2.1 a.2.2.2 f.1 f.2.1 f.2.2.1 f.2.2.2 = false := hs
    have i0 : g45_0 B a.1 a.2.1 a.2.2.1 a.2.2.2 f.1 f.2.1 f.2.2.1 f.2.2.2 = 0 := by unfold g45_0; rw [hg]; rfl
    have s0 : g68_0 B a.1 a.2.1 a.2.2.1 a.2.2.2 f.1 f.2.1 f.2.2.1 f.2.2.2 = 0 := by unfold g68_0; rw [hs]; rfl
    refine ⟨i1.trans s1.symm, i0.trans s0.symm, ?_, ?_, ?_, fun k => ?_, fun k => ?_⟩
    · unfold g46_0 g69_0; rw [i0, hs]; show _ = (0 : Int); decide +kernel
    · unfold g46_1 g69_1; rw [i0, hs]; show _ = (0 : Int); decide +kernel
    · unfold g46_2 g69_2; rw [i1, hs]
    · unfold g48_1 g71_1; rw [i1, hs]; rfl
    · unfold g48_0 g71_0; rw [i1, hs]; rfl
  · have hs := sg.trans hg
    obtain ⟨hB, g⟩ := good_G hg
    have hB' : 0 ≤ B ∧ B ≤ 31 := (within_iff B 0 31).1 hB
    have x1 := xOf_rng hB' (G_a g)
    have x2 := xOf_rng hB' (G_f g)
    have i1 : g45_1 B a.1 a.2.1 a.2.2.1 a.2.2.2 f.1 f.2.1 f.2.2.1 f.2.2.2 = true := hg
    have s1 : g68_1 B a.1 a.2.1 a.2.2.1 a.2.2.2 f.1 f.2.1 f.2.2.1 f.2.2.2 = true := hs
    have i0 := lazy_flags hB g
    have s0 := sflags hB g
    generalize xOf B f / 16 * 16 + xOf B a % 16 = e at i0 s0
    have he : 0 ≤ e ∧ e ≤ 31 := by
      have := lazy_flags hB g
      rw [i0] at this
      omega
    have hfe : g128_0 e = true := (within_iff e 0 31).2 he
    refine ⟨i1.trans s1.symm, ?_, ?_, ?_, ?_, fun k => ?_, fun k => ?_⟩
    · rw [i0]; unfold g68_0; rw [hs, s0]; rfl
    · unfold g46_0 g69_0; rw [i0, hs, s0]; rfl
    · unfold g46_1 g69_1; rw [i0, hs, s0, IntKind.wrap_i64, Int.tdiv_eq_ediv_of_nonneg he.1, Int.fdiv_eq_ediv_of_nonneg _ (by decide)]; simp only [Bool.not_true, cond_false]; omega
    · unfold g46_2 g69_2; rw [i1, hs]
    · unfold g48_1 g71_1 g49_1
      rw [i1, i0, hs, hfe, show g144_0 k = g130_0 k from rfl]
      cases g130_0 k <;> rfl
    · unfold g48_0 g71_0 g49_0
      rw [i1, i0, hs, s0, hfe, show g144_0 k = g130_0 k from rfl]
      cases hk : g130_0 k
      · rfl
      · have hk' : 0 ≤ k ∧ k ≤ 15 := (within_iff k 0 15).1 hk
        simp only [Bool.not_true, cond_false]
        exact test_at hk' he
/-! One operation more. -/
theorem are_iq (q : Bool) (B : Int) {l : List Op} (h : l.length ≤ 41) : g121_0 B q (fr l) = (g128_0 B && (decide ((↑(List.length (fr l)) : Int) ≤ 40) && l.all good)) := by
  unfold g121_0
  rw [(conts q h).2]
  cases g128_0 B <;> cases decide ((↑(List.length (fr l)) : Int) ≤ 40) <;> cases l.all good <;> rfl
theorem sgl' (B k s a b k' s' a' b' : Int) : g66_0 B k s a b k' s' a' b' = g47_0 B k s a b k' s' a' b' := sgl B (k, s, a, b) (k', s', a', b')
theorem n5 (a b : Int) : g125_5 a b = g122_5 a b := rfl
theorem n6 (a b c : Int) : g125_6 a b c = g122_6 a b c := rfl
theorem n7 (a b c : Int) : g125_7 a b c = g122_7 a b c := rfl
theorem n8 (a b c : Int) : g125_8 a b c = g122_8 a b c := rfl
theorem p13 (x0 : List Row) : g8_s13 x0 = false := by
  unfold g8_s13 g8_s2 g8_s3 g8_s4 g8_s5 g8_s6 g8_s7 g8_s8 g8_s9 g8_s10 g8_s11 g8_s12 g62_0 g62_1 g62_2 g62_3 g62_4 g62_5 g62_6 g62_7 g62_8 g62_9 g63_0 g63_1 g63_2 g63_3 g63_4 g63_5 g63_6 g63_7 g63_8 g63_9
  simp only [sgl', sgood_eq, n5, n6, n7, n8, beq_self_eq_true, Bool.not_true, Bool.and_self, cond_false]
structure On (x0 : List Row) (B : Int) (a f t : Op) : Prop where
  s3 : g8_s3 x0 = B
  s4 : g8_s4 x0 = t.1
  s5 : g8_s5 x0 = t.2.1
  s6 : g8_s6 x0 = t.2.2.1
  s7 : g8_s7 x0 = t.2.2.2
  s8 : g8_s8 x0 = (farOf f [t]).1
  s9 : g8_s9 x0 = (farOf f [t]).2.1
  s10 : g8_s10 x0 = (farOf f [t]).2.2.1
  s11 : g8_s11 x0 = (farOf f [t]).2.2.2
  hB : g128_0 B = true
  g : G a f
  gt : good t = true
  gn : G t (farOf f [t])
  e15 : g8_s15 x0 = xOf B f / 16 * 16 + xOf B a % 16
  er : 0 ≤ g8_s15 x0 ∧ g8_s15 x0 ≤ 31
  ar : g121_0 (g8_s15 x0) false (fr [t]) = true
  ew : L43_0 70 (g8_s15 x0) false (fr [t]) 1 0 = some (flagsOf (g8_s15 x0) [t], false, fr [t], 1, 1)
  ef : flagsOf (g8_s15 x0) [t] = xOf B (farOf f [t]) / 16 * 16 + xOf B t % 16
theorem on_of {x0 : List Row} (h : g8_s2 x0 = true) : On x0 (g61_0 x0) (g61_1 x0, g61_2 x0, g61_3 x0, g61_4 x0) (g61_5 x0, g61_6 x0, g61_7 x0, g61_8 x0) (g61_9 x0, g61_10 x0, g61_11 x0, g61_12 x0) := by
  have h2 := h
  unfold g8_s2 g62_9 at h2
  cases hz : g47_0 (g61_0 x0) (g61_1 x0) (g61_2 x0) (g61_3 x0) (g61_4 x0) (g61_5 x0) (g61_6 x0) (g61_7 x0) (g61_8 x0)
  · rw [hz] at h2; simp at h2
  cases ht : g64_0 (g61_9 x0) (g61_10 x0) (g61_11 x0) (g61_12 x0)
  · rw [hz, ht] at h2; simp at h2
  obtain ⟨hB, g⟩ := good_G (a := (g61_1 x0, g61_2 x0, g61_3 x0, g61_4 x0)) (f := (g61_5 x0, g61_6 x0, g61_7 x0, g61_8 x0)) hz
  have hB' := (within_iff (g61_0 x0) 0 31).1 hB
  have gt : good (g61_9 x0, g61_10 x0, g61_11 x0, g61_12 x0) = true := ht
  have gn := G_step g gt
  have e15 : g8_s15 x0 = _ := lazy_flags hB g
  have x1 := xOf_rng hB' (G_a g)
  have x2 := xOf_rng hB' (G_f g)
  have er : 0 ≤ g8_s15 x0 ∧ g8_s15 x0 ≤ 31 := by rw [e15]; omega
  have ga : ([(g61_9 x0, g61_10 x0, g61_11 x0, g61_12 x0)] : List Op).all good = true := by rw [List.all_cons, gt]; rfl
  have fs : ∀ i : Op → Int, (bif isSum (g61_9 x0, g61_10 x0, g61_11 x0, g61_12 x0) then i (g61_9 x0, g61_10 x0, g61_11 x0, g61_12 x0) else i (g61_5 x0, g61_6 x0, g61_7 x0, g61_8 x0)) = i (farOf (g61_5 x0, g61_6 x0, g61_7 x0, g61_8 x0) [(g61_9 x0, g61_10 x0, g61_11 x0, g61_12 x0)]) := fun i => by
    show _ = i (if isSum (g61_9 x0, g61_10 x0, g61_11 x0, g61_12 x0) = true then (g61_9 x0, g61_10 x0, g61_11 x0, g61_12 x0) else (g61_5 x0, g61_6 x0, g61_7 x0, g61_8 x0))
    cases isSum (g61_9 x0, g61_10 x0, g61_11 x0, g61_12 x0) <;> rfl
  refine ⟨?_, ?_, ?_, ?_, ?_, ?_, ?_, ?_, ?_, hB, g, gt, gn, e15, er, ?_, ?_, (inv hB' _ _ _ _ g er e15 ga).2.2⟩
  · unfold g8_s3 g62_0; rw [hz, ht]; rfl
  · unfold g8_s4 g62_1; rw [hz, ht]; rfl
  · unfold g8_s5 g62_2; rw [hz, ht]; rfl
  · unfold g8_s6 g62_3; rw [hz, ht]; rfl
  · unfold g8_s7 g62_4; rw [hz, ht]; rfl
  · unfold g8_s8 g62_5; rw [hz, ht]; exact fs fun z => z.1
  · unfold g8_s9 g62_6; rw [hz, ht]; exact fs fun z => z.2.1
  · unfold g8_s10 g62_7; rw [hz, ht]; exact fs fun z => z.2.2.1
  · unfold g8_s11 g62_8; rw [hz, ht]; exact fs fun z => z.2.2.2
  · rw [are_iq false _ (by simp), ga, show g128_0 (g8_s15 x0) = true from (within_iff _ 0 31).2 er]; rfl
  · exact eager_i false [(g61_9 x0, g61_10 x0, g61_11 x0, g61_12 x0)] [] 70 1 (g8_s15 x0) rfl (by simp) (by simp) ga
theorem p17 (x0 : List Row) : g8_s17 x0 = false := by
  unfold g8_s17
  cases h : g8_s2 x0
  · rw [Bool.and_false]
  · have o := on_of h
    have gn : g47_0 (g8_s3 x0) (g8_s4 x0) (g8_s5 x0) (g8_s6 x0) (g8_s7 x0) (g8_s8 x0) (g8_s9 x0) (g8_s10 x0) (g8_s11 x0) = true := by
      rw [o.s3, o.s4, o.s5, o.s6, o.s7, o.s8, o.s9, o.s10, o.s11]; exact lazy_good o.hB o.gn
    have fn : g45_0 (g8_s3 x0) (g8_s4 x0) (g8_s5 x0) (g8_s6 x0) (g8_s7 x0) (g8_s8 x0) (g8_s9 x0) (g8_s10 x0) (g8_s11 x0) = flagsOf (g8_s15 x0) [(g61_9 x0, g61_10 x0, g61_11 x0, g61_12 x0)] := by
      rw [o.s3, o.s4, o.s5, o.s6, o.s7, o.s8, o.s9, o.s10, o.s11, o.ef]; exact lazy_flags o.hB o.gn
    have g1 : g45_1 (g61_0 x0) (g61_1 x0) (g61_2 x0) (g61_3 x0) (g61_4 x0) (g61_5 x0) (g61_6 x0) (g61_7 x0) (g61_8 x0) = true := lazy_good o.hB o.g
    have g2 : g45_1 (g8_s3 x0) (g8_s4 x0) (g8_s5 x0) (g8_s6 x0) (g8_s7 x0) (g8_s8 x0) (g8_s9 x0) (g8_s10 x0) (g8_s11 x0) = true := gn
    have g3 : g43_1 (g8_s15 x0) false (g8_s16 x0) = true := o.ar
    have g4 : g43_0 (g8_s15 x0) false (g8_s16 x0) = flagsOf (g8_s15 x0) [(g61_9 x0, g61_10 x0, g61_11 x0, g61_12 x0)] := by
      unfold g43_0 w43_0_0
      rw [show g121_0 (g8_s15 x0) false (g8_s16 x0) = true from o.ar, Bool.not_true, cond_false, show L43_0 70 (g8_s15 x0) false (g8_s16 x0) (↑(List.length (g8_s16 x0)) : Int) 0 = _ from o.ew]
      rfl
    unfold g8_s14
    rw [gn, g1, g2, g3, g4, fn]
    simp
theorem p18 (x1 : List Row) : g8_s18 x1 = true := by
  have S := same_all (g142_0 x1) (g142_1 x1, g142_2 x1, g142_3 x1, g142_4 x1) (g142_5 x1, g142_6 x1, g142_7 x1, g142_8 x1)
  have s1 := S.g; have s2 := S.v; have s3 := S.c0; have s4 := S.c1; have s5 := S.c2
  have T := same_all (g70_0 x1) (g70_1 x1, g70_2 x1, g70_3 x1, g70_4 x1) (g70_5 x1, g70_6 x1, g70_7 x1, g70_8 x1)
  have t1 := T.t1 (g70_9 x1); have t0 := T.t0 (g70_9 x1)
  dsimp only at s1 s2 s3 s4 s5 t1 t0
  unfold g8_s18
  rw [s1, s2, s3, s4, s5, t1, t0]
  simp
theorem pure8 (x0 x1 : List Row) : g8_0 x0 x1 = true := by
  unfold g8_0
  rw [p13, p17, p18]
  simp
theorem pureL (x0 x1 : List Row) (_h0 : bytesOk x0 = true) (_h1 : bytesOk x1 = true) : g8_0 x0 x1 = true := pure8 x0 x1
theorem okS {k q : Int} (h0 : 0 ≤ q) (h1 : q ≤ 100000) (h2 : k ≤ 100) : okTo k q = true := by rw [okTo_iff]; omega
theorem fop {x : List Row} (hb : bytesOk x = true) {p : Int} (h0 : 0 ≤ p) (h1 : p ≤ 50000) : okTo 2 p = true ∧ g139_s21 x p = true ∧ ∀ s, g139_s22 x p s = true := by
  have q1 : okTo 7 (p + 1 + 1) = true := okS (by omega) (by omega) (by decide)
  refine ⟨okS h0 (by omega) (by decide), ?_, fun s => ?_⟩
  · unfold g139_s21; rw [hb, q1]; rfl
  · unfold g139_s22
    have h := b93_2 x (p + 1 + 1) (g73_3 x (p + 1) (g73_3 x p s 5) 2) (IntKind.wrap .i64 (1 + g73_0 x (p + 1) (g73_3 x p s 5) 2))
    have := h.1; have := h.2
    rw [hb, okS (by omega) (by omega) (by decide)]; rfl
structure Dr (x : List Row) : Prop where
  ok : Option.isSome (L164_0 70 [] x (bif g83_0 x 2 (g73_3 x 1 (g73_3 x 0 0 32) 8) 20 then 4 else 3) (g164_s3 x 1 (g73_3 x 0 0 32)) (g164_s4 x 1 (g73_3 x 0 0 32))) = true
  l1 : Option.isSome (L124_0 70 false (g138_s1 x 0 0) false (g138_s1 x 0 0) (↑(List.length (g138_s1 x 0 0)) : Int) 0) = true
  l2 : Option.isSome (L42_0 70 0 0 0 0 0 0 0 0 0 (g73_0 x 0 0 32) 0 0 0 0 0 0 0 0 false (g138_s1 x 0 0) (↑(List.length (g138_s1 x 0 0)) : Int) 0) = true
  k3 : okTo 1 (g138_s3 x 0 0) = true
  k4 : okTo 1 (g138_s4 x 0 0) = true
  k18 : okTo 2 (g138_s18 x 0 0) = true
  s21 : g139_s21 x (g138_s18 x 0 0) = true
  s22 : ∀ s, g139_s22 x (g138_s18 x 0 0) s = true
  k40 : okTo 1 (g138_s40 x 0 0) = true
  k41 : okTo 1 (g138_s41 x 0 0) = true
  k42 : okTo 1 (g138_s42 x 0 0) = true
  k43 : okTo 5 (g138_s43 x 0 0) = true
  k44 : ∀ s, okTo 1 (g138_s43 x 0 0 + g150_2 x (g138_s43 x 0 0) s) = true
  e10 : 0 ≤ g138_10 x 0 0 ∧ g138_10 x 0 0 ≤ 3000
theorem dr {x : List Row} (hb : bytesOk x = true) : Dr x := by
  have d := ops_d hb (g73_3 x 0 0 32)
  obtain ⟨l, hl, h41⟩ := d.rows
  have e1 : g138_s1 x 0 0 = fr l := hl
  have hp := d.pos
  have e3 : 0 ≤ g138_s3 x 0 0 ∧ g138_s3 x 0 0 ≤ 2000 := hp
  have e4 : 0 ≤ g138_s4 x 0 0 ∧ g138_s4 x 0 0 ≤ 2001 := by
    unfold g138_s4
    cases g138_s2 x 0 0
    · simp only [cond_false]; omega
    · simp only [cond_true]; omega
  have e18 : 0 ≤ g138_s18 x 0 0 ∧ g138_s18 x 0 0 ≤ 2002 := by unfold g138_s18; omega
  have e34 : g138_s34 x 0 0 = g138_s18 x 0 0 + 1 + 1 := rfl
  have f1 := b93_2 x (g138_s34 x 0 0) (g138_s36 x 0 0) (g138_s37 x 0 0)
  have f2 := b93_2 x (g138_s38 x 0 0) (g138_s39 x 0 0) (g138_s37 x 0 0)
  have e38 : g138_s38 x 0 0 = g138_s34 x 0 0 + g93_2 x (g138_s34 x 0 0) (g138_s36 x 0 0) (g138_s37 x 0 0) := rfl
  have a1 := f1.1; have a2 := f1.2; have a3 := f2.1; have a4 := f2.2
  have e40 : 0 ≤ g138_s40 x 0 0 ∧ g138_s40 x 0 0 ≤ 2030 := by
    unfold g138_s40
    cases g138_s32 x 0 0
    · simp only [cond_false]; omega
    · simp only [cond_true]; omega
  have e43 : g138_s43 x 0 0 = g138_s40 x 0 0 + 1 + 1 + 1 := rfl
  have e42 : g138_s42 x 0 0 = g138_s40 x 0 0 + 1 + 1 := rfl
  have e41 : g138_s41 x 0 0 = g138_s40 x 0 0 + 1 := rfl
  obtain ⟨o1, o2, o3⟩ := fop hb e18.1 (by omega)
  have n := note_s false (g73_0 x 0 0 32) l [] 70 (↑(List.length (fr l)) : Int) Z Z (by simp [fr_len]) (by simp; omega) (by omega)
  have n : L42_0 70 0 0 0 0 0 0 0 0 0 (g73_0 x 0 0 32) 0 0 0 0 0 0 0 0 false (fr l) (↑(List.length (fr l)) : Int) 0 = _ := n
  refine ⟨d.ok, ?_, ?_, okS e3.1 (by omega) (by decide), okS e4.1 (by omega) (by decide), o1, o2, o3, okS e40.1 (by omega) (by decide), okS (by omega) (by omega) (by decide), okS (by omega) (by omega) (by decide), okS (by omega) (by omega) (by decide), fun s => ?_, ?_⟩
  · rw [e1]; exact (sops false h41).1
  · rw [e1, n]; rfl
  · have h := b150_2 x (g138_s43 x 0 0) s
    have := h.1; have := h.2
    exact okS (by omega) (by omega) (by decide)
  · unfold g138_10
    have h := b139_5 x (g138_s18 x 0 0) (g138_s19 x 0 0)
    have := h.1; have := h.2
    cases g138_s7 x 0 0
    · simp only [cond_false]; omega
    · simp only [cond_true]; omega
def pt (k s : Int) : Bool := (decide (0 ≤ IntKind.wrap IntKind.i64 (8 * s)) || !k == 1) && ((decide (0 ≤ IntKind.wrap IntKind.i64 (8 * s)) || !k == 2) && ((decide (0 ≤ IntKind.wrap IntKind.i64 (8 * s)) || !k == 3) && ((decide (0 ≤ IntKind.wrap IntKind.i64 (8 * s)) || !k == 4) && (decide (0 ≤ IntKind.wrap IntKind.i64 (IntKind.wrap IntKind.i64 (8 * s) - 1)) && (decide (0 ≤ IntKind.wrap IntKind.i64 (IntKind.wrap IntKind.i64 (8 * s) - 1)) && decide (0 ≤ IntKind.wrap IntKind.i64 (8 * s))) || k == 4) || k == 3) || k == 2) || k == 1) || !k != 0
theorem zc (B k s a b k' s' a' b' : Int) : (pt k' s' && pt k s || !g47_0 B k s a b k' s' a' b') = true := by
  cases h : g47_0 B k s a b k' s' a' b'
  · simp
  · obtain ⟨_, g⟩ := good_G (a := (k, s, a, b)) (f := (k', s', a', b')) h
    have p1 : pt k' s' = true := part (G_f g)
    have p2 : pt k s = true := part (G_a g)
    rw [p1, p2]; rfl
theorem okC {x1 : List Row} (h1 : bytesOk x1 = true) : g8_s102 x1 = true := by
  have d := dr h1
  have z1 := zc (g142_0 x1) (g142_1 x1) (g142_2 x1) (g142_3 x1) (g142_4 x1) (g142_5 x1) (g142_6 x1) (g142_7 x1) (g142_8 x1)
  have z2 := zc (g70_0 x1) (g70_1 x1) (g70_2 x1) (g70_3 x1) (g70_4 x1) (g70_5 x1) (g70_6 x1) (g70_7 x1) (g70_8 x1)
  have t54 : g8_s54 x1 = true := d.ok
  have t57 : g8_s57 x1 = true := by
    have e : Option.isSome (L124_0 70 false (g8_s55 x1) false (g8_s55 x1) (↑(List.length (g8_s55 x1)) : Int) 0) = true := d.l1
    unfold g8_s57; rw [e]; rfl
  have t58 : g8_s58 x1 = true := by
    have e : Option.isSome (L42_0 70 0 0 0 0 0 0 0 0 0 (g8_s56 x1) 0 0 0 0 0 0 0 0 false (g8_s55 x1) (↑(List.length (g8_s55 x1)) : Int) 0) = true := d.l2
    unfold g8_s58; rw [e]; rfl
  have t59 : g8_s59 x1 = true := by unfold g8_s59; rw [d.k3]; rfl
  have t60 : g8_s60 x1 = true := d.k4
  have t68 : g8_s68 x1 = true := by
    unfold g8_s68 g8_s61 g8_s63 g8_s64 g8_s65 g8_s66
    simp only [d.k18, d.s21, d.s22, d.k40, d.k41, d.k42, d.k43, d.k44, Bool.true_and, Bool.true_or, Bool.and_self]
  have t85 : g8_s85 x1 = true := by
    have e : g8_s85 x1 = ((pt (g142_5 x1) (g142_6 x1) && pt (g142_1 x1) (g142_2 x1) || !g47_0 (g142_0 x1) (g142_1 x1) (g142_2 x1) (g142_3 x1) (g142_4 x1) (g142_5 x1) (g142_6 x1) (g142_7 x1) (g142_8 x1)) && true && true) := rfl
    rw [e, z1]; rfl
  have t10 : okTo 1 (g138_10 x1 0 0) = true := okS d.e10.1 (by have := d.e10.2; omega) (by decide)
  have e : g8_s102 x1 = (bytesOk x1 && (g8_s54 x1 && (g8_s57 x1 && (g8_s58 x1 && (g8_s59 x1 && (g8_s60 x1 && g8_s68 x1))))) && true && true && (g8_s85 x1 && (g8_s85 x1 && (bytesOk x1 && (g8_s54 x1 && (g8_s57 x1 && (g8_s58 x1 && (g8_s59 x1 && (g8_s60 x1 && (g8_s68 x1 && okTo 1 (g138_10 x1 0 0))))))) && true && true && ((pt (g70_5 x1) (g70_6 x1) && pt (g70_1 x1) (g70_2 x1) || !g47_0 (g70_0 x1) (g70_1 x1) (g70_2 x1) (g70_3 x1) (g70_4 x1) (g70_5 x1) (g70_6 x1) (g70_7 x1) (g70_8 x1)) && true && true && true))))) := rfl
  rw [e, h1, t54, t57, t58, t59, t60, t68, t85, t10, z2]
  rfl
theorem okL (x0 x1 : List Row) (h0 : bytesOk x0 = true) (h1 : bytesOk x1 = true) : ∃ ok, q8 [.one (.imm true 1 x0), .one (.imm true 1 x1)] [] = some ((SV.one (T.lit (Value.bool (g8_0 x0 x1))), []), ok) ∧ ok = true := by
  refine ⟨_, rfl, ?_⟩
  have d := dr h0
  have f0 : Option.isSome (L164_0 70 [] x0 (bif g83_0 x0 2 (g73_3 x0 1 (g61_s15 x0) 8) 20 then 4 else 3) (g164_s3 x0 1 (g61_s15 x0)) (g164_s4 x0 1 (g61_s15 x0))) = true := d.ok
  have f1 : Option.isSome (L124_0 70 false (g61_s16 x0) false (g61_s16 x0) (↑(List.length (g61_s16 x0)) : Int) 0) = true := d.l1
  have f2 : Option.isSome (L42_0 70 0 0 0 0 0 0 0 0 0 (g61_s17 x0) 0 0 0 0 0 0 0 0 false (g61_s16 x0) (↑(List.length (g61_s16 x0)) : Int) 0) = true := d.l2
  have k18 : okTo 2 (g61_s18 x0) = true := d.k18
  have s21 : g139_s21 x0 (g61_s18 x0) = true := d.s21
  have s22 : ∀ s, g139_s22 x0 (g61_s18 x0) s = true := d.s22
  have k40 : okTo 1 (g61_s20 x0) = true := d.k40
  have k41 : okTo 1 (g61_s21 x0) = true := d.k41
  have k42 : okTo 1 (g61_s22 x0) = true := d.k42
  have k43 : okTo 5 (g61_s23 x0) = true := d.k43
  have k44 : ∀ s, okTo 1 (g61_s23 x0 + g150_2 x0 (g61_s23 x0) s) = true := d.k44
  have e9 : 0 ≤ g61_s9 x0 ∧ g61_s9 x0 ≤ 3000 := d.e10
  obtain ⟨o1, o2, o3⟩ := fop h0 e9.1 (by omega)
  have u1 := b93_2 x0 (g61_s28 x0) (g61_s29 x0) (g61_s30 x0)
  have u2 := b93_2 x0 (g61_s31 x0) (g93_3 x0 (g61_s28 x0) (g61_s29 x0) (g61_s30 x0)) (g61_s30 x0)
  have a1 := u1.1; have a2 := u1.2; have a3 := u2.1; have a4 := u2.2
  have e28 : g61_s28 x0 = g61_s9 x0 + 1 + 1 := rfl
  have e31 : g61_s31 x0 = g61_s28 x0 + g93_2 x0 (g61_s28 x0) (g61_s29 x0) (g61_s30 x0) := rfl
  have e32 : 0 ≤ g61_s32 x0 ∧ g61_s32 x0 ≤ 3030 := by
    unfold g61_s32
    cases g61_s26 x0
    · simp only [cond_false]; omega
    · simp only [cond_true]; omega
  have e33 : g61_s33 x0 = g61_s32 x0 + 1 := rfl
  have e34 : g61_s34 x0 = g61_s33 x0 + 1 := rfl
  have e35 : g61_s35 x0 = g61_s34 x0 + 1 := rfl
  have q32 : okTo 1 (g61_s32 x0) = true := okS e32.1 (by omega) (by decide)
  have q33 : okTo 1 (g61_s33 x0) = true := okS (by omega) (by omega) (by decide)
  have q34 : okTo 1 (g61_s34 x0) = true := okS (by omega) (by omega) (by decide)
  have q35 : okTo 5 (g61_s35 x0) = true := okS (by omega) (by omega) (by decide)
  have q36 : ∀ s, okTo 1 (g61_s35 x0 + g150_2 x0 (g61_s35 x0) s) = true := fun s => by
    have h := b150_2 x0 (g61_s35 x0) s
    have := h.1; have := h.2
    exact okS (by omega) (by omega) (by decide)
  simp only [h0, f0, f1, f2, d.k3, d.k4, k18, s21, s22, k40, k41, k42, k43, k44, o1, o2, o3, q32, q33, q34, q35, q36, okC h1, Bool.true_and, Bool.true_or, Bool.and_self]
  cases h : g8_s2 x0
  · simp only [Bool.not_false, Bool.or_true, Bool.true_or, Bool.true_and]
  · have o := on_of h
    have z1 := zc (g61_0 x0) (g61_1 x0) (g61_2 x0) (g61_3 x0) (g61_4 x0) (g61_5 x0) (g61_6 x0) (g61_7 x0) (g61_8 x0)
    have z2 := zc (g8_s3 x0) (g8_s4 x0) (g8_s5 x0) (g8_s6 x0) (g8_s7 x0) (g8_s8 x0) (g8_s9 x0) (g8_s10 x0) (g8_s11 x0)
    have z2 : ((((g8_s37 x0 || !g8_s38 x0) && ((g8_s37 x0 || !g8_s39 x0) && ((g8_s37 x0 || !g8_s40 x0) && ((g8_s37 x0 || !g8_s41 x0) && (g8_s43 x0 && (g8_s43 x0 && g8_s37 x0) || g8_s41 x0) || g8_s40 x0) || g8_s39 x0) || g8_s38 x0) || !g8_s8 x0 != 0) && ((g8_s45 x0 || !g8_s46 x0) && ((g8_s45 x0 || !g8_s47 x0) && ((g8_s45 x0 || !g8_s48 x0) && ((g8_s45 x0 || !g8_s49 x0) && (g8_s51 x0 && (g8_s51 x0 && g8_s45 x0) || g8_s49 x0) || g8_s48 x0) || g8_s47 x0) || g8_s46 x0) || !g8_s4 x0 != 0) || g8_s14 x0)) = true := z2
    have z1 : ((((g8_s21 x0 || !g8_s22 x0) && ((g8_s21 x0 || !g8_s23 x0) && ((g8_s21 x0 || !g8_s24 x0) && ((g8_s21 x0 || !g8_s25 x0) && (g8_s27 x0 && (g8_s27 x0 && g8_s21 x0) || g8_s25 x0) || g8_s24 x0) || g8_s23 x0) || g8_s22 x0) || !g61_5 x0 != 0) && ((g8_s29 x0 || !g8_s30 x0) && ((g8_s29 x0 || !g8_s31 x0) && ((g8_s29 x0 || !g8_s32 x0) && ((g8_s29 x0 || !g8_s33 x0) && (g8_s35 x0 && (g8_s35 x0 && g8_s29 x0) || g8_s33 x0) || g8_s32 x0) || g8_s31 x0) || g8_s30 x0) || !g61_1 x0 != 0) || !g8_s12 x0)) = true := z1
    have c1 : Option.isSome (L181_0 70 false (g8_s16 x0) (↑(1 : Nat) : Int) 0) = true := (conts false (l := [(g61_9 x0, g61_10 x0, g61_11 x0, g61_12 x0)]) (by simp)).1
    have c2 : Option.isSome (L43_0 70 (g8_s15 x0) false (g8_s16 x0) (↑(1 : Nat) : Int) 0) = true := by
      have e : L43_0 70 (g8_s15 x0) false (g8_s16 x0) (↑(1 : Nat) : Int) 0 = _ := o.ew
      rw [e]; rfl
    rw [z1, z2, c1, c2]
    simp only [Bool.true_or, Bool.or_true, Bool.true_and, Bool.and_self, Bool.and_true]
end Go.Proofs.YtilfpkfifdhhdaaNotes
