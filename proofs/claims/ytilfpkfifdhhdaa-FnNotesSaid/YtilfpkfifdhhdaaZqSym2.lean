/- Operations of a block over open terms: guarded ones are put together with their choice. -/
import Derived.Test.YtilfpkfifdhhdaaZqSym
set_option linter.unusedVariables false
set_option linter.unusedSimpArgs false
namespace Go.Zq
open Go

def K.dsts (k : K) : List Nat := match k.dst with | some d => [d] | none => []

/-- A block's operations; those that a guard holds lie inside, and behind them a choice. -/
inductive Its where
  | nil
  | op (k : K) (r : Its)
  | iff (s : Nat) (w : Bool) (its : Its) (d : Nat) (x y : Opd) (r : Its)

def Its.flat (g : Option (Nat × Bool)) : Its → List G
  | .nil => []
  | .op k r => (g, k) :: r.flat g
  | .iff s w its d x y r => its.flat (some (s, w)) ++ (g, .pick d (.t s) x y) :: r.flat g
def Its.dsts : Its → List Nat
  | .nil => []
  | .op k r => k.dsts ++ r.dsts
  | .iff _ _ its d _ _ r => its.dsts ++ d :: r.dsts
def Its.quiet : Its → Bool
  | .nil => true
  | .op k r => quietK k && r.quiet
  | .iff _ _ its _ _ _ r => its.quiet && r.quiet
/-- A guard inside is set inside. -/
def Its.inner (ds : List Nat) : Its → Bool
  | .nil => true
  | .op k r => r.inner (k.dsts ++ ds)
  | .iff s _ its d _ _ r => ds.contains s && its.inner [] && r.inner (d :: (its.dsts ++ ds))

def eqG : Option (Nat × Bool) → Option (Nat × Bool) → Bool
  | none, none => true
  | some (s, w), some (s', w') => Nat.beq s s' && (w == w')
  | _, _ => false
theorem eqG_eq : ∀ {g h : Option (Nat × Bool)}, eqG g h = true → g = h
  | none, none, _ => rfl
  | some (s, w), some (s', w'), h => by
    simp only [eqG, Bool.and_eq_true, beq_iff_eq] at h
    rw [Nat.eq_of_beq_eq_true h.1, h.2]
  | none, some _, h => by simp [eqG] at h
  | some _, none, h => by simp [eqG] at h

def parse : Nat → Option (Nat × Bool) → List G → Its × List G
  | 0, _, l => (.nil, l)
  | _ + 1, _, [] => (.nil, [])
  | n + 1, cur, (g, k) :: r =>
    if eqG g cur then let p := parse n cur r; (.op k p.1, p.2)
    else match g with
      | none => (.nil, (g, k) :: r)
      | some (s, w) =>
        let q := parse n (some (s, w)) ((g, k) :: r)
        match q.2 with
        | (g', .pick d (.t s') x y) :: r' =>
          if eqG g' cur && Nat.beq s' s then let p := parse n cur r'; (.iff s w q.1 d x y p.1, p.2) else (.nil, (g, k) :: r)
        | _ => (.nil, (g, k) :: r)

theorem parse_flat : ∀ (n : Nat) (cur : Option (Nat × Bool)) (l : List G), (parse n cur l).1.flat cur ++ (parse n cur l).2 = l
  | 0, _, l => rfl
  | _ + 1, _, [] => rfl
  | n + 1, cur, (g, k) :: r => by
    unfold parse
    split
    · rename_i h
      simp only [Its.flat, List.cons_append, parse_flat n cur r, eqG_eq h]
    · split
      · rfl
      · rename_i s w hh
        simp only
        split
        · rename_i g' d s' x y r' hq
          split
          · rename_i hc
            simp only [Bool.and_eq_true] at hc
            obtain rfl := eqG_eq hc.1
            obtain rfl := Nat.eq_of_beq_eq_true hc.2
            have h1 := parse_flat n (some (s', w)) ((some (s', w), k) :: r)
            rw [hq] at h1
            simp only [Its.flat, List.append_assoc, List.cons_append, parse_flat n g' r']
            exact h1
          · rfl
        · rfl

def dropSl (sl : List (Nat × SV)) (ds : List Nat) : List (Nat × SV) := sl.filter fun p => !ds.contains p.1
theorem lookup_drop {ds : List Nat} {n : Nat} {v : SV} : ∀ {sl : List (Nat × SV)}, lookup n (dropSl sl ds) = some v → n ∉ ds ∧ lookup n sl = some v
  | [], h => by simp [dropSl, lookup] at h
  | (m, u) :: r, h => by
    unfold dropSl at h
    rw [List.filter_cons] at h
    split at h
    · rename_i hm
      simp only [lookup] at h ⊢
      split at h
      · rename_i e
        subst e
        exact ⟨by simpa using hm, by rw [if_pos rfl]; exact h⟩
      · rename_i e
        rw [if_neg e]
        exact lookup_drop h
    · rename_i hm
      have := lookup_drop (sl := r) h
      refine ⟨this.1, ?_⟩
      simp only [lookup]
      split
      · rename_i e
        subst e
        exact absurd (by simpa using hm) this.1
      · exact this.2

/-- More is known. -/
structure Le (σ σ' : St) : Prop where
  sl : ∀ n v, lookup n σ.sl = some v → lookup n σ'.sl = some v
  hp : σ'.hp = σ.hp
theorem Le.rfl {σ : St} : Le σ σ := ⟨fun _ _ h => h, Eq.refl _⟩
theorem Le.trans {a b c : St} (h : Le a b) (k : Le b c) : Le a c := ⟨fun n v x => k.sl n v (h.sl n v x), k.hp.trans h.hp⟩
theorem Le.ev {σ σ' : St} (h : Le σ σ') : EvLe σ.ev σ'.ev := fun x v hx => by
  cases x with
  | t n => exact h.sl n v hx
  | c u => exact hx
theorem Le.set {σ σ' : St} (h : Le σ σ') (d : Nat) (v : SV) : Le (σ.set d v) (σ'.set d v) := ⟨fun n u hn => by
  simp only [St.set, lookup] at hn ⊢
  split
  · rename_i e; rw [if_pos e] at hn; exact hn
  · rename_i e; rw [if_neg e] at hn; exact h.sl n u hn, h.hp⟩
theorem Le.setD {σ σ' : St} (h : Le σ σ') (d : Option Nat) (v : SV) : Le (setD σ d v) (setD σ' d v) := by
  cases d with
  | none => exact h
  | some d => exact h.set d v
theorem Le.heap {σ σ' : St} (h : Le σ σ') (hp : List Blk) : Le ⟨σ.sl, hp⟩ ⟨σ'.sl, hp⟩ := ⟨h.sl, Eq.refl _⟩

theorem lookup_set {σ : St} {d n : Nat} {v : SV} (h : n ≠ d) : lookup n (σ.set d v).sl = lookup n σ.sl := by
  simp only [St.set, lookup]
  rw [if_neg (Ne.symm h)]
theorem lookup_set_self {σ : St} {d : Nat} {v : SV} : lookup d (σ.set d v).sl = some v := by
  simp [St.set, lookup]
theorem lookup_dsts {σ : St} {k : K} {n : Nat} {v : SV} (h : n ∉ k.dsts) : lookup n (Zq.setD σ k.dst v).sl = lookup n σ.sl := by
  unfold K.dsts at h
  cases hd : k.dst with
  | none => rfl
  | some d =>
    rw [hd] at h
    exact lookup_set (by simpa using h)

def evI (Q : Qt) (kd : List (Nat × List Kd)) : Its → St → Option (St × Bool)
  | .nil, σ => some (σ, true)
  | .op k r, σ => (exK Q kd σ.ev σ.hp k).bind fun x => (evI Q kd r (setD ⟨σ.sl, x.1.2⟩ k.dst x.1.1)).bind fun y => some (y.1, x.2 && y.2)
  | .iff s w its d x y r, σ =>
    (lookup s σ.sl).bind fun c => (asBool c).bind fun b => (evI Q kd its σ).bind fun i =>
    if (its.inner [] && !its.dsts.contains s) = true then
      (if its.quiet then some σ.hp else mergeHp (if w then b else !b) i.1.hp σ.hp).bind fun hp =>
      ((if w then i.1 else ⟨dropSl σ.sl its.dsts, σ.hp⟩ : St).ev x).bind fun vx => ((if w then ⟨dropSl σ.sl its.dsts, σ.hp⟩ else i.1 : St).ev y).bind fun vy => (mergeSV b vx vy).bind fun m =>
      (evI Q kd r (St.set ⟨dropSl σ.sl its.dsts, hp⟩ d m)).bind fun z => some (z.1, (i.2 || (if w then !b else b)) && z.2)
    else none

/-- What a guard that does not hold lets happen. -/
def Skips (s : Nat) (w : Bool) (σ : St) : Prop := lookup s σ.sl = some .und ∨ lookup s σ.sl = some (.one (B (!w)))
theorem Skips.setD {s : Nat} {w : Bool} {σ : St} (h : Skips s w σ) (k : K) : Skips s w (Zq.setD σ k.dst .und) := by
  by_cases e : s ∈ k.dsts
  · left
    unfold K.dsts at e
    cases hd : k.dst with
    | none => rw [hd] at e; simp at e
    | some d =>
      rw [hd] at e
      obtain rfl : s = d := by simpa using e
      exact lookup_set_self
  · rcases h with h | h
    · left; rw [lookup_dsts e]; exact h
    · right; rw [lookup_dsts e]; exact h
theorem runG_skip {R : Rt} {s : Nat} {w : Bool} {σ : St} (h : Skips s w σ) (k : K) : runG R σ (some (s, w), k) = some (setD σ k.dst .und) := by
  unfold runG
  rcases h with h | h
  · simp only [h]
  · simp only [h]
    rw [if_neg (by cases w <;> simp)]
theorem runGs_append {R : Rt} : ∀ {l l' : List G} {σ σ1 : St}, runGs R l σ = some σ1 → runGs R (l ++ l') σ = runGs R l' σ1
  | [], l', σ, σ1, h => by simp only [runGs, Option.some.injEq] at h; subst h; rfl
  | g :: r, l', σ, σ1, h => by
    simp only [runGs, Option.bind_eq_some_iff] at h
    obtain ⟨σ2, h1, h2⟩ := h
    simp only [List.cons_append, runGs, h1, Option.bind_some]
    exact runGs_append h2

theorem skip_run {R : Rt} : ∀ {its : Its} {s : Nat} {w : Bool} {ds : List Nat} {σ : St}, Skips s w σ → its.inner ds = true → (∀ n ∈ ds, lookup n σ.sl = some .und) →
    ∃ σ', runGs R (its.flat (some (s, w))) σ = some σ' ∧ σ'.hp = σ.hp ∧ (∀ n, n ∉ its.dsts → lookup n σ'.sl = lookup n σ.sl) ∧ (∀ n, (n ∈ its.dsts ∨ n ∈ ds) → lookup n σ'.sl = some .und) ∧ Skips s w σ'
  | .nil, s, w, ds, σ, hs, hi, hd => ⟨σ, rfl, rfl, fun _ _ => rfl, fun n hn => by rcases hn with hn | hn; · simp [Its.dsts] at hn
                                                                                  · exact hd n hn, hs⟩
  | .op k r, s, w, ds, σ, hs, hi, hd => by
    simp only [Its.inner] at hi
    obtain ⟨σ', h1, h2, h3, h4, h5⟩ := skip_run (R := R) (its := r) (σ := setD σ k.dst .und) (ds := k.dsts ++ ds) (hs.setD k) hi (fun n hn => by
      by_cases e : n ∈ k.dsts
      · unfold K.dsts at e
        cases hk : k.dst with
        | none => rw [hk] at e; simp at e
        | some d =>
          rw [hk] at e
          obtain rfl : n = d := by simpa using e
          exact lookup_set_self
      · rw [lookup_dsts e]
        exact hd n ((List.mem_append.1 hn).resolve_left e))
    refine ⟨σ', ?_, ?_, ?_, ?_, h5⟩
    · simp only [Its.flat, runGs, runG_skip hs, Option.bind_some]
      exact h1
    · rw [h2]
      cases k.dst <;> rfl
    · intro n hn
      simp only [Its.dsts, List.mem_append, not_or] at hn
      rw [h3 n hn.2, lookup_dsts hn.1]
    · intro n hn
      simp only [Its.dsts, List.mem_append] at hn
      exact h4 n (by simp only [List.mem_append]; rcases hn with (hn | hn) | hn <;> simp [hn])
  | .iff s2 w2 its d x y r, s, w, ds, σ, hs, hi, hd => by
    simp only [Its.inner, Bool.and_eq_true, List.contains_iff_mem] at hi
    obtain ⟨σ1, h1, h2, h3, h4, h5⟩ := skip_run (R := R) (its := its) (s := s2) (w := w2) (σ := σ) (ds := []) (.inl (hd s2 hi.1.1)) hi.1.2 (by simp)
    have hs1 : Skips s w σ1 := by
      by_cases e : s ∈ its.dsts
      · exact .inl (h4 s (.inl e))
      · rcases hs with hs | hs
        · left; rw [h3 s e]; exact hs
        · right; rw [h3 s e]; exact hs
    obtain ⟨σ', k1, k2, k3, k4, k5⟩ := skip_run (R := R) (its := r) (s := s) (w := w) (σ := setD σ1 (some d) .und) (ds := d :: (its.dsts ++ ds)) (hs1.setD (.pick d (.t s2) x y)) hi.2 (fun n hn => by
      by_cases e : n = d
      · subst e; exact lookup_set_self
      · show lookup n (σ1.set d .und).sl = _
        rw [lookup_set e]
        simp only [List.mem_cons, e, false_or, List.mem_append] at hn
        by_cases f : n ∈ its.dsts
        · exact h4 n (.inl f)
        · rw [h3 n f]
          exact hd n (hn.resolve_left f))
    refine ⟨σ', ?_, ?_, ?_, ?_, k5⟩
    · rw [Its.flat, runGs_append h1]
      simp only [runGs, runG_skip hs1, Option.bind_some]
      exact k1
    · rw [k2]
      exact h2
    · intro n hn
      simp only [Its.dsts, List.mem_append, List.mem_cons, not_or] at hn
      rw [k3 n hn.2.2]
      show lookup n (σ1.set d .und).sl = _
      rw [lookup_set hn.2.1, h3 n hn.1]
    · intro n hn
      simp only [Its.dsts, List.mem_append, List.mem_cons] at hn
      refine k4 n ?_
      simp only [List.mem_cons, List.mem_append]
      rcases hn with (hn | hn | hn) | hn <;> simp [hn]

/-- A guard that holds. -/
def Holds (g : Option (Nat × Bool)) (σ : St) : Prop := ∀ s w, g = some (s, w) → lookup s σ.sl = some (.one (B w))
def apartG (g : Option (Nat × Bool)) (ds : List Nat) : Prop := ∀ s w, g = some (s, w) → s ∉ ds
theorem runG_holds {R : Rt} {g : Option (Nat × Bool)} {σ : St} (h : Holds g σ) (k : K) : runG R σ (g, k) = k.run R σ := by
  unfold runG
  cases g with
  | none => rfl
  | some x => simp only [h x.1 x.2 rfl, if_true]

theorem runGs_frame {R : Rt} : ∀ {l : List G} {σ σ' : St}, runGs R l σ = some σ' → ∀ n, (∀ g ∈ l, n ∉ g.2.dsts) → lookup n σ'.sl = lookup n σ.sl
  | [], σ, σ', h, n, hn => by simp only [runGs, Option.some.injEq] at h; rw [h]
  | g :: r, σ, σ', h, n, hn => by
    simp only [runGs, Option.bind_eq_some_iff] at h
    obtain ⟨σ1, h1, h2⟩ := h
    rw [runGs_frame h2 n (fun g hg => hn g (List.mem_cons_of_mem _ hg))]
    have hk := hn g (List.mem_cons_self ..)
    have hrun : ∀ {τ : St}, g.2.run R σ = some τ → lookup n τ.sl = lookup n σ.sl := fun {τ} ht => by
      simp only [K.run, Option.bind_eq_some_iff, Option.some.injEq] at ht
      obtain ⟨q, -, rfl⟩ := ht
      rw [lookup_dsts hk]
    unfold runG at h1
    split at h1
    · exact hrun h1
    · split at h1
      · split at h1
        · exact hrun h1
        · obtain rfl := Option.some.inj h1
          rw [lookup_dsts hk]
      · obtain rfl := Option.some.inj h1
        rw [lookup_dsts hk]
      · simp at h1

theorem flat_dsts {n : Nat} : ∀ {its : Its} {g : Option (Nat × Bool)}, n ∉ its.dsts → ∀ x ∈ its.flat g, n ∉ x.2.dsts
  | .nil, g, h, x, hx => by simp [Its.flat] at hx
  | .op k r, g, h, x, hx => by
    simp only [Its.dsts, List.mem_append, not_or] at h
    simp only [Its.flat, List.mem_cons] at hx
    rcases hx with rfl | hx
    · exact h.1
    · exact flat_dsts h.2 x hx
  | .iff s w its d a b r, g, h, x, hx => by
    simp only [Its.dsts, List.mem_append, List.mem_cons, not_or] at h
    simp only [Its.flat, List.mem_append, List.mem_cons] at hx
    rcases hx with hx | rfl | hx
    · exact flat_dsts h.1 x hx
    · simpa [K.dsts, K.dst] using h.2.1
    · exact flat_dsts h.2.2 x hx

theorem evI_frame {Q : Qt} {kd : List (Nat × List Kd)} : ∀ {its : Its} {σ : St} {r : St × Bool}, evI Q kd its σ = some r → ∀ n v, n ∉ its.dsts → lookup n r.1.sl = some v → lookup n σ.sl = some v
  | .nil, σ, r, h, n, v, hn, hv => by simp only [evI, Option.some.injEq] at h; subst h; exact hv
  | .op k t, σ, r, h, n, v, hn, hv => by
    simp only [evI, Option.bind_eq_some_iff, Option.some.injEq] at h
    obtain ⟨x, hx, y, hy, rfl⟩ := h
    simp only [Its.dsts, List.mem_append, not_or] at hn
    have := evI_frame hy n v hn.2 hv
    rw [lookup_dsts hn.1] at this
    exact this
  | .iff s w its d a b t, σ, r, h, n, v, hn, hv => by
    simp only [evI, Option.bind_eq_some_iff] at h
    obtain ⟨c, hc, e, he, i, hi, h⟩ := h
    split at h
    · simp only [Option.bind_eq_some_iff, Option.some.injEq] at h
      obtain ⟨hp1, hh, vx, hx, vy, hy, m, hm, z, hz, rfl⟩ := h
      simp only [Its.dsts, List.mem_append, List.mem_cons, not_or] at hn
      have := evI_frame hz n v hn.2.2 hv
      rw [lookup_set hn.2.1] at this
      exact (lookup_drop this).2
    · simp at h
theorem doCallS_calm {Q : Qt} {hp : List Blk} {f : FuncId} {vs : List (SV × Nat × Bool)} {r : (SV × List Blk) × Bool} (h : doCallS Q hp true f vs = some r) : r.1.2 = hp := by
  simp only [doCallS, if_true, Option.bind_eq_some_iff] at h
  obtain ⟨_, _, _, _, _, _, h⟩ := h
  split at h
  · obtain rfl := Option.some.inj h; rfl
  · simp at h
theorem exK_quiet {Q : Qt} {kd : List (Nat × List Kd)} {ev : Ev} {hp : List Blk} {k : K} {r : (SV × List Blk) × Bool} (hk : quietK k = true) (h : exK Q kd ev hp k = some r) : r.1.2 = hp := by
  unfold exK at h
  split at h
  · simp only [Option.bind_eq_some_iff, Option.some.injEq] at h
    obtain ⟨v, hv, t, ht, u, hu, s, hs, q, hq, rfl⟩ := h
    rfl
  · simp only [Option.bind_eq_some_iff, Option.some.injEq] at h
    obtain ⟨c, hc, b, hb, v, hv, u, hu, m, hm, rfl⟩ := h
    rfl
  · simp only [Option.bind_eq_some_iff, Option.some.injEq] at h
    obtain ⟨vs, hvs, h⟩ := h
    simp only [quietK] at hk
    subst hk
    exact doCallS_calm h
  · simp only [Option.bind_eq_some_iff] at h
    obtain ⟨g, hg, h⟩ := h
    split at h
    · simp only [Option.bind_eq_some_iff, Option.some.injEq] at h
      obtain ⟨vs, hvs, h⟩ := h
      simp only [quietK] at hk
      subst hk
      exact doCallS_calm h
    · simp at h
  · split at h
    · simp only [Option.bind_eq_some_iff, Option.some.injEq] at h
      obtain ⟨v, hv, t, ht, u, hu, w, hw, q, hq, rfl⟩ := h
      rfl
    · simp only [Option.map_eq_some_iff] at h
      obtain ⟨q, hq, rfl⟩ := h
      exact exec_calm hk hq
  · split at h
    · simp only [Option.bind_eq_some_iff, Option.some.injEq] at h
      obtain ⟨v, hv, t, ht, q, hq, rfl⟩ := h
      rfl
    · simp only [Option.map_eq_some_iff] at h
      obtain ⟨q, hq, rfl⟩ := h
      exact exec_calm hk hq
  · simp [quietK] at hk
  · simp [quietK] at hk
  · simp only [Option.bind_eq_some_iff, Option.some.injEq] at h
    obtain ⟨v, hv, t, ht, n, hn, rfl⟩ := h
    rfl
  · simp only [Option.bind_eq_some_iff, Option.some.injEq] at h
    obtain ⟨v, hv, t, ht, n, hn, l, hl, hh, hb, q, hq, rfl⟩ := h
    rfl
  · simp [quietK] at hk
  · simp only [Option.map_eq_some_iff] at h
    obtain ⟨q, hq, rfl⟩ := h
    exact exec_calm hk hq
theorem setD_heap {σ : St} {d : Option Nat} {v : SV} : (setD σ d v).hp = σ.hp := by cases d <;> rfl
theorem evI_quiet {Q : Qt} {kd : List (Nat × List Kd)} : ∀ {its : Its} {σ : St} {r : St × Bool}, its.quiet = true → evI Q kd its σ = some r → r.1.hp = σ.hp
  | .nil, σ, r, hq, h => by simp only [evI, Option.some.injEq] at h; subst h; rfl
  | .op k t, σ, r, hq, h => by
    simp only [evI, Option.bind_eq_some_iff, Option.some.injEq] at h
    obtain ⟨x, hx, y, hy, rfl⟩ := h
    simp only [Its.quiet, Bool.and_eq_true] at hq
    rw [evI_quiet hq.2 hy, setD_heap]
    exact exK_quiet hq.1 hx
  | .iff s w its d a b t, σ, r, hq, h => by
    simp only [evI, Option.bind_eq_some_iff] at h
    obtain ⟨c, hc, e, he, i, hi, h⟩ := h
    simp only [Its.quiet, Bool.and_eq_true] at hq
    split at h
    · simp only [Option.bind_eq_some_iff, Option.some.injEq] at h
      obtain ⟨hp1, hh, vx, hx, vy, hy, m, hm, z, hz, rfl⟩ := h
      rw [evI_quiet hq.2 hz]
      rw [if_pos hq.1] at hh
      obtain rfl := Option.some.inj hh
      rfl
    · simp at h

theorem evI_run {R : Rt} {Q : Qt} (hQ : QOk R Q) {kd : List (Nat × List Kd)} : ∀ {its : Its} {g : Option (Nat × Bool)} {σ σr σ' : St}, evI Q kd its σ = some (σ', true) → Le σ σr → Holds g σr → apartG g its.dsts →
    ∃ σr', runGs R (its.flat g) σr = some σr' ∧ Le σ' σr'
  | .nil, g, σ, σr, σ', h, hl, hg, ha => by
    simp only [evI, Option.some.injEq, Prod.mk.injEq] at h
    obtain ⟨rfl, -⟩ := h
    exact ⟨σr, rfl, hl⟩
  | .op k t, g, σ, σr, σ', h, hl, hg, ha => by
    simp only [evI, Option.bind_eq_some_iff, Option.some.injEq, Prod.mk.injEq, Bool.and_eq_true] at h
    obtain ⟨x, hx, y, hy, rfl, h1, h2⟩ := h
    have hx' : k.exec R σr.ev σr.hp = some x.1 := by
      rw [hl.hp]
      exact exK_sound hQ hl.ev (by rw [hx, ← h1])
    have hl' := (hl.heap x.1.2).setD k.dst x.1.1
    have hg' : Holds g (setD ⟨σr.sl, x.1.2⟩ k.dst x.1.1) := fun s w e => by
      have := ha s w e
      simp only [Its.dsts, List.mem_append, not_or] at this
      rw [lookup_dsts this.1]
      exact hg s w e
    obtain ⟨σr', k1, k2⟩ := evI_run hQ (its := t) (g := g) (by rw [hy, ← h2]) hl' hg' (fun s w e => by
      have := ha s w e
      simp only [Its.dsts, List.mem_append, not_or] at this
      exact this.2)
    refine ⟨σr', ?_, k2⟩
    simp only [Its.flat, runGs, runG_holds hg, K.run, hx', Option.bind_some]
    exact k1
  | .iff s w its d a b t, g, σ, σr, σ', h, hl, hg, ha => by
    simp only [evI, Option.bind_eq_some_iff] at h
    obtain ⟨c, hc, e, he, i, hi, h⟩ := h
    split at h
    case isFalse => simp at h
    rename_i hcond
    simp only [Bool.and_eq_true, Bool.not_eq_true', List.contains_eq_mem, decide_eq_false_iff_not] at hcond
    obtain ⟨hin, hs⟩ := hcond
    simp only [Option.bind_eq_some_iff, Option.some.injEq, Prod.mk.injEq, Bool.and_eq_true, Bool.or_eq_true] at h
    obtain ⟨hp1, hh, vx, hx, vy, hy, m, hm, z, hz, rfl, ho1, ho2⟩ := h
    have hcs : lookup s σr.sl = some (.one (B e)) := by
      have := hl.sl s c hc
      rw [this]
      revert he
      unfold asBool
      split
      · intro he; obtain rfl := Option.some.inj he; rfl
      · intro he; simp at he
    have hdrop : ∀ {τ : St} {hp : List Blk}, τ.hp = hp → (∀ n, n ∉ its.dsts → lookup n τ.sl = lookup n σr.sl) → Le ⟨dropSl σ.sl its.dsts, hp⟩ τ := fun {τ hp} h1 h2 => ⟨fun n v hn => by
      have := lookup_drop hn
      rw [h2 n this.1]
      exact hl.sl n v this.2, h1⟩
    have ha' : ∀ {n : Nat} {w' : Bool}, g = some (n, w') → n ∉ its.dsts ∧ n ≠ d ∧ n ∉ t.dsts := fun {n w'} e' => by
      have := ha n w' e'
      simpa only [Its.dsts, List.mem_append, List.mem_cons, not_or] using this
    have main : ∃ τ, runGs R (its.flat (some (s, w))) σr = some τ ∧ τ.hp = hp1 ∧ (∀ n, n ∉ its.dsts → lookup n τ.sl = lookup n σr.sl) ∧ (if e then τ.ev a else τ.ev b) = some m := by
      by_cases hw : e = w
      · subst hw
        have hok : i.2 = true := by
          rcases ho1 with h | h
          · exact h
          · cases e <;> simp at h
        have hih : i.1.hp = hp1 := by
          split at hh
          · rename_i hq
            obtain rfl := Option.some.inj hh
            exact evI_quiet hq hi
          · rw [mergeHp_eq hh]
            cases e <;> rfl
        obtain ⟨τ, k1, k2⟩ := evI_run hQ (its := its) (g := some (s, e)) (σ := σ) (σ' := i.1) (by rw [hi, ← hok]) hl (fun s' w' e' => by
          simp only [Option.some.injEq, Prod.mk.injEq] at e'
          obtain ⟨rfl, rfl⟩ := e'
          exact hcs) (fun s' w' e' => by
          simp only [Option.some.injEq, Prod.mk.injEq] at e'
          obtain ⟨rfl, rfl⟩ := e'
          exact hs)
        refine ⟨τ, k1, by rw [k2.hp]; exact hih, fun n hn => runGs_frame k1 n (flat_dsts hn), ?_⟩
        rw [mergeSV_eq hm]
        cases e
        · simp only [Bool.false_eq_true, if_false, cond_false] at hy ⊢
          exact k2.ev _ _ hy
        · simp only [if_true, cond_true] at hx ⊢
          exact k2.ev _ _ hx
      · have hw' : e = !w := by cases e <;> cases w <;> simp_all
        subst hw'
        have hih : hp1 = σ.hp := by
          split at hh
          · exact (Option.some.inj hh).symm
          · rw [mergeHp_eq hh]
            cases w <;> rfl
        obtain ⟨τ, k1, k2, k3, k4, k5⟩ := skip_run (R := R) (its := its) (s := s) (w := w) (ds := []) (σ := σr) (.inr hcs) hin (by simp)
        refine ⟨τ, k1, by rw [k2, hih]; exact hl.hp, k3, ?_⟩
        have hd := hdrop (τ := τ) (hp := σ.hp) (by rw [k2]; exact hl.hp) k3
        rw [mergeSV_eq hm]
        cases w
        · simp only [Bool.not_false, if_true, cond_true, Bool.false_eq_true, if_false] at hx ⊢
          exact hd.ev _ _ hx
        · simp only [Bool.not_true, Bool.false_eq_true, if_false, cond_false, if_true] at hy ⊢
          exact hd.ev _ _ hy
    obtain ⟨τ, m1, m2, m3, m4⟩ := main
    have hgτ : Holds g τ := fun s' w' e' => by rw [m3 s' (ha' e').1]; exact hg s' w' e'
    have hpick : (K.pick d (.t s) a b).run R τ = some (τ.set d m) := by
      have hct : τ.ev (.t s) = some (.one (B e)) := by
        show lookup s τ.sl = _
        rw [m3 s hs]
        exact hcs
      simp only [K.run, K.exec, hct, Option.bind_some, asBool, K.dst, Zq.setD]
      cases e
      · simp only [Bool.false_eq_true, if_false] at m4 ⊢
        simp [m4]
      · simp only [if_true] at m4 ⊢
        simp [m4]
    obtain ⟨σr', k1, k2⟩ := evI_run hQ (its := t) (g := g) (σr := τ.set d m) (by rw [hz, ← ho2]) ((hdrop m2 m3).set d m) (fun s' w' e' => by
      rw [lookup_set (ha' e').2.1]
      exact hgτ s' w' e') (fun s' w' e' => (ha' e').2.2)
    refine ⟨σr', ?_, k2⟩
    rw [Its.flat, runGs_append m1]
    simp only [runGs, runG_holds hgτ, hpick, Option.bind_some]
    exact k1
end Go.Zq
