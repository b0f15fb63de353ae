/- Regions whose order is open: reads and pure calls. -/
import Derived.Test.YtilfpkfifdhhdaaZqLim
import Derived.Orders
set_option linter.unusedVariables false
set_option linter.unusedSimpArgs false
namespace Go.Zq
open Go

def Like (rs : List Nat) (σ τ : St) : Prop := ∀ n ∈ rs, lookup n σ.sl = lookup n τ.sl

theorem Like.l {rs rs' : List Nat} {σ τ : St} (h : Like (rs ++ rs') σ τ) : Like rs σ τ := fun n hn => h n (List.mem_append_left _ hn)
theorem Like.r {rs rs' : List Nat} {σ τ : St} (h : Like (rs ++ rs') σ τ) : Like rs' σ τ := fun n hn => h n (List.mem_append_right _ hn)

theorem ev_like {σ τ : St} {x : Opd} (h : Like x.rd σ τ) : σ.ev x = τ.ev x := by
  cases x with
  | t n => exact h n (by simp [Opd.rd])
  | c v => rfl

theorem bound_like {σ τ : St} {n : Nat} {o : Option Opd} (h : Like (ord o) σ τ) : bound σ.ev n o = bound τ.ev n o := by
  cases o with
  | none => rfl
  | some x => simp only [bound]; rw [ev_like h]

theorem args_like {σ τ : St} : ∀ {xs : List (Opd × Nat × Bool)}, Like (xs.flatMap fun x => x.1.rd) σ τ → argCells σ.ev xs = argCells τ.ev xs
  | [], _ => rfl
  | (x, n, mv) :: r, h => by
    simp only [List.flatMap_cons] at h
    simp only [argCells]
    rw [ev_like h.l, args_like h.r]

theorem exec_like (R : Rt) {σ τ : St} {k : K} {rs : List Nat} (hk : k.rd = some rs) (h : Like rs σ τ) (hp : List Blk) : k.exec R σ.ev hp = k.exec R τ.ev hp := by
  cases k with
  | call d pu f xs =>
    cases pu with
    | false => simp [K.rd] at hk
    | true =>
      simp only [K.rd, Option.some.injEq] at hk
      subst hk
      simp only [K.exec]
      rw [args_like h]
  | pick d c x y =>
    simp only [K.rd, Option.some.injEq] at hk
    subst hk
    simp only [K.exec]
    rw [ev_like h.l, ev_like h.r.l, ev_like h.r.r]
  | slc d sz x lo hi =>
    simp only [K.rd, Option.some.injEq] at hk
    subst hk
    simp only [K.exec]
    rw [ev_like h.l, bound_like h.r.l]
    simp only [bound_like h.r.r]
  | sls d x lo hi =>
    simp only [K.rd, Option.some.injEq] at hk
    subst hk
    simp only [K.exec]
    rw [ev_like h.l, bound_like h.r.l]
    simp only [bound_like h.r.r]
  | mv | ld | nilc | un | cv | fa | fld | ext | len | lens =>
    simp only [K.rd, Option.some.injEq] at hk
    subst hk
    simp only [K.exec]
    rw [ev_like h]
  | bin | bb | eqs | ia | ix | mm =>
    simp only [K.rd, Option.some.injEq] at hk
    subst hk
    simp only [K.exec]
    rw [ev_like h.l]
    simp only [ev_like h.r]
  | _ => simp [K.rd] at hk

/-- A quiet operation leaves the heap alone. -/
theorem exec_quiet (R : Rt) {ev : Ev} {k : K} {rs : List Nat} (hk : k.rd = some rs) {hp hp' : List Blk} {r : SV} (h : k.exec R ev hp = some (r, hp')) : hp' = hp := by
  cases k with
  | call d pu f xs =>
    cases pu with
    | false => simp [K.rd] at hk
    | true =>
      simp only [K.exec, Option.bind_eq_some_iff] at h
      obtain ⟨vs, -, h⟩ := h
      unfold doCall at h
      rw [if_pos rfl] at h
      simp only [Option.bind_eq_some_iff] at h
      obtain ⟨_, -, _, -, _, -, h⟩ := h
      have := (of_ite h).2
      simp only [Option.some.injEq, Prod.mk.injEq] at this
      exact this.2.symm
  | pick d c x y =>
    simp only [K.exec, Option.bind_eq_some_iff] at h
    obtain ⟨v, -, b, -, h⟩ := h
    split at h
    all_goals
      simp only [Option.bind_eq_some_iff, Option.some.injEq, Prod.mk.injEq] at h
      obtain ⟨_, -, -, h⟩ := h
      exact h.symm
  | nilc d x =>
    simp only [K.exec, Option.bind_eq_some_iff] at h
    obtain ⟨v, -, h⟩ := h
    split at h
    · simp only [Option.some.injEq, Prod.mk.injEq] at h; exact h.2.symm
    · simp only [Option.some.injEq, Prod.mk.injEq] at h; exact h.2.symm
    · simp at h
  | eqs d neg gs x y =>
    simp only [K.exec, Option.bind_eq_some_iff] at h
    obtain ⟨v, -, u, -, h⟩ := h
    split at h
    · simp only [Option.bind_eq_some_iff, Option.some.injEq, Prod.mk.injEq] at h
      obtain ⟨_, -, -, h⟩ := h
      exact h.symm
    · simp at h
  | sls d x lo hi =>
    simp only [K.exec, Option.bind_eq_some_iff] at h
    obtain ⟨v, -, u, -, h⟩ := h
    split at h
    · simp only [Option.bind_eq_some_iff] at h
      obtain ⟨_, -, _, -, h⟩ := h
      have := (of_ite h).2
      simp only [Option.some.injEq, Prod.mk.injEq] at this
      exact this.2.symm
    · simp at h
  | fld d x off n =>
    simp only [K.exec, Option.bind_eq_some_iff] at h
    obtain ⟨v, -, h⟩ := h
    split at h
    · simp only [Option.bind_eq_some_iff, Option.some.injEq, Prod.mk.injEq] at h
      obtain ⟨_, -, -, h⟩ := h
      exact h.symm
    · simp at h
  | ix d x j =>
    simp only [K.exec, Option.bind_eq_some_iff] at h
    obtain ⟨v, -, u, -, v', -, u', -, h⟩ := h
    split at h
    · have h1 := (of_ite h).2
      split at h1
      · simp only [Option.some.injEq, Prod.mk.injEq] at h1; exact h1.2.symm
      · simp at h1
    · simp at h
  | ext d x j =>
    simp only [K.exec, Option.bind_eq_some_iff] at h
    obtain ⟨v, -, h⟩ := h
    split at h
    · simp only [Option.bind_eq_some_iff, Option.some.injEq, Prod.mk.injEq] at h
      obtain ⟨_, -, -, h⟩ := h
      exact h.symm
    · simp at h
  | lens d x =>
    simp only [K.exec, Option.bind_eq_some_iff] at h
    obtain ⟨v, -, u, -, h⟩ := h
    split at h
    · simp only [Option.some.injEq, Prod.mk.injEq] at h; exact h.2.symm
    · simp at h
  | mm d m x y =>
    simp only [K.exec, Option.bind_eq_some_iff] at h
    obtain ⟨v, -, u, -, v', -, u', -, h⟩ := h
    have := (of_ite h).2
    simp only [Option.some.injEq, Prod.mk.injEq] at this
    exact this.2.symm
  | mv | un | cv | fa | len | ld | bin | bb | ia | slc =>
    simp only [K.exec, Option.bind_eq_some_iff, Option.some.injEq, Prod.mk.injEq] at h
    first
      | (obtain ⟨_, -, -, h⟩ := h; exact h.symm)
      | (obtain ⟨_, -, _, -, -, h⟩ := h; exact h.symm)
      | (obtain ⟨_, -, _, -, _, -, -, h⟩ := h; exact h.symm)
      | (obtain ⟨_, -, _, -, _, -, _, -, -, h⟩ := h; exact h.symm)
      | (obtain ⟨_, -, _, -, _, -, _, -, _, -, -, h⟩ := h; exact h.symm)
      | (obtain ⟨_, -, _, -, _, -, _, -, _, -, _, -, -, h⟩ := h; exact h.symm)
  | _ => simp [K.rd] at hk

/-- A quiet operation sets its slot, and what it sets hangs on what it reads. -/
theorem runG_quiet (R : Rt) {σ τ σ' : St} {g : G} {rs : List Nat} (hg : grd g = some rs) (hl : Like rs σ τ) (hh : σ.hp = τ.hp) (h : runG R σ g = some σ') :
    ∃ v, σ' = setD σ g.2.dst v ∧ runG R τ g = some (setD τ g.2.dst v) := by
  simp only [grd, Option.map_eq_some_iff] at hg
  obtain ⟨rs', hk, rfl⟩ := hg
  have hk' := exec_like R hk hl.r τ.hp
  have exec : ∀ σ', g.2.run R σ = some σ' → ∃ v, σ' = setD σ g.2.dst v ∧ g.2.run R τ = some (setD τ g.2.dst v) := by
    intro σ' h
    unfold K.run at h ⊢
    simp only [Option.bind_eq_some_iff, Option.some.injEq] at h
    obtain ⟨⟨r, hp'⟩, hr, rfl⟩ := h
    have := exec_quiet R hk hr
    subst this
    rw [hh, hk'] at hr
    exact ⟨r, rfl, by rw [hr, ← hh]; simp [hh]⟩
  unfold runG at h ⊢
  cases hgd : g.1 with
  | none =>
    simp only [hgd] at h ⊢
    exact exec σ' h
  | some sw =>
    obtain ⟨s, want⟩ := sw
    simp only [hgd] at h ⊢
    have hs : lookup s σ.sl = lookup s τ.sl := hl.l s (by simp [gsl, hgd])
    rw [← hs]
    split at h
    · rename_i x hx
      split at h
      · rename_i e
        rw [if_pos e]
        exact exec σ' h
      · rename_i e
        rw [if_neg e]
        exact ⟨.und, (Option.some.inj h).symm, rfl⟩
    · rename_i hx
      exact ⟨.und, (Option.some.inj h).symm, rfl⟩
    · simp at h

/-- The same state, slot for slot. -/
def Eqv (σ τ : St) : Prop := σ.hp = τ.hp ∧ ∀ n, lookup n σ.sl = lookup n τ.sl

theorem Eqv.refl (σ : St) : Eqv σ σ := ⟨rfl, fun _ => rfl⟩
theorem Eqv.trans {σ τ υ : St} (h : Eqv σ τ) (k : Eqv τ υ) : Eqv σ υ := ⟨h.1.trans k.1, fun n => (h.2 n).trans (k.2 n)⟩
theorem Eqv.symm {σ τ : St} (h : Eqv σ τ) : Eqv τ σ := ⟨h.1.symm, fun n => (h.2 n).symm⟩

theorem lookup_setD {σ : St} {d : Option Nat} {v : SV} (n : Nat) : lookup n (setD σ d v).sl = if d = some n then some v else lookup n σ.sl := by
  cases d with
  | none => simp [setD]
  | some m => simp [setD, St.set, lookup]
theorem setD_hp {σ : St} {d : Option Nat} {v : SV} : (setD σ d v).hp = σ.hp := by cases d <;> rfl

theorem runGs_eqv (R : Rt) : ∀ {l : List G} {σ τ σ' : St}, (∀ g ∈ l, (grd g).isSome = true) → Eqv σ τ → runGs R l σ = some σ' → ∃ τ', runGs R l τ = some τ' ∧ Eqv σ' τ'
  | [], σ, τ, σ', _, h, hr => by
    simp only [runGs, Option.some.injEq] at hr
    subst hr
    exact ⟨τ, rfl, h⟩
  | g :: r, σ, τ, σ', hq, h, hr => by
    simp only [runGs, Option.bind_eq_some_iff] at hr ⊢
    obtain ⟨σ1, h1, h2⟩ := hr
    obtain ⟨rs, hrs⟩ := Option.isSome_iff_exists.1 (hq g (List.mem_cons_self ..))
    obtain ⟨v, rfl, h3⟩ := runG_quiet R hrs (fun n _ => h.2 n) h.1 h1
    have he : Eqv (setD σ g.2.dst v) (setD τ g.2.dst v) := ⟨by simp [setD_hp, h.1], fun n => by simp [lookup_setD, h.2 n]⟩
    obtain ⟨τ', k1, k2⟩ := runGs_eqv R (fun g hg => hq g (List.mem_cons_of_mem _ hg)) he h2
    exact ⟨τ', ⟨_, h3, k1⟩, k2⟩

/-- Two operations that may change places. -/
def swap? (x y : G) : Bool := match grd x, grd y with
  | some rx, some ry => (match x.2.dst with | some d => !ry.contains d | none => true) && (match y.2.dst with | some d => !rx.contains d | none => true) && (x.2.dst.isNone || x.2.dst != y.2.dst)
  | _, _ => false

theorem like_setD {σ : St} {d : Option Nat} {v : SV} {rs : List Nat} (h : ∀ n, d = some n → n ∉ rs) : Like rs σ (setD σ d v) := fun n hn => by
  rw [lookup_setD, if_neg]
  intro e
  exact h n e hn

theorem runG_swap (R : Rt) {x y : G} (hs : swap? x y = true) {σ σ1 σ2 : St} (h1 : runG R σ x = some σ1) (h2 : runG R σ1 y = some σ2) : ∃ τ1 τ2, runG R σ y = some τ1 ∧ runG R τ1 x = some τ2 ∧ Eqv σ2 τ2 := by
  unfold swap? at hs
  cases hx : grd x with
  | none => simp [hx] at hs
  | some rx =>
    cases hy : grd y with
    | none => simp [hx, hy] at hs
    | some ry =>
      simp only [hx, hy, Bool.and_eq_true] at hs
      obtain ⟨⟨c1, c2⟩, c3⟩ := hs
      obtain ⟨vx, rfl, -⟩ := runG_quiet R hx (τ := σ) (fun _ _ => rfl) rfl h1
      have l1 : Like ry (setD σ x.2.dst vx) σ := fun n hn => (like_setD (fun m hm => by rw [hm] at c1; simpa using c1) n hn).symm
      obtain ⟨vy, rfl, k1⟩ := runG_quiet R hy l1 setD_hp h2
      have l2 : Like rx σ (setD σ y.2.dst vy) := like_setD (fun m hm => by rw [hm] at c2; simpa using c2)
      obtain ⟨vx', e, k2⟩ := runG_quiet R hx l2 setD_hp.symm h1
      refine ⟨_, _, k1, k2, by simp [setD_hp], fun n => ?_⟩
      have hlk := congrArg (fun s => lookup n s.sl) e
      simp only [lookup_setD] at hlk ⊢
      by_cases e1 : x.2.dst = some n
      · rw [if_pos e1] at hlk ⊢
        rw [if_pos e1] at hlk ⊢
        rw [if_neg]
        · exact hlk
        · intro e2
          rw [e1, e2] at c3
          simp at c3
      · simp only [e1, if_false]

/-- An operation that may change places with all ahead of it comes first. -/
theorem runGs_front (R : Rt) {g : G} {v : List G} : ∀ {u : List G} {σ σ' : St}, (∀ x ∈ u, swap? x g = true) → (∀ x ∈ u ++ g :: v, (grd x).isSome = true) → runGs R (u ++ g :: v) σ = some σ' →
    ∃ σ1 τ', runG R σ g = some σ1 ∧ runGs R (u ++ v) σ1 = some τ' ∧ Eqv σ' τ'
  | [], σ, σ', _, _, h => by
    simp only [List.nil_append, runGs, Option.bind_eq_some_iff] at h
    obtain ⟨σ1, h1, h2⟩ := h
    exact ⟨σ1, σ', h1, h2, Eqv.refl _⟩
  | x :: u, σ, σ', hs, hq, h => by
    simp only [List.cons_append, runGs, Option.bind_eq_some_iff] at h
    obtain ⟨σ1, h1, h2⟩ := h
    obtain ⟨σ2, τ', h3, h4, h5⟩ := runGs_front R (fun x hx => hs x (List.mem_cons_of_mem _ hx)) (fun x hx => hq x (List.mem_cons_of_mem _ hx)) h2
    obtain ⟨τ1, τ2, k1, k2, k3⟩ := runG_swap R (hs x (List.mem_cons_self ..)) h1 h3
    have hq' : ∀ y ∈ u ++ v, (grd y).isSome = true := fun y hy => hq y (List.mem_cons_of_mem _ (by
      rcases List.mem_append.1 hy with hy | hy
      · exact List.mem_append_left _ hy
      · exact List.mem_append_right _ (List.mem_cons_of_mem _ hy)))
    obtain ⟨υ, m1, m2⟩ := runGs_eqv R hq' k3 h4
    refine ⟨τ1, υ, k1, ?_, h5.trans m2⟩
    simp only [List.cons_append, runGs, Option.bind_eq_some_iff]
    exact ⟨τ2, k2, m1⟩

end Go.Zq
