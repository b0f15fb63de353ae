/- All functions together. -/
import Derived.Test.YtilfpkfifdhhdaaZqFn
set_option linter.unusedVariables false
set_option linter.unusedSimpArgs false
namespace Go.Zq
open Go

def LeR (R R' : Rt) : Prop := ∀ f args hp r, R f args hp = some r → R' f args hp = some r

theorem LeR.refl (R : Rt) : LeR R R := fun _ _ _ _ h => h
theorem LeR.trans {R R' R'' : Rt} (h : LeR R R') (k : LeR R' R'') : LeR R R'' := fun f a h' r hr => k f a h' r (h f a h' r hr)

theorem doCall_mono {R R' : Rt} (hR : LeR R R') {hp : List Blk} {pu : Bool} {f : FuncId} {vs : List (SV × Nat × Bool)} {x : SV × List Blk} (h : doCall R hp pu f vs = some x) : doCall R' hp pu f vs = some x := by
  unfold doCall at h ⊢
  split at h
  · rename_i e
    rw [if_pos e]
    simp only [Option.bind_eq_some_iff] at h ⊢
    obtain ⟨args, ha, r, hr, hb⟩ := h
    exact ⟨args, ha, r, hR _ _ _ _ hr, hb⟩
  · rename_i e
    rw [if_neg e]
    simp only [Option.bind_eq_some_iff] at h ⊢
    obtain ⟨e, he, r, hr, hb⟩ := h
    exact ⟨e, he, r, hR _ _ _ _ hr, hb⟩

theorem exec_mono {R R' : Rt} (hR : LeR R R') {ev : Ev} {hp : List Blk} {k : K} {x : SV × List Blk} (h : k.exec R ev hp = some x) : k.exec R' ev hp = some x := by
  cases k with
  | call d pu f xs =>
    simp only [K.exec, Option.bind_eq_some_iff] at h ⊢
    obtain ⟨vs, hvs, h⟩ := h
    exact ⟨vs, hvs, doCall_mono hR h⟩
  | calv d pu f xs =>
    simp only [K.exec, Option.bind_eq_some_iff] at h ⊢
    obtain ⟨g, hg, h⟩ := h
    refine ⟨g, hg, ?_⟩
    split at h
    · simp only [Option.bind_eq_some_iff] at h ⊢
      obtain ⟨vs, hvs, h⟩ := h
      exact ⟨vs, hvs, doCall_mono hR h⟩
    · simp at h
  | _ => exact h

theorem kRun_mono {R R' : Rt} (hR : LeR R R') {σ σ' : St} {k : K} (h : k.run R σ = some σ') : k.run R' σ = some σ' := by
  unfold K.run at h ⊢
  simp only [Option.bind_eq_some_iff] at h ⊢
  obtain ⟨r, hr, h⟩ := h
  exact ⟨r, exec_mono hR hr, h⟩

theorem runG_mono {R R' : Rt} (hR : LeR R R') {σ σ' : St} {g : G} (h : runG R σ g = some σ') : runG R' σ g = some σ' := by
  unfold runG at h ⊢
  split at h
  · exact kRun_mono hR h
  · split at h
    · split at h
      · rename_i e
        rw [if_pos e]
        exact kRun_mono hR h
      · rename_i e
        rw [if_neg e]
        exact h
    · exact h
    · simp at h

theorem runGs_mono {R R' : Rt} (hR : LeR R R') : ∀ {l : List G} {σ σ' : St}, runGs R l σ = some σ' → runGs R' l σ = some σ'
  | [], σ, σ', h => h
  | g :: r, σ, σ', h => by
    simp only [runGs, Option.bind_eq_some_iff] at h ⊢
    obtain ⟨σ1, h1, h2⟩ := h
    exact ⟨σ1, runG_mono hR h1, runGs_mono hR h2⟩

theorem iter_mono {nb : Nat} {live : List Nat} {f f' : St → Option Out} (hf : ∀ σ o, f σ = some o → f' σ = some o) : ∀ {n n' : Nat} {σ : St} {o : Out}, n ≤ n' → iter nb live f n σ = some o → iter nb live f' n' σ = some o
  | 0, n', σ, o, _, h => by simp [iter] at h
  | n + 1, n', σ, o, hn, h => by
    obtain ⟨m, rfl⟩ : ∃ m, n' = m + 1 := ⟨n' - 1, by omega⟩
    simp only [iter, Option.bind_eq_some_iff] at h ⊢
    obtain ⟨σ1, hc, o1, h1, h2⟩ := h
    refine ⟨σ1, hc, o1, hf _ _ h1, ?_⟩
    cases o1 with
    | nor σ2 => exact iter_mono hf (by omega) h2
    | brk j σ2 => exact h2
    | ret σ2 => exact h2

theorem drwSt_mono {R R' : Rt} (hR : LeR R R') {nb : Nat} {kp : List Nat} {cn : Bool} : ∀ {ls : List (List G)} {σ c : St}, drwSt R nb kp cn ls σ = some c → drwSt R' nb kp cn ls σ = some c
  | [], _, _, h => by simp [drwSt] at h
  | [l], σ, c, h => by
    simp only [drwSt, Option.bind_eq_some_iff] at h ⊢
    obtain ⟨x, ⟨y, h1, h2⟩, h3⟩ := h
    exact ⟨x, ⟨y, runGs_mono hR h1, h2⟩, h3⟩
  | l :: m :: r, σ, c, h => by
    simp only [drwSt, Option.bind_eq_some_iff] at h ⊢
    obtain ⟨x, ⟨y, h1, h2⟩, z, h3, h4⟩ := h
    refine ⟨x, ⟨y, runGs_mono hR h1, h2⟩, z, ?_, h4⟩
    have := drwSt_mono hR (ls := m :: r) (σ := σ) (c := z) (by simpa only [drwSt, Option.bind_eq_some_iff] using h3)
    simpa only [drwSt, Option.bind_eq_some_iff] using this

theorem evc_mono {R R' : Rt} (hR : LeR R R') {nb n n' : Nat} (hn : n ≤ n') : ∀ {c : C} {σ : St} {o : Out}, evc R nb n c σ = some o → evc R' nb n' c σ = some o := by
  intro c
  induction c with
  | ops l kp =>
    intro σ o h
    simp only [evc, Option.bind_eq_some_iff] at h ⊢
    obtain ⟨σ1, h1, h2⟩ := h
    exact ⟨σ1, runGs_mono hR h1, h2⟩
  | drw ls kp cn =>
    intro σ o h
    simp only [evc, Option.bind_eq_some_iff] at h ⊢
    obtain ⟨σ1, h1, h2⟩ := h
    exact ⟨σ1, drwSt_mono hR h1, h2⟩
  | seq x y ihx ihy =>
    intro σ o h
    simp only [evc, Option.bind_eq_some_iff] at h ⊢
    obtain ⟨o1, h1, h2⟩ := h
    refine ⟨o1, ihx h1, ?_⟩
    cases o1 with
    | nor σ1 => exact ihy h2
    | brk j σ1 => exact h2
    | ret σ1 => exact h2
  | cond c x y ihx ihy =>
    intro σ o h
    simp only [evc, Option.bind_eq_some_iff] at h ⊢
    obtain ⟨v, hv, b, hb, h⟩ := h
    refine ⟨v, hv, b, hb, ?_⟩
    split at h
    · rename_i e; rw [if_pos e]; exact ihx h
    · rename_i e; rw [if_neg e]; exact ihy h
  | blk id x ih =>
    intro σ o h
    simp only [evc, Option.bind_eq_some_iff] at h ⊢
    obtain ⟨o1, h1, h2⟩ := h
    exact ⟨o1, ih h1, h2⟩
  | loop live x ih =>
    intro σ o h
    simp only [evc] at h ⊢
    exact iter_mono (fun σ o h => ih h) hn h
  | _ => intro σ o h; exact h

theorem fnRun_mono {R R' : Rt} (hR : LeR R R') {n n' : Nat} (hn : n ≤ n') {cf : Fn} {args : List SV} {hp : List Blk} {x : SV × List Blk} (h : cf.run R n args hp = some x) : cf.run R' n' args hp = some x := by
  unfold Fn.run at h ⊢
  obtain ⟨hl, h1⟩ := of_ite h
  rw [if_pos hl]
  simp only [Option.bind_eq_some_iff] at h1 ⊢
  obtain ⟨o, ho, h2⟩ := h1
  exact ⟨o, evc_mono hR hn ho, h2⟩

/-! What the limit of a chain does, some link does. -/
structure Chain (Rk : Nat → Rt) (R : Rt) : Prop where
  mono : ∀ k, LeR (Rk k) (Rk (k + 1))
  lim : ∀ f args hp r, R f args hp = some r → ∃ k, Rk k f args hp = some r

theorem Chain.le {Rk : Nat → Rt} {R : Rt} (c : Chain Rk R) {k m : Nat} (h : k ≤ m) : LeR (Rk k) (Rk m) := by
  induction m with
  | zero => obtain rfl : k = 0 := by omega
            exact LeR.refl _
  | succ m ih =>
    by_cases e : k = m + 1
    · subst e; exact LeR.refl _
    · exact (ih (by omega)).trans (c.mono m)

section
variable {Rk : Nat → Rt} {R : Rt}

theorem doCall_cont (c : Chain Rk R) {hp : List Blk} {pu : Bool} {f : FuncId} {vs : List (SV × Nat × Bool)} {x : SV × List Blk} (h : doCall R hp pu f vs = some x) : ∃ k, doCall (Rk k) hp pu f vs = some x := by
  unfold doCall at h ⊢
  split at h
  · rename_i e
    simp only [Option.bind_eq_some_iff] at h
    obtain ⟨args, ha, r, hr, hb⟩ := h
    obtain ⟨k, hk⟩ := c.lim _ _ _ _ hr
    refine ⟨k, ?_⟩
    rw [if_pos e]
    simp only [Option.bind_eq_some_iff]
    exact ⟨args, ha, r, hk, hb⟩
  · rename_i e
    simp only [Option.bind_eq_some_iff] at h
    obtain ⟨e1, he, r, hr, hb⟩ := h
    obtain ⟨k, hk⟩ := c.lim _ _ _ _ hr
    refine ⟨k, ?_⟩
    rw [if_neg e]
    simp only [Option.bind_eq_some_iff]
    exact ⟨e1, he, r, hk, hb⟩

theorem exec_cont (c : Chain Rk R) {ev : Ev} {hp : List Blk} {q : K} {x : SV × List Blk} (h : q.exec R ev hp = some x) : ∃ k, q.exec (Rk k) ev hp = some x := by
  cases q with
  | call d pu f xs =>
    simp only [K.exec, Option.bind_eq_some_iff] at h ⊢
    obtain ⟨vs, hvs, h⟩ := h
    obtain ⟨k, hk⟩ := doCall_cont c h
    exact ⟨k, vs, hvs, hk⟩
  | calv d pu f xs =>
    simp only [K.exec, Option.bind_eq_some_iff] at h
    obtain ⟨g, hg, h⟩ := h
    split at h
    · simp only [Option.bind_eq_some_iff] at h
      obtain ⟨vs, hvs, h⟩ := h
      obtain ⟨k, hk⟩ := doCall_cont c h
      refine ⟨k, ?_⟩
      simp only [K.exec, Option.bind_eq_some_iff]
      exact ⟨_, hg, by simp only [Option.bind_eq_some_iff]; exact ⟨vs, hvs, hk⟩⟩
    · simp at h
  | _ => exact ⟨0, h⟩

theorem kRun_cont (c : Chain Rk R) {σ σ' : St} {q : K} (h : q.run R σ = some σ') : ∃ k, q.run (Rk k) σ = some σ' := by
  unfold K.run at h ⊢
  simp only [Option.bind_eq_some_iff] at h ⊢
  obtain ⟨r, hr, h⟩ := h
  obtain ⟨k, hk⟩ := exec_cont c hr
  exact ⟨k, r, hk, h⟩

theorem runG_cont (c : Chain Rk R) {σ σ' : St} {g : G} (h : runG R σ g = some σ') : ∃ k, runG (Rk k) σ g = some σ' := by
  unfold runG at h
  split at h
  · rename_i hg
    obtain ⟨k, hk⟩ := kRun_cont c h
    exact ⟨k, by unfold runG; rw [hg]; exact hk⟩
  · rename_i s want hg
    split at h
    · rename_i x hl
      split at h
      · rename_i e
        obtain ⟨k, hk⟩ := kRun_cont c h
        exact ⟨k, by unfold runG; rw [hg]; simp only [hl]; rw [if_pos e]; exact hk⟩
      · rename_i e
        exact ⟨0, by unfold runG; rw [hg]; simp only [hl]; rw [if_neg e]; exact h⟩
    · rename_i hl
      exact ⟨0, by unfold runG; rw [hg]; simp only [hl]; exact h⟩
    · simp at h

theorem runGs_cont (c : Chain Rk R) : ∀ {l : List G} {σ σ' : St}, runGs R l σ = some σ' → ∃ k, runGs (Rk k) l σ = some σ'
  | [], σ, σ', h => ⟨0, h⟩
  | g :: r, σ, σ', h => by
    simp only [runGs, Option.bind_eq_some_iff] at h ⊢
    obtain ⟨σ1, h1, h2⟩ := h
    obtain ⟨k1, g1⟩ := runG_cont c h1
    obtain ⟨k2, g2⟩ := runGs_cont c h2
    exact ⟨max k1 k2, σ1, runG_mono (c.le (Nat.le_max_left _ _)) g1, runGs_mono (c.le (Nat.le_max_right _ _)) g2⟩

theorem iter_cont {nb : Nat} {live : List Nat} {f : St → Option Out} {fk : Nat → St → Option Out} (hm : ∀ k m, k ≤ m → ∀ σ o, fk k σ = some o → fk m σ = some o) (hf : ∀ σ o, f σ = some o → ∃ k, fk k σ = some o) :
    ∀ {n : Nat} {σ : St} {o : Out}, iter nb live f n σ = some o → ∃ k, iter nb live (fk k) n σ = some o
  | 0, σ, o, h => by simp [iter] at h
  | n + 1, σ, o, h => by
    simp only [iter, Option.bind_eq_some_iff] at h ⊢
    obtain ⟨σ1, hc, o1, h1, h2⟩ := h
    obtain ⟨k1, g1⟩ := hf _ _ h1
    cases o1 with
    | nor σ2 =>
      obtain ⟨k2, g2⟩ := iter_cont hm hf h2
      exact ⟨max k1 k2, σ1, hc, .nor σ2, hm _ _ (Nat.le_max_left _ _) _ _ g1, iter_mono (hm _ _ (Nat.le_max_right _ _)) (Nat.le_refl _) g2⟩
    | brk j σ2 => exact ⟨k1, σ1, hc, _, g1, h2⟩
    | ret σ2 => exact ⟨k1, σ1, hc, _, g1, h2⟩

theorem drwSt_cont (c : Chain Rk R) {nb : Nat} {kp : List Nat} {cn : Bool} : ∀ {ls : List (List G)} {σ τ : St}, drwSt R nb kp cn ls σ = some τ → ∃ k, drwSt (Rk k) nb kp cn ls σ = some τ
  | [], _, _, h => by simp [drwSt] at h
  | [l], σ, τ, h => by
    simp only [drwSt, Option.bind_eq_some_iff] at h ⊢
    obtain ⟨x, ⟨y, h1, h2⟩, h3⟩ := h
    obtain ⟨k, hk⟩ := runGs_cont c h1
    exact ⟨k, x, ⟨y, hk, h2⟩, h3⟩
  | l :: m :: r, σ, τ, h => by
    unfold drwSt at h ⊢
    simp only [Option.bind_eq_some_iff] at h ⊢
    obtain ⟨x, ⟨y, h1, h2⟩, z, h3, h4⟩ := h
    obtain ⟨k1, hk1⟩ := runGs_cont c h1
    obtain ⟨k2, hk2⟩ := drwSt_cont c (ls := m :: r) h3
    exact ⟨max k1 k2, x, ⟨y, runGs_mono (c.le (Nat.le_max_left _ _)) hk1, h2⟩, z, drwSt_mono (c.le (Nat.le_max_right _ _)) hk2, h4⟩

theorem evc_cont (c : Chain Rk R) {nb n : Nat} : ∀ {q : C} {σ : St} {o : Out}, evc R nb n q σ = some o → ∃ k, evc (Rk k) nb n q σ = some o := by
  intro q
  induction q with
  | ops l kp =>
    intro σ o h
    simp only [evc, Option.bind_eq_some_iff] at h ⊢
    obtain ⟨σ1, h1, h2⟩ := h
    obtain ⟨k, hk⟩ := runGs_cont c h1
    exact ⟨k, σ1, hk, h2⟩
  | drw ls kp cn =>
    intro σ o h
    simp only [evc, Option.bind_eq_some_iff] at h ⊢
    obtain ⟨σ1, h1, h2⟩ := h
    obtain ⟨k, hk⟩ := drwSt_cont c h1
    exact ⟨k, σ1, hk, h2⟩
  | seq x y ihx ihy =>
    intro σ o h
    simp only [evc, Option.bind_eq_some_iff] at h ⊢
    obtain ⟨o1, h1, h2⟩ := h
    obtain ⟨k1, g1⟩ := ihx h1
    cases o1 with
    | nor σ1 =>
      obtain ⟨k2, g2⟩ := ihy h2
      exact ⟨max k1 k2, .nor σ1, evc_mono (c.le (Nat.le_max_left _ _)) (Nat.le_refl _) g1, evc_mono (c.le (Nat.le_max_right _ _)) (Nat.le_refl _) g2⟩
    | brk j σ1 => exact ⟨k1, _, g1, h2⟩
    | ret σ1 => exact ⟨k1, _, g1, h2⟩
  | cond cc x y ihx ihy =>
    intro σ o h
    simp only [evc, Option.bind_eq_some_iff] at h ⊢
    obtain ⟨v, hv, b, hb, h⟩ := h
    split at h
    · rename_i e
      obtain ⟨k, hk⟩ := ihx h
      exact ⟨k, v, hv, b, hb, by rw [if_pos e]; exact hk⟩
    · rename_i e
      obtain ⟨k, hk⟩ := ihy h
      exact ⟨k, v, hv, b, hb, by rw [if_neg e]; exact hk⟩
  | blk id x ih =>
    intro σ o h
    simp only [evc, Option.bind_eq_some_iff] at h ⊢
    obtain ⟨o1, h1, h2⟩ := h
    obtain ⟨k, hk⟩ := ih h1
    exact ⟨k, o1, hk, h2⟩
  | loop live x ih =>
    intro σ o h
    simp only [evc] at h ⊢
    exact iter_cont (f := evc R nb n x) (fk := fun k => evc (Rk k) nb n x) (fun k m hkm σ o h => evc_mono (c.le hkm) (Nat.le_refl _) h) (fun σ o h => ih h) h
  | _ => intro σ o h; exact ⟨0, h⟩

theorem fnRun_cont (c : Chain Rk R) {n : Nat} {cf : Fn} {args : List SV} {hp : List Blk} {x : SV × List Blk} (h : cf.run R n args hp = some x) : ∃ k, cf.run (Rk k) n args hp = some x := by
  unfold Fn.run at h ⊢
  obtain ⟨hl, h1⟩ := of_ite h
  simp only [Option.bind_eq_some_iff] at h1
  obtain ⟨o, ho, h2⟩ := h1
  obtain ⟨k, hk⟩ := evc_cont c ho
  refine ⟨k, ?_⟩
  rw [if_pos hl]
  simp only [Option.bind_eq_some_iff]
  exact ⟨o, hk, h2⟩

end

abbrev Tab := FuncId → Option Fn

noncomputable def runF (tab : Tab) (ext : Rt) : Nat → Rt
  | 0, f, args, hp => match tab f with
    | some _ => none
    | none => ext f args hp
  | k + 1, f, args, hp => match tab f with
    | some cf => cf.run (runF tab ext k) k args hp
    | none => ext f args hp

theorem runF_mono (tab : Tab) (ext : Rt) : ∀ k, LeR (runF tab ext k) (runF tab ext (k + 1))
  | 0 => fun f args hp r h => by
    simp only [runF] at h ⊢
    split at h
    · simp at h
    · exact h
  | k + 1 => fun f args hp r h => by
    have ih := runF_mono tab ext k
    rw [runF] at h
    rw [runF]
    split at h
    · exact fnRun_mono ih (Nat.le_succ _) h
    · exact h

open Classical in
/-- What a function gives. -/
noncomputable def run (tab : Tab) (ext : Rt) : Rt := fun f args hp =>
  if h : ∃ r k, runF tab ext k f args hp = some r then some h.choose else none

theorem run_chain (tab : Tab) (ext : Rt) : Chain (runF tab ext) (run tab ext) := by
  refine ⟨runF_mono tab ext, fun f args hp r h => ?_⟩
  unfold run at h
  split at h
  · rename_i hx
    obtain rfl := Option.some.inj h
    exact hx.choose_spec
  · simp at h

theorem run_of {tab : Tab} {ext : Rt} {f : FuncId} {args : List SV} {hp : List Blk} {r : SV × List Blk} {k : Nat} (h : runF tab ext k f args hp = some r) : run tab ext f args hp = some r := by
  unfold run
  have hx : ∃ r k, runF tab ext k f args hp = some r := ⟨r, k, h⟩
  rw [dif_pos hx]
  obtain ⟨m, hm⟩ := hx.choose_spec
  have h1 := (run_chain tab ext).le (Nat.le_max_left k m) _ _ _ _ h
  have h2 := (run_chain tab ext).le (Nat.le_max_right k m) _ _ _ _ hm
  rw [h1] at h2
  exact h2.symm

/-- A function is what its code does. -/
theorem run_fn {tab : Tab} {ext : Rt} {f : FuncId} {cf : Fn} (hf : tab f = some cf) {n : Nat} {args : List SV} {hp : List Blk} {r : SV × List Blk} (h : cf.run (run tab ext) n args hp = some r) : run tab ext f args hp = some r := by
  obtain ⟨k, hk⟩ := fnRun_cont (run_chain tab ext) h
  refine run_of (k := max k n + 1) ?_
  rw [runF]
  simp only [hf]
  exact fnRun_mono ((run_chain tab ext).le (Nat.le_max_left _ _)) (Nat.le_max_right _ _) hk

theorem run_ext {tab : Tab} {ext : Rt} {f : FuncId} (hf : tab f = none) {args : List SV} {hp : List Blk} {r : SV × List Blk} (h : ext f args hp = some r) : run tab ext f args hp = some r :=
  run_of (k := 0) (by rw [runF]; simp only [hf]; exact h)

/-- The table tells the program's functions. -/
def TabOk (P : Program) (tab : Tab) : Prop := ∀ f cf, tab f = some cf → HasBody P f ∧ ∃ fn h drawOk np, P.funcs[f]? = some fn ∧ DrawSound P drawOk ∧ compF P h drawOk fn np = some cf

theorem runF_sound {P : Program} {tab : Tab} {ext : Rt} (ht : TabOk P tab) (he : Sound P ext) : ∀ k, Sound P (runF tab ext k)
  | 0 => fun f args hp res hp' h => by
    rw [runF] at h
    split at h
    · simp at h
    · exact he f args hp res hp' h
  | k + 1 => fun f args hp res hp' h => by
    have ih := runF_sound ht he k
    rw [runF] at h
    split at h
    · rename_i cf hcf
      obtain ⟨hb, fn, hh, drawOk, np, hfn, hdr, hc⟩ := ht f cf hcf
      exact ⟨hb, fn_sound ih hdr hfn hc h⟩
    · exact he f args hp res hp' h

theorem run_sound {P : Program} {tab : Tab} {ext : Rt} (ht : TabOk P tab) (he : Sound P ext) : Sound P (run tab ext) := fun f args hp res hp' h => by
  obtain ⟨k, hk⟩ := (run_chain tab ext).lim _ _ _ _ h
  exact runF_sound ht he k f args hp res hp' hk

theorem sound_none (P : Program) : Sound P (fun _ _ _ => none) := fun _ _ _ _ _ h => by simp at h

end Go.Zq
