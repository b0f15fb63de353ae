/- Whole functions. -/
import Derived.Test.YtilfpkfifdhhdaaZqRun
set_option linter.unusedVariables false
set_option linter.unusedSimpArgs false
namespace Go.Zq
open Go

section
variable {P : Program} {w0 : World} {W : Nat → Nat → Prop} {S0 : Rds} {ρ0 : Rho} {nb N : Nat} {ρ : Rho} {S : Rds} {σ : St} {a : Act} {w : World} {R : Rt}

/-- One result. -/
def oneRes (tmps : Array Value) : ResultVar → Sem Value
  | .tmp t => pure (tmps.getD t undef)
  | .cell x t => do loadVar t (← asAddr (tmps.getD x undef))

theorem results_eq (fn : Func) (tmps : Array Value) : results fn tmps = (do
    let vs ← fn.results.mapM (oneRes tmps)
    pure (if h : vs.size = 1 then vs[0] else .tuple vs)) := by
  have : (fun (x : ResultVar) => (match x with
    | .tmp t => pure (tmps.getD t undef)
    | .cell a t => do loadVar t (← asAddr (tmps.getD a undef)) : Sem Value)) = oneRes tmps := by
    funext x
    cases x <;> rfl
  rw [← this]
  rfl

theorem run_result (h : Sim w0 W S0 ρ0 nb N ρ S σ a w) : ∀ (rs : List ResultVar) (rv : List Rv), compR P N rs = some rv → ∀ vs, resVals σ rv = some vs → ∃ us : List Value,
    (rs.mapM (oneRes a.tmps)).run P w = .ok us w ∧ us.length = vs.length ∧ ∀ (k : Nat) (v : SV) (u : Value), vs[k]? = some v → us[k]? = some u → RS ρ w S v u := by
  intro rs
  induction rs with
  | nil =>
    intro rv hrv vs hvs
    simp only [compR, Option.some.injEq] at hrv
    subst hrv
    simp only [resVals, Option.some.injEq] at hvs
    subst hvs
    exact ⟨[], by simp, rfl, fun k v u hv => by simp at hv⟩
  | cons r rs ih =>
    intro rv hrv vs hvs
    have cons : ∀ (x : Rv) (v : SV) (u : Value) (rv' : List Rv) (vs' : List SV), RS ρ w S v u → compR P N rs = some rv' → resVals σ rv' = some vs' → vs = v :: vs' →
        (oneRes a.tmps r).run P w = .ok u w → ∃ us : List Value,
        ((r :: rs).mapM (oneRes a.tmps)).run P w = .ok us w ∧ us.length = vs.length ∧ ∀ (k : Nat) (v : SV) (u : Value), vs[k]? = some v → us[k]? = some u → RS ρ w S v u := by
      intro x v u rv' vs' hru h1 h2 e hrun
      subst e
      obtain ⟨us, k1, k2, k3⟩ := ih rv' h1 vs' h2
      refine ⟨u :: us, ?_, by simp [k2], fun k v' u' hv' hu' => ?_⟩
      · rw [List.mapM_cons]
        simp only [Sem.run_bind, hrun, Result.andThen_ok, k1, Sem.run_pure]
      · cases k with
        | zero =>
          simp only [List.getElem?_cons_zero, Option.some.injEq] at hv' hu'
          subst hv' hu'
          exact hru
        | succ k => exact k3 k v' u' (by simpa using hv') (by simpa using hu')
    cases r with
    | tmp t =>
      simp only [compR] at hrv
      obtain ⟨ht, hrv1⟩ := of_ite hrv
      simp only [Option.bind_eq_some_iff, Option.some.injEq] at hrv1
      obtain ⟨rv', h1, rfl⟩ := hrv1
      simp only [resVals, Option.bind_eq_some_iff, Option.some.injEq] at hvs
      obtain ⟨v, hv, vs', h2, rfl⟩ := hvs
      exact cons (.tmp t) v _ rv' vs' (h.slots t v hv).2 h1 h2 rfl (by simp [oneRes])
    | cell x t =>
      simp only [compR] at hrv
      obtain ⟨ht, hrv1⟩ := of_ite hrv
      simp only [Option.bind_eq_some_iff, Option.some.injEq] at hrv1
      obtain ⟨k, hk, rv', h1, rfl⟩ := hrv1
      simp only [resVals, Option.bind_eq_some_iff, Option.some.injEq] at hvs
      obtain ⟨v, hv, tx, htx, cs, hcs, s, hs, vs', h2, rfl⟩ := hvs
      obtain ⟨b, o, hval, hcells⟩ := cellsAt_sound (asOne_sound (h.slots x v hv).2 htx) h.heap hcs
      obtain ⟨u, hu, hru⟩ := run_loadVar (P := P) hk hs hcells
      refine cons (.cell x k) s u rv' vs' hru h1 h2 rfl ?_
      simp only [oneRes, Sem.run_bind, hval]
      simpa [asAddr] using hu

theorem lookup_start : ∀ (args : List SV) (k n : Nat) (v : SV), lookup n (startSl k args) = some v → k ≤ n ∧ args[n - k]? = some v
  | [], k, n, v, h => by simp [startSl, lookup] at h
  | x :: r, k, n, v, h => by
    simp only [startSl, lookup] at h
    split at h
    · rename_i e
      subst e
      exact ⟨Nat.le_refl _, by simpa using h⟩
    · obtain ⟨h1, h2⟩ := lookup_start r (k + 1) n v h
      exact ⟨by omega, by rw [show n - k = (n - (k + 1)) + 1 by omega, List.getElem?_cons_succ]; exact h2⟩

theorem hpBoxes_le : ∀ (hp : List Blk), hpBoxes hp ≤ hp.length
  | [] => Nat.le_refl _
  | .box _ :: r => by simp only [hpBoxes, List.length_cons]; have := hpBoxes_le r; omega
  | .dead :: r => by simp [hpBoxes]
  | .lst _ _ :: r => by simp [hpBoxes]

theorem Entry.sim {args : List SV} {hp : List Blk} {us : List Value} (h : Entry P w ρ S args hp us) (hn : args.length ≤ N) :
    Sim w (wOf hp ρ) S ρ (hpBoxes hp) N ρ S ⟨startSl 0 args, hp⟩ { tmps := us.toArray ++ Array.replicate (N - us.toArray.size) undef, defers := [] } w := by
  obtain ⟨h1, h2, h3⟩ := h
  refine ⟨fun n v hv => ?_, ?_, rfl, h1, Keep.refl _ _, fun i L b o hi hL hb => .inl ⟨i, L, hi, hL, hb⟩, fun _ _ h => .inl h, fun _ _ h => h, fun _ _ => rfl, hpBoxes_le hp⟩
  · obtain ⟨-, hk⟩ := lookup_start args 0 n v hv
    simp only [Nat.sub_zero] at hk
    have hlt := (List.getElem?_eq_some_iff.1 hk).1
    refine ⟨by omega, ?_⟩
    have hu : us[n]? = some us[n] := List.getElem?_eq_getElem (by omega)
    have := h3 n v us[n] hk hu
    have hlt' : n < us.length := by omega
    simpa [Array.getD_eq_getD_getElem?, Array.getElem?_append, hlt'] using this
  · simp; omega

theorem fn_sound (hR : Sound P R) {drawOk : Array Oper → List Nat → List G → Bool} (hdr : DrawSound P drawOk) {h : Hint} {n np : Nat} {f : FuncId} {fn : Func} {cf : Fn} (hf : P.funcs[f]? = some fn)
    (hc : compF P h drawOk fn np = some cf) {args : List SV} {hp : List Blk} {res : SV} {hp' : List Blk} (hr : cf.run R n args hp = some (res, hp')) : TC P f args hp res hp' := by
  intro w ρ S us hent
  unfold compF at hc
  simp only [Option.bind_eq_some_iff] at hc
  obtain ⟨code, hcode, c, hc1, rs, hrs, hc2⟩ := hc
  obtain ⟨hnp, hc3⟩ := of_ite hc2
  obtain rfl := Option.some.inj hc3
  unfold Fn.run at hr
  obtain ⟨hlen, hr1⟩ := of_ite hr
  simp only [Option.bind_eq_some_iff] at hr1
  obtain ⟨out, hev, hout⟩ := hr1
  simp only at hlen
  have hsim := hent.sim (N := fn.ntmps) (by omega)
  have hwp := c_sound hR hdr code c hc1 ρ S _ _ w out hsim hev
  have fin : ∀ (σ : St) (ρ1 : Rho) (S1 : Rds) (a1 : Act) (w1 : World), Sim w (wOf hp ρ) S ρ (hpBoxes hp) fn.ntmps ρ1 S1 σ a1 w1 → (resVals σ rs).bind (fun vs => leave (hpBoxes hp) σ vs) = some (res, hp') →
      a1.defers = [] ∧ ∃ v, (results fn a1.tmps).run P w1 = .ok v w1 ∧ Exit w (wOf hp ρ) S ρ (hpBoxes hp) res hp' v w1 := by
    intro σ ρ1 S1 a1 w1 hs hl
    simp only [Option.bind_eq_some_iff] at hl
    obtain ⟨vs, hvs, hl⟩ := hl
    obtain ⟨us1, k1, k2, k3⟩ := run_result (P := P) hs fn.results.toList rs hrs vs hvs
    refine ⟨hs.defers, _, ?_, hs.leave k2 k3 hl⟩
    rw [results_eq]
    simp only [Array.mapM_eq_mapM_toList, Sem.run_bind, Sem.run_map, k1]
    match us1 with
    | [] => rfl
    | [u] => rfl
    | x :: y :: r => rfl
  refine calls_of_wp hf hcode (wp_mono hwp fun e a1 w1 hp1 => ?_)
  cases e with
  | normal =>
    obtain ⟨σ1, ρ1, S1, rfl, hs⟩ := hp1
    exact fin σ1 ρ1 S1 a1 w1 hs hout
  | ret =>
    obtain ⟨σ1, ρ1, S1, rfl, hs⟩ := hp1
    exact fin σ1 ρ1 S1 a1 w1 hs hout
  | exit id =>
    obtain ⟨σ1, ρ1, S1, rfl, hs⟩ := hp1
    simp at hout
  | goto l => exact hp1.elim
  | panic ch => exact hp1.elim
  | outgrown => exact hp1.elim

end
end Go.Zq
