/- Regions, code, functions. -/
import Derived.Test.YtilfpkfifdhhdaaZqCall
import Derived.LoopN
set_option linter.unusedVariables false
set_option linter.unusedSimpArgs false
namespace Go.Zq
open Go

section
variable {P : Program} {w0 : World} {W : Nat → Nat → Prop} {S0 : Rds} {ρ0 : Rho} {nb N : Nat} {ρ : Rho} {S : Rds} {σ : St} {a : Act} {w : World} {R : Rt}

theorem run_step (hR : Sound P R) (h : Sim w0 W S0 ρ0 nb N ρ S σ a w) {md : FuncId → Nat → Bool} {dr : Bool} {ops : Array Oper} {o : Oper} {g : G} (hg : compO P N md dr ops o = some g) {σ' : St} (hx : g.2.run R σ = some σ') :
    OpDone P w0 W S0 ρ0 nb N σ' o a w := by
  unfold compO at hg
  obtain ⟨hok, hg1⟩ := of_ite hg
  simp only [Option.bind_eq_some_iff] at hg1
  obtain ⟨gd, -, k, hk, hg2⟩ := hg1
  obtain ⟨hdst, hg3⟩ := of_ite hg2
  obtain rfl := Option.some.inj hg3
  unfold K.run at hx
  simp only [Option.bind_eq_some_iff, Option.some.injEq] at hx
  obtain ⟨⟨r, hp'⟩, hex, rfl⟩ := hx
  split at hk
  · rename_i t x y ho hd
    simp only [Option.bind_eq_some_iff, Option.some.injEq] at hk
    obtain ⟨n, hn, x', hx', y', hy', rfl⟩ := hk
    simp only [K.exec, Option.bind_eq_some_iff, Option.some.injEq, Prod.mk.injEq] at hex
    obtain ⟨v, hv, tx, htx, u, hu, cs, hcs, hp2, hst, rfl, rfl⟩ := hex
    have hxs : RS ρ w S v (a.eval x) := by
      split at hx'
      · obtain ⟨-, hx1⟩ := of_ite hx'
        obtain rfl := Option.some.inj hx1
        exact slot_sound h hv
      · simp at hx'
    obtain ⟨w', hrun, hsim⟩ := st_sound (P := P) h ho hn (asOne_sound hxs htx) (ev_sound h hy' hu) hcs hst
    intro next Q hnx
    unfold Oper.wp
    rw [hrun, Oper.upon_skip, hd]
    exact hnx ρ S _ _ hsim
  · rename_i c ho
    exact callK_sound hR h ho hok hk hex
  · rename_i d hd _
    obtain ⟨h1, h2⟩ := k_sound R h hk hex
    simp only [h1]
    exact OpDone.of_does h hd (by rw [hd] at hok; exact hok) h2
  · simp at hk

theorem guard_of {md : FuncId → Nat → Bool} {dr : Bool} {ops : Array Oper} {o : Oper} {g : G} (hg : compO P N md dr ops o = some g) : dstOk N o.dst = true ∧ g.2.dst = o.dst ∧
    match g.1 with
    | none => o.guard = none
    | some (s, want) => ∃ j, o.guard = some (j, want) ∧ ((ops[j]?).bind (·.dst)) = some s := by
  unfold compO at hg
  obtain ⟨hok, hg1⟩ := of_ite hg
  simp only [Option.bind_eq_some_iff] at hg1
  obtain ⟨gd, hgd, k, hk, hg2⟩ := hg1
  obtain ⟨hdst, hg3⟩ := of_ite hg2
  obtain rfl := Option.some.inj hg3
  refine ⟨hok, hdst, ?_⟩
  split at hgd
  · rename_i hgn
    simp only [Option.some.injEq] at hgd
    subst hgd
    exact hgn
  · rename_i j want hgj
    simp only [Option.bind_eq_some_iff, Option.some.injEq] at hgd
    obtain ⟨s, hs, rfl⟩ := hgd
    exact ⟨j, hgj, by simpa [Option.bind_eq_some_iff] using hs⟩

/-- An operation of a region, whether its guard lets it run or not. -/
theorem g_sound (hR : Sound P R) (h : Sim w0 W S0 ρ0 nb N ρ S σ a w) {md : FuncId → Nat → Bool} {dr : Bool} {ops : Array Oper} {o : Oper} {g : G} (hg : compO P N md dr ops o = some g) {σ' : St} (hx : runG R σ g = some σ')
    {next : Act → World → Prop} {Q : Go.Exit → Act → World → Prop} (hn : ∀ ρ S a w, Sim w0 W S0 ρ0 nb N ρ S σ' a w → next a w) :
    if Region.wanted o (yielded ops a.tmps) then o.wp P a w next Q ∨ (o.asks P a w ∧ LetsOut Q) else next (a.put o.dst undef) w := by
  obtain ⟨hok, hdst, hgd⟩ := guard_of hg
  have skip : ∀ σ', σ' = setD σ g.2.dst .und → Sim w0 W S0 ρ0 nb N ρ S σ' (a.put o.dst undef) w := fun σ' e => by
    rw [e, hdst]
    exact h.set hok .und
  unfold runG at hx
  split at hx
  · rename_i hg1
    rw [hg1] at hgd
    simp only at hgd
    rw [if_pos (by simp [Region.wanted, hgd])]
    exact .inl (run_step hR h hg hx next Q hn)
  · rename_i s want hg1
    rw [hg1] at hgd
    obtain ⟨j, hgj, hs⟩ := hgd
    have hy : ∀ v, lookup s σ.sl = some v → a.tmps[s]? = some (a.tmps.getD s undef) ∧ RS ρ w S v (a.tmps.getD s undef) := fun v hv => by
      obtain ⟨h1, h2⟩ := h.slots s v hv
      refine ⟨?_, h2⟩
      have : s < a.tmps.size := by rw [h.size]; exact h1
      simp [Array.getD_eq_getD_getElem?, this]
    split at hx
    · rename_i x hl
      obtain ⟨h1, h2⟩ := hy _ hl
      have h3 : a.tmps.getD s undef = .bool x := asBool_sound h2 rfl
      have hyd : yielded ops a.tmps j = some x := by
        simp only [yielded, hs, Option.bind_some, h1, h3]
      split at hx
      · rename_i e
        subst e
        rw [if_pos (by simp [Region.wanted, hgj, hyd])]
        exact .inl (run_step hR h hg hx next Q hn)
      · rename_i e
        rw [if_neg (by simp [Region.wanted, hgj, hyd, e])]
        exact hn _ _ _ _ (skip σ' (Option.some.inj hx).symm)
    · rename_i hl
      obtain ⟨h1, h2⟩ := hy _ hl
      have h3 : a.tmps.getD s undef = undef := by
        generalize a.tmps.getD s undef = u at h2
        cases h2
        rfl
      have hyd : yielded ops a.tmps j = none := by
        simp only [yielded, hs, Option.bind_some, h1, h3]
        rfl
      rw [if_neg (by simp [Region.wanted, hgj, hyd])]
      exact hn _ _ _ _ (skip σ' (Option.some.inj hx).symm)
    · simp at hx

theorem ops_sound (hR : Sound P R) {md : FuncId → Nat → Bool} {dr : Bool} {ops : Array Oper} {Q : Go.Exit → Act → World → Prop} : ∀ (l : List Nat) (gs : List G), compOs P N md dr ops l = some gs → ∀ (ρ : Rho) (S : Rds) (σ σ' : St) (a : Act) (w : World),
    Sim w0 W S0 ρ0 nb N ρ S σ a w → runGs R gs σ = some σ' → (∀ ρ S a w, Sim w0 W S0 ρ0 nb N ρ S σ' a w → Q .normal a w) → wpOps P ops Q l a w := by
  intro l
  induction l with
  | nil =>
    intro gs hgs ρ S σ σ' a w h hx hq
    simp only [compOs, Option.some.injEq] at hgs
    subst hgs
    simp only [runGs, Option.some.injEq] at hx
    subst hx
    exact hq _ _ _ _ h
  | cons j l ih =>
    intro gs hgs ρ S σ σ' a w h hx hq
    simp only [compOs, Option.bind_eq_some_iff, Option.some.injEq] at hgs
    obtain ⟨o, ho, g, hg, gs', hgs', rfl⟩ := hgs
    simp only [runGs, Option.bind_eq_some_iff] at hx
    obtain ⟨σ1, h1, h2⟩ := hx
    simp only [wpOps, ho]
    exact g_sound hR h hg h1 fun ρ1 S1 a1 w1 hs => ih gs' hgs' ρ1 S1 σ1 σ' a1 w1 hs h2 hq

/-- What the code's end says. -/
def Post (w0 : World) (W : Nat → Nat → Prop) (S0 : Rds) (ρ0 : Rho) (nb N : Nat) (out : Out) : Go.Exit → Act → World → Prop
  | .normal, a, w => ∃ σ ρ S, out = .nor σ ∧ Sim w0 W S0 ρ0 nb N ρ S σ a w
  | .exit id, a, w => ∃ σ ρ S, out = .brk id σ ∧ Sim w0 W S0 ρ0 nb N ρ S σ a w
  | .ret, a, w => ∃ σ ρ S, out = .ret σ ∧ Sim w0 W S0 ρ0 nb N ρ S σ a w
  | _, _, _ => False

/-- A region that draws is done in any order. -/
def DrawSound1 (P : Program) (drawOk : Array Oper → List Nat → List G → Bool) : Prop :=
  ∀ (N : Nat) (md : FuncId → Nat → Bool) (ops : Array Oper) (pm : List Nat) (l : List G), compOs P N md true ops pm = some l → drawOk ops pm l = true → ∀ (R : Rt), Sound P R →
    ∀ (w0 : World) (W : Nat → Nat → Prop) (S0 : Rds) (ρ0 : Rho) (nb : Nat) (ρ : Rho) (S : Rds) (σ σ' : St) (a : Act) (w : World), Sim w0 W S0 ρ0 nb N ρ S σ a w → runGs R l σ = some σ' →
      ∀ t (Q : Go.Exit → Act → World → Prop), (∀ ρ S a w, Sim w0 W S0 ρ0 nb N ρ S σ' a w → Q .normal a w) → wpOps P ops Q (Region.schedule (P.follows .mixedOrders) ops t) a { w with drawn := w.drawn + 1 }

/-- The same, where each order is looked at. -/
def OrdSound (P : Program) : Prop :=
  ∀ (N : Nat) (md : FuncId → Nat → Bool) (ops : Array Oper) (pm : List Nat) (l : List G), compOs P N md true ops pm = some l → ordOk ops pm = true → ∀ (R : Rt), Sound P R →
    ∀ (w0 : World) (W : Nat → Nat → Prop) (S0 : Rds) (ρ0 : Rho) (nb : Nat) (ρ : Rho) (S : Rds) (σ c : St) (a : Act) (w : World), Sim w0 W S0 ρ0 nb N ρ S σ a w → ∀ (kp : List Nat) (cn : Bool), drwSt R nb kp cn (ordersOf ops (ops.size + 1) (pm.zip l)) σ = some c →
      ∀ t (Q : Go.Exit → Act → World → Prop), (∀ ρ S a w, Sim w0 W S0 ρ0 nb N ρ S c a w → Q .normal a w) → wpOps P ops Q (Region.schedule (P.follows .mixedOrders) ops t) a { w with drawn := w.drawn + 1 }
structure DrawSound (P : Program) (drawOk : Array Oper → List Nat → List G → Bool) : Prop where
  one : DrawSound1 P drawOk
  all : OrdSound P

theorem keep_lookup {sl : List (Nat × SV)} : ∀ (l : List Nat) (n : Nat) (v : SV), lookup n (keep sl l) = some v → lookup n sl = some v
  | [], n, v, h => by simp [keep, lookup] at h
  | m :: r, n, v, h => by
    simp only [keep] at h
    split at h
    · rename_i x hx
      rw [lookup_cons] at h
      split at h
      · rename_i e
        subst e
        rw [← h]
        exact hx
      · exact keep_lookup r n v h
    · exact keep_lookup r n v h

theorem Sim.trim (h : Sim w0 W S0 ρ0 nb N ρ S σ a w) (kp : Option (List Nat)) : Sim w0 W S0 ρ0 nb N ρ S (trim kp σ) a w := by
  cases kp with
  | none => exact h
  | some l => exact { h with slots := fun n v hv => h.slots n v (keep_lookup l n v hv), heap := h.heap, own := h.own, nbl := h.nbl }

theorem c_sound (hR : Sound P R) {drawOk : Array Oper → List Nat → List G → Bool} (hdr : DrawSound P drawOk) {h : Hint} {n : Nat} : ∀ (code : Code) (c : C), compC P N h drawOk code = some c → ∀ (ρ : Rho) (S : Rds) (σ : St) (a : Act) (w : World) (out : Out),
    Sim w0 W S0 ρ0 nb N ρ S σ a w → evc R nb n c σ = some out → code.wp P (Post w0 W S0 ρ0 nb N out) a w := by
  intro code
  induction code with
  | skip =>
    intro c hc ρ S σ a w out hs he
    simp only [compC, Option.some.injEq] at hc
    subst hc
    simp only [evc, Option.some.injEq] at he
    subst he
    exact wp_skip ⟨σ, ρ, S, rfl, hs⟩
  | label l =>
    intro c hc ρ S σ a w out hs he
    simp only [compC, Option.some.injEq] at hc
    subst hc
    simp only [evc, Option.some.injEq] at he
    subst he
    exact wp_label ⟨σ, ρ, S, rfl, hs⟩
  | region id ops draw =>
    intro c hc ρ S σ a w out hs he
    simp only [compC] at hc
    split at hc
    · rename_i hd
      subst hd
      simp only [Option.bind_eq_some_iff] at hc
      obtain ⟨l, hl, hc⟩ := hc
      split at hc
      case isFalse =>
        simp only [Option.bind_eq_some_iff] at hc
        obtain ⟨kp, -, hc⟩ := hc
        obtain ⟨hok, hc1⟩ := of_ite hc
        obtain rfl := Option.some.inj hc1
        simp only [evc, Option.bind_eq_some_iff, Option.some.injEq] at he
        obtain ⟨c, hr, rfl⟩ := he
        exact wp_region_draw fun t => hdr.all N h.md ops _ l hl hok R hR w0 W S0 ρ0 nb ρ S σ c a w hs _ _ hr t _ (fun ρ S a w hs => ⟨_, ρ, S, rfl, hs⟩)
      rename_i hok
      obtain rfl := Option.some.inj hc
      simp only [evc, Option.bind_eq_some_iff, Option.some.injEq] at he
      obtain ⟨σ', hr, rfl⟩ := he
      exact wp_region_draw fun t => hdr.one N h.md ops _ l hl hok R hR w0 W S0 ρ0 nb ρ S σ σ' a w hs hr t _ (fun ρ S a w hs => ⟨_, ρ, S, rfl, hs.trim _⟩)
    · rename_i hd
      have hd' : draw = false := by simpa using hd
      subst hd'
      simp only [Option.bind_eq_some_iff, Option.some.injEq] at hc
      obtain ⟨l, hl, rfl⟩ := hc
      simp only [evc, Option.bind_eq_some_iff, Option.some.injEq] at he
      obtain ⟨σ', hr, rfl⟩ := he
      exact wp_region (ops_sound hR _ l hl ρ S σ σ' a w hs hr (fun ρ S a w hs => ⟨_, ρ, S, rfl, hs.trim _⟩))
  | seq x y ihx ihy =>
    intro c hc ρ S σ a w out hs he
    simp only [compC, Option.bind_eq_some_iff, Option.some.injEq] at hc
    obtain ⟨x', hx', y', hy', rfl⟩ := hc
    simp only [evc, Option.bind_eq_some_iff] at he
    obtain ⟨o1, h1, h2⟩ := he
    refine wp_seq (wp_mono (ihx x' hx' ρ S σ a w o1 hs h1) fun e a1 w1 hp => ?_)
    cases e with
    | normal =>
      obtain ⟨σ1, ρ1, S1, rfl, hs1⟩ := hp
      exact ihy y' hy' ρ1 S1 σ1 a1 w1 out hs1 h2
    | exit id =>
      obtain ⟨σ1, ρ1, S1, rfl, hs1⟩ := hp
      exact ⟨σ1, ρ1, S1, (Option.some.inj h2).symm, hs1⟩
    | ret =>
      obtain ⟨σ1, ρ1, S1, rfl, hs1⟩ := hp
      exact ⟨σ1, ρ1, S1, (Option.some.inj h2).symm, hs1⟩
    | goto l => exact hp.elim
    | panic ch => exact hp.elim
    | outgrown => exact hp.elim
  | cond c x y ihx ihy =>
    intro c' hc ρ S σ a w out hs he
    simp only [compC, Option.bind_eq_some_iff, Option.some.injEq] at hc
    obtain ⟨cc, hcc, x', hx', y', hy', rfl⟩ := hc
    simp only [evc, Option.bind_eq_some_iff] at he
    obtain ⟨v, hv, b, hb, he⟩ := he
    have hrs : RS ρ w S v (a.eval c) := by
      split at hcc
      · obtain ⟨-, hx1⟩ := of_ite hcc
        obtain rfl := Option.some.inj hx1
        exact slot_sound hs hv
      · obtain rfl := Option.some.inj hcc
        obtain rfl := by simpa [St.ev] using hv
        exact .one (.ri (.lit rfl))
      · simp at hcc
    have hbv := asBool_sound hrs hb
    refine wp_cond hbv ?_
    cases b
    · exact ihy y' hy' ρ S σ a w out hs (by simpa using he)
    · exact ihx x' hx' ρ S σ a w out hs (by simpa using he)
  | block id x ih =>
    intro c hc ρ S σ a w out hs he
    simp only [compC, Option.bind_eq_some_iff, Option.some.injEq] at hc
    obtain ⟨x', hx', rfl⟩ := hc
    simp only [evc, Option.bind_eq_some_iff] at he
    obtain ⟨o1, h1, h2⟩ := he
    refine wp_block (wp_mono (ih x' hx' ρ S σ a w o1 hs h1) fun e a1 w1 hp => ?_)
    cases e with
    | normal =>
      obtain ⟨σ1, ρ1, S1, rfl, hs1⟩ := hp
      exact ⟨σ1, ρ1, S1, (Option.some.inj h2).symm, hs1⟩
    | exit j =>
      obtain ⟨σ1, ρ1, S1, rfl, hs1⟩ := hp
      simp only [Go.Exit.inBlock]
      simp only at h2
      split at h2
      · rename_i e
        rw [if_pos e]
        exact ⟨σ1, ρ1, S1, (Option.some.inj h2).symm, hs1⟩
      · rename_i e
        rw [if_neg e]
        exact ⟨σ1, ρ1, S1, (Option.some.inj h2).symm, hs1⟩
    | ret =>
      obtain ⟨σ1, ρ1, S1, rfl, hs1⟩ := hp
      exact ⟨σ1, ρ1, S1, (Option.some.inj h2).symm, hs1⟩
    | goto l => exact hp.elim
    | panic ch => exact hp.elim
    | outgrown => exact hp.elim
  | loop x ih =>
    intro c hc ρ S σ a w out hs he
    simp only [compC, Option.bind_eq_some_iff, Option.some.injEq] at hc
    obtain ⟨x', hx', rfl⟩ := hc
    simp only [evc] at he
    have key : ∀ (k : Nat) (ρ : Rho) (S : Rds) (σ : St) (a : Act) (w : World), Sim w0 W S0 ρ0 nb N ρ S σ a w → iter nb (h.lv (firstR x)) (evc R nb n x') k σ = some out → Code.rounds P x (Post w0 W S0 ρ0 nb N out) k a w := by
      intro k
      induction k with
      | zero => intro ρ S σ a w _ hi; simp [iter] at hi
      | succ k ihk =>
        intro ρ S σ a w hs hi
        simp only [iter, Option.bind_eq_some_iff] at hi
        obtain ⟨σ1, hcn, o1, h1, h2⟩ := hi
        obtain ⟨ρ1, hs1⟩ := hs.canon hcn
        rw [rounds_succ]
        refine wp_mono (ih x' hx' ρ1 S σ1 a w o1 hs1 h1) fun e a1 w1 hp => ?_
        cases e with
        | normal =>
          obtain ⟨σ2, ρ2, S2, rfl, hs2⟩ := hp
          exact ihk ρ2 S2 σ2 a1 w1 hs2 h2
        | exit j =>
          obtain ⟨σ2, ρ2, S2, rfl, hs2⟩ := hp
          exact ⟨σ2, ρ2, S2, (Option.some.inj h2).symm, hs2⟩
        | ret =>
          obtain ⟨σ2, ρ2, S2, rfl, hs2⟩ := hp
          exact ⟨σ2, ρ2, S2, (Option.some.inj h2).symm, hs2⟩
        | goto l => exact hp.elim
        | panic ch => exact hp.elim
        | outgrown => exact hp.elim
    exact wp_loop_rounds n (key n ρ S σ a w hs he)
  | exit id =>
    intro c hc ρ S σ a w out hs he
    simp only [compC, Option.some.injEq] at hc
    subst hc
    simp only [evc, Option.some.injEq] at he
    subst he
    exact wp_exit ⟨σ, ρ, S, rfl, hs⟩
  | ret =>
    intro c hc ρ S σ a w out hs he
    simp only [compC, Option.some.injEq] at hc
    subst hc
    simp only [evc, Option.some.injEq] at he
    subst he
    exact wp_ret ⟨σ, ρ, S, rfl, hs⟩
  | _ => intro c hc; simp [compC] at hc

end
end Go.Zq
