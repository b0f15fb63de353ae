/- What goes with a call. -/
import Derived.Test.YtilfpkfifdhhdaaZqCanon
set_option linter.unusedVariables false
set_option linter.unusedSimpArgs false
namespace Go.Zq
open Go

section
variable {P : Program} {w0 : World} {W : Nat → Nat → Prop} {S0 : Rds} {ρ0 : Rho} {nb N : Nat} {ρ : Rho} {S Se : Rds} {σ : St} {a : Act} {w : World} {src : List Src} {hp hp' : List Blk}

/-- What a callee may read. -/
def lentS (S : Rds) (hp : List Blk) (ρ : Rho) (src : List Src) (bor : Bool) : Rds := fun p b =>
  S p b ∨ (p = false ∧ bor = true ∧ ∃ id L, live hp id ∧ ρ id = some L ∧ L.whole = true ∧ b = L.blk ∧ ∀ off len, Src.lst id off len ∉ src)

theorem lentS_false {b : Nat} {p : Bool} (h : lentS S hp ρ src false p b) : S p b := by
  rcases h with h | ⟨-, h, -⟩
  · exact h
  · simp at h

theorem lentS_true {b : Nat} {bor : Bool} (h : lentS S hp ρ src bor true b) : S true b := by
  rcases h with h | ⟨h, -⟩
  · exact h
  · simp at h

theorem objLt {w : World} {b : Nat} {y : Obj} (hy : w.heap[b]? = some y) : b < w.heap.size := by
  by_cases hl : b < w.heap.size
  · exact hl
  · simp [hl] at hy

theorem Hp.lt (h : Hp ρ w S hp) {id : Nat} {L : Loc} (hl : live hp id) (hL : ρ id = some L) : L.blk < w.heap.size := by
  obtain ⟨c, e, hc, -⟩ := h.obj hl hL
  exact objLt hc

theorem lentS_hp (h : Hp ρ w S hp) (hs : srcOk hp src = true) {m m' : Nat} (hb : renBlks hp src m src = some (hp', m')) (bor : Bool) : Hp (rho ρ src) w (lentS S hp ρ src bor) hp' := by
  refine h.ren hs hb (fun _ _ h => .inl h) (fun p b hpb => ?_) (fun b hb => .inl (h.st _ (lentS_true hb))) (fun p b hpb j M hM => ?_)
  · rcases hpb with hpb | ⟨-, -, id, L, hl, hL, -, rfl, -⟩
    · exact h.sb p b hpb
    · exact h.lt hl hL
  · obtain ⟨s, id0, L0, hs0, hc0, hl0, hL0, e0, -⟩ := rho_old h hs hb hM
    rw [e0]
    rcases hpb with hpb | ⟨-, -, id, L, hl, hL, hw, rfl, hno⟩
    · exact h.sd p b hpb id0 L0 hl0 hL0
    · by_cases e : id0 = id
      · subst e
        obtain rfl : L0 = L := by rw [hL0] at hL; exact Option.some.inj hL
        rcases hc0 with ⟨-, -, g, -⟩ | ⟨⟨off, len, rfl⟩, -⟩
        · rw [hw] at g; simp at g
        · exact absurd (List.mem_of_getElem? hs0) (hno off len)
      · exact h.alone hl hL hw hl0 hL0 e

theorem lend_rt (h : Hp ρ w S hp) {t t' : T} {v : Value} {bor : Bool} (ht : RT ρ w S t v) (hr : lend hp src t = some t') (hbor : isSl t = true → bor = true) : RT (rho ρ src) w (lentS S hp ρ src bor) t' v := by
  have hS : ∀ p b, S p b → lentS S hp ρ src bor p b := fun _ _ h => .inl h
  cases t with
  | lit x =>
    simp only [lend, Option.some.injEq] at hr
    subst hr
    cases ht with
    | ri h => exact .ri (h.mono hS (fun _ _ _ => rfl))
  | nls n =>
    simp only [lend, Option.some.injEq] at hr
    subst hr
    cases ht with
    | ri h => cases h; exact .ri .nil
  | imm p n rows =>
    simp only [lend, Option.some.injEq] at hr
    subst hr
    cases ht with
    | ri h' => exact .ri (h'.mono hS (fun _ _ _ => rfl))
  | sl id off len =>
    simp only [lend, Option.bind_eq_some_iff] at hr
    obtain ⟨n, hn, rows, hrows, hr⟩ := hr
    obtain ⟨hno, hr1⟩ := of_ite hr
    obtain rfl := Option.some.inj hr1
    obtain ⟨ad, cap, rfl, hcap, hrd⟩ := rowsOf_sound h ht hrows hn
    rcases hrd with rfl | ⟨b, o, rfl, hsz, hin, hc, hb⟩
    · exact .ri .nil
    · refine .ri (.imm (p := false) (g := fun j k => (w.cell? ⟨b, o + j * n + k, none⟩).getD undef) ?_ hcap hsz hin (fun j k t ht => ?_) (fun j k t ht => ?_))
      · rcases hb with hb | ⟨id', off', len', L, e, hL, hl, rfl⟩
        · exact .inl hb
        · simp only [T.sl.injEq] at e
          obtain ⟨rfl, rfl, rfl⟩ := e
          obtain ⟨-, hw, -⟩ := szOf_loc h hL hn
          refine .inr ⟨rfl, hbor rfl, id, L, hl, hL, hw, rfl, fun off len hm => ?_⟩
          have := List.all_eq_true.1 hno _ hm
          simp [notLst] at this
      · obtain ⟨u, hu, -⟩ := hc j k t ht
        simp only [hu, Option.getD_some]
      · obtain ⟨u, hu, hru⟩ := hc j k t ht
        simp only [hu, Option.getD_some]
        exact hru.mono hS (fun _ _ _ => rfl)
  | clo f caps =>
    simp only [lend, Option.bind_eq_some_iff, Option.some.injEq] at hr
    obtain ⟨caps', hc, rfl⟩ := hr
    exact renPs_clo ht hc
  | ptr id row off => exact renP_rt ht hr
  | ip cells => simp [lend] at hr

theorem lendRow_sound : ∀ {l l' : Row}, lendRow hp src l = some l' → l'.length = l.length ∧ ∀ (k : Nat) (t' : T), l'[k]? = some t' → ∃ t, l[k]? = some t ∧ lend hp src t = some t'
  | [], l', h => by
    simp only [lendRow, Option.some.injEq] at h
    subst h
    exact ⟨rfl, fun k t h => by simp at h⟩
  | t :: r, l', h => by
    simp only [lendRow, Option.bind_eq_some_iff, Option.some.injEq] at h
    obtain ⟨t1, h1, r1, h2, rfl⟩ := h
    obtain ⟨h3, h4⟩ := lendRow_sound h2
    refine ⟨by simp [h3], fun k t' ht' => ?_⟩
    cases k with
    | zero =>
      simp only [List.getElem?_cons_zero, Option.some.injEq] at ht'
      subst ht'
      exact ⟨t, rfl, h1⟩
    | succ k => exact h4 k t' (by simpa using ht')

theorem renArgs_sound (h : Hp ρ w S hp) {bor : Bool} : ∀ {l : List (SV × Nat × Bool)} {l' : List SV} {m : Nat} {us : List Value}, renArgs hp src m l = some l' → us.length = l.length → (l.any lentSl = true → bor = true) →
    (∀ (k : Nat) (v : SV × Nat × Bool) (u : Value), l[k]? = some v → us[k]? = some u → RS ρ w S v.1 u) →
    l'.length = l.length ∧ ∀ (k : Nat) (v : SV) (u : Value), l'[k]? = some v → us[k]? = some u → RS (rho ρ src) w (lentS S hp ρ src bor) v u
  | [], l', m, us, h, _, _, _ => by
    simp only [renArgs, Option.some.injEq] at h
    subst h
    exact ⟨rfl, fun k v u hv => by simp at hv⟩
  | x :: r, l', m, [], _, hl, _, _ => by simp at hl
  | (x, n, mv) :: r, l', m, y :: us, hr, hl, hbor, hrel => by
    have hS : ∀ p b, S p b → lentS S hp ρ src bor p b := fun _ _ h => .inl h
    have hx := hrel 0 (x, n, mv) y rfl rfl
    have hl' : us.length = r.length := by simpa using hl
    have hbor' : r.any lentSl = true → bor = true := fun hh => hbor (by simp [hh])
    have hrel' : ∀ (k : Nat) (v : SV × Nat × Bool) (u : Value), r[k]? = some v → us[k]? = some u → RS ρ w S v.1 u := fun k v u hv hu => hrel (k + 1) v u (by simpa using hv) (by simpa using hu)
    have cons : ∀ (z : SV) (m1 : Nat) (r' : List SV), RS (rho ρ src) w (lentS S hp ρ src bor) z y → renArgs hp src m1 r = some r' → l' = z :: r' →
        l'.length = ((x, n, mv) :: r).length ∧ ∀ (k : Nat) (v : SV) (u : Value), l'[k]? = some v → (y :: us)[k]? = some u → RS (rho ρ src) w (lentS S hp ρ src bor) v u := by
      intro z m1 r' hz hr' e
      subst e
      obtain ⟨h1, h2⟩ := renArgs_sound h hr' hl' hbor' hrel'
      refine ⟨by simp [h1], fun k v u hv hu => ?_⟩
      cases k with
      | zero =>
        simp only [List.getElem?_cons_zero, Option.some.injEq] at hv hu
        subst hv hu
        exact hz
      | succ k => exact h2 k v u (by simpa using hv) (by simpa using hu)
    cases x with
    | one t =>
      simp only [renArgs] at hr
      split at hr
      · simp only [Option.bind_eq_some_iff, Option.some.injEq] at hr
        obtain ⟨⟨t', m'⟩, hr1, r', hr', rfl⟩ := hr
        exact cons _ _ _ (ren_one hS hx hr1) hr' rfl
      · rename_i hmv
        simp only [Option.bind_eq_some_iff, Option.some.injEq] at hr
        obtain ⟨t', hr1, r', hr', rfl⟩ := hr
        refine cons _ _ _ ?_ hr' rfl
        cases hx with
        | one hx => exact .one (lend_rt h hx hr1 (fun hi => hbor (by simp [lentSl, hmv, svCells, hi])))
    | agg t =>
      simp only [renArgs] at hr
      split at hr
      · simp only [Option.bind_eq_some_iff, Option.some.injEq] at hr
        obtain ⟨⟨t', m'⟩, hr1, r', hr', rfl⟩ := hr
        exact cons _ _ _ (ren_agg hS hx hr1) hr' rfl
      · rename_i hmv
        simp only [Option.bind_eq_some_iff, Option.some.injEq] at hr
        obtain ⟨t', hr1, r', hr', rfl⟩ := hr
        refine cons _ _ _ ?_ hr' rfl
        obtain ⟨h1, h2⟩ := lendRow_sound hr1
        cases hx with
        | agg hn hx =>
          refine .agg (by omega) fun k t'' ht'' => ?_
          obtain ⟨t0, ht0, hle⟩ := h2 k t'' ht''
          exact lend_rt h (hx k t0 ht0) hle (fun hi => hbor (by
            have : t.any isSl = true := List.any_eq_true.2 ⟨t0, List.mem_of_getElem? ht0, hi⟩
            simp [lentSl, hmv, svCells, this]))
    | _ => simp [renArgs] at hr

/-- The entry of a call. -/
def Entry (P : Program) (w : World) (ρ : Rho) (S : Rds) (args : List SV) (hp : List Blk) (us : List Value) : Prop :=
  Hp ρ w S hp ∧ args.length = us.length ∧ ∀ (k : Nat) (v : SV) (u : Value), args[k]? = some v → us[k]? = some u → RS ρ w S v u

theorem enter_sound (h : Hp ρ w S hp) {vs : List (SV × Nat × Bool)} {e : Ent} (he : enter hp vs = some e) {us : List Value} (hn : us.length = vs.length) (hv : ∀ (k : Nat) (v : SV × Nat × Bool) (u : Value), vs[k]? = some v → us[k]? = some u → RS ρ w S v.1 u) :
    srcOk hp e.src = true ∧ (∃ m, renBlks hp e.src 0 e.src = some (e.hp, m)) ∧ Entry P w (rho ρ e.src) (lentS S hp ρ e.src e.bor) e.args e.hp us := by
  unfold enter at he
  simp only at he
  obtain ⟨hs, he1⟩ := of_ite he
  simp only [Option.bind_eq_some_iff, Option.some.injEq] at he1
  obtain ⟨⟨hp1, m⟩, hb, args, ha, rfl⟩ := he1
  obtain ⟨h1, h2⟩ := renArgs_sound h ha hn (fun hh => hh) hv
  exact ⟨hs, ⟨m, hb⟩, lentS_hp h hs hb _, by simp only; omega, h2⟩

end
end Go.Zq
