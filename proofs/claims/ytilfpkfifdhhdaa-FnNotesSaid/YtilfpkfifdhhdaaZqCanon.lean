/- A round's beginning, and what a call hands back. -/
import Derived.Test.YtilfpkfifdhhdaaZqRen
set_option linter.unusedVariables false
set_option linter.unusedSimpArgs false
namespace Go.Zq
open Go

section
variable {P : Program} {w0 : World} {W : Nat → Nat → Prop} {S0 : Rds} {ρ0 : Rho} {nb N : Nat} {ρ : Rho} {S Se : Rds} {σ : St} {a : Act} {w : World} {src : List Src}

theorem parBoxes_get {hp : List Blk} {nb i : Nat} (h : i < nb) : (parBoxes hp nb)[i]? = some (.box i 0 (boxCells hp i).length) := by
  simp [parBoxes, h]

theorem rho_par {hp : List Blk} (h : Hp ρ w S hp) (hs : srcOk hp src = true) (ht : src.take nb = parBoxes hp nb) : (∀ i, i < nb → rho ρ src i = ρ i) ∧ nb ≤ src.length := by
  constructor
  · intro i hi
    have h1 : src[i]? = some (.box i 0 (boxCells hp i).length) := by
      rw [← parBoxes_get (hp := hp) hi, ← ht, List.getElem?_take_of_lt hi]
    obtain ⟨cells, hc, -, -⟩ := srcOk_box hs h1
    obtain ⟨L, hL, hw, hl, -⟩ := h.locB hc
    have hbc : boxCells hp i = cells := by simp [boxCells, hc]
    rw [hbc] at h1
    simp only [rho, h1, hL, Option.map_some]
    obtain ⟨b, s, z, wh⟩ := L
    simp only at hw hl
    subst hw hl
    simp
  · have := congrArg List.length ht
    simp [parBoxes] at this
    omega

theorem Sim.sdr (h : Sim w0 W S0 ρ0 nb N ρ S σ a w) (hs : srcOk σ.hp src = true) {m m' : Nat} {hp' : List Blk} (hb : renBlks σ.hp src m src = some (hp', m')) :
    ∀ p b, S p b → ∀ j L, rho ρ src j = some L → L.blk ≠ b := fun p b hpb j L hL => by
  obtain ⟨s, id, L0, -, -, hl, hL0, e, -⟩ := rho_old h.heap hs hb hL
  rw [e]
  exact h.heap.sd p b hpb id L0 hl hL0

theorem Sim.renHp (h : Sim w0 W S0 ρ0 nb N ρ S σ a w) (hs : srcOk σ.hp src = true) {m m' : Nat} {hp' : List Blk} (hb : renBlks σ.hp src m src = some (hp', m')) : Hp (rho ρ src) w S hp' :=
  h.heap.ren hs hb (fun _ _ h => h) h.heap.sb h.heap.st (h.sdr hs hb)

theorem Sim.renOwn (h : Sim w0 W S0 ρ0 nb N ρ S σ a w) (hs : srcOk σ.hp src = true) {m m' : Nat} {hp' : List Blk} (hb : renBlks σ.hp src m src = some (hp', m')) :
    ∀ i L b o, rho ρ src i = some L → L.has b o → W b o ∨ w0.heap.size ≤ b := fun i L b o hL ho => by
  obtain ⟨s, id, L0, -, -, hl, hL0, e, hh⟩ := rho_old h.heap hs hb hL
  exact h.own id L0 b o hl hL0 (hh b o ho)

theorem Sim.ren (h : Sim w0 W S0 ρ0 nb N ρ S σ a w) (hs : srcOk σ.hp src = true) (ht : src.take nb = parBoxes σ.hp nb) {m m' : Nat} {hp' : List Blk} (hb : renBlks σ.hp src m src = some (hp', m')) {sl : List (Nat × SV)}
    (hsl : ∀ n v', lookup n sl = some v' → n < N ∧ RS (rho ρ src) w S v' (a.tmps.getD n undef)) : Sim w0 W S0 ρ0 nb N (rho ρ src) S ⟨sl, hp'⟩ a w := by
  obtain ⟨h1, h2⟩ := rho_par h.heap hs ht
  exact ⟨hsl, h.size, h.defers, h.renHp hs hb, h.keep, fun i L b o _ hL ho => h.renOwn hs hb i L b o hL ho, h.sn, h.ss, fun i hi => (h1 i hi).trans (h.boxes i hi), by rw [(renBlks_sound hb).1]; exact h2⟩

/-- A slot's value numbered anew. -/
theorem ren_one (hS : ∀ p b, S p b → Se p b) {t t' : T} {m m' : Nat} {v : Value} (h : RS ρ w S (.one t) v) (hr : ren src m t = some (t', m')) : RS (rho ρ src) w Se (.one t') v := by
  cases h with
  | one h => exact .one (ren_rt hS h hr)

theorem ren_agg (hS : ∀ p b, S p b → Se p b) {t t' : Row} {m m' : Nat} {v : Value} (h : RS ρ w S (.agg t) v) (hr : renRow src m t = some (t', m')) : RS (rho ρ src) w Se (.agg t') v := by
  cases h with
  | agg hn h =>
    obtain ⟨h1, h2⟩ := renRow_sound hr
    refine .agg (by omega) fun k t ht => ?_
    obtain ⟨t0, m1, m2, ht0, hren⟩ := h2 k t ht
    exact ren_rt hS (h k t0 ht0) hren

theorem liveSl_sound {g : Nat → Value} (hv : ∀ n v, lookup n σ.sl = some v → n < N ∧ RS ρ w S v (g n)) : ∀ {l : List Nat} {m : Nat} {sl : List (Nat × SV)}, liveSl σ src m l = some sl →
    ∀ n v', lookup n sl = some v' → n < N ∧ RS (rho ρ src) w S v' (g n)
  | [], m, sl, h, n, v', hl => by
    simp only [liveSl, Option.some.injEq] at h
    subst h
    simp [lookup] at hl
  | s :: r, m, sl, h, n, v', hl => by
    simp only [liveSl, Option.bind_eq_some_iff] at h
    obtain ⟨v, hlv, h⟩ := h
    obtain ⟨hN, hrs⟩ := hv s v hlv
    have cons : ∀ (x : SV) (m1 : Nat) (l' : List (Nat × SV)), RS (rho ρ src) w S x (g s) → liveSl σ src m1 r = some l' → sl = (s, x) :: l' → n < N ∧ RS (rho ρ src) w S v' (g n) := by
      intro x m1 l' hx hl' e
      subst e
      rw [lookup_cons] at hl
      split at hl
      · rename_i e
        subst e
        obtain rfl := Option.some.inj hl
        exact ⟨hN, hx⟩
      · exact liveSl_sound hv hl' n v' hl
    split at h
    · simp only [Option.bind_eq_some_iff, Option.some.injEq] at h
      obtain ⟨⟨t', m'⟩, hr, l', hl', rfl⟩ := h
      exact cons _ _ _ (ren_one (fun _ _ h => h) hrs hr) hl' rfl
    · simp only [Option.bind_eq_some_iff, Option.some.injEq] at h
      obtain ⟨⟨t', m'⟩, hr, l', hl', rfl⟩ := h
      exact cons _ _ _ (ren_agg (fun _ _ h => h) hrs hr) hl' rfl
    · simp only [Option.bind_eq_some_iff, Option.some.injEq] at h
      obtain ⟨l', hl', rfl⟩ := h
      have hu : RS (rho ρ src) w S .und (g s) := by
        generalize g s = u at hrs
        cases hrs
        exact .und
      exact cons .und m l' hu hl' rfl
    · simp at h

theorem Sim.canon (h : Sim w0 W S0 ρ0 nb N ρ S σ a w) {lv : List Nat} {σ' : St} (hc : canon nb lv σ = some σ') : ∃ ρ', Sim w0 W S0 ρ0 nb N ρ' S σ' a w := by
  unfold Zq.canon at hc
  simp only at hc
  obtain ⟨⟨hs, ht⟩, hc1⟩ := of_ite hc
  simp only [Option.bind_eq_some_iff, Option.some.injEq] at hc1
  obtain ⟨⟨hp', m'⟩, hb, sl, hsl, rfl⟩ := hc1
  exact ⟨_, h.ren hs ht hb (liveSl_sound h.slots hsl)⟩

/-- What a call hands back. -/
def Exit (w0 : World) (W : Nat → Nat → Prop) (S0 : Rds) (ρ0 : Rho) (nb : Nat) (res : SV) (hp' : List Blk) (u : Value) (w : World) : Prop :=
  ∃ ρ S, RS ρ w S res u ∧ Hp ρ w S hp' ∧ Keep W w0 w ∧ (∀ i L b o, live hp' i → ρ i = some L → L.has b o → W b o ∨ w0.heap.size ≤ b) ∧ (∀ p b, S p b → S0 p b ∨ w0.heap.size ≤ b) ∧ (∀ p b, S0 p b → S p b) ∧
    (∀ i, i < nb → ρ i = ρ0 i)

theorem renRes_sound (hS : ∀ p b, S p b → Se p b) : ∀ {l l' : List SV} {m : Nat} {us : List Value}, renRes src m l = some l' → us.length = l.length → (∀ (k : Nat) (v : SV) (u : Value), l[k]? = some v → us[k]? = some u → RS ρ w S v u) →
    l'.length = l.length ∧ ∀ (k : Nat) (v : SV) (u : Value), l'[k]? = some v → us[k]? = some u → RS (rho ρ src) w Se v u
  | [], l', m, us, h, _, _ => by
    simp only [renRes, Option.some.injEq] at h
    subst h
    exact ⟨rfl, fun k v u hv => by simp at hv⟩
  | x :: r, l', m, [], h, hl, _ => by simp at hl
  | x :: r, l', m, y :: us, h, hl, hrel => by
    have hx := hrel 0 x y rfl rfl
    have hl' : us.length = r.length := by simpa using hl
    have hrel' : ∀ (k : Nat) (v : SV) (u : Value), r[k]? = some v → us[k]? = some u → RS ρ w S v u := fun k v u hv hu => hrel (k + 1) v u (by simpa using hv) (by simpa using hu)
    have cons : ∀ (z : SV) (m1 : Nat) (r' : List SV), RS (rho ρ src) w Se z y → renRes src m1 r = some r' → l' = z :: r' → l'.length = (x :: r).length ∧ ∀ (k : Nat) (v : SV) (u : Value), l'[k]? = some v → (y :: us)[k]? = some u → RS (rho ρ src) w Se v u := by
      intro z m1 r' hz hr' e
      subst e
      obtain ⟨h1, h2⟩ := renRes_sound hS hr' hl' hrel'
      refine ⟨by simp [h1], fun k v u hv hu => ?_⟩
      cases k with
      | zero =>
        simp only [List.getElem?_cons_zero, Option.some.injEq] at hv hu
        subst hv hu
        exact hz
      | succ k => exact h2 k v u (by simpa using hv) (by simpa using hu)
    cases x with
    | one t =>
      simp only [renRes, Option.bind_eq_some_iff, Option.some.injEq] at h
      obtain ⟨⟨t', m'⟩, hr, r', hr', rfl⟩ := h
      exact cons _ _ _ (ren_one hS hx hr) hr' rfl
    | agg t =>
      simp only [renRes, Option.bind_eq_some_iff, Option.some.injEq] at h
      obtain ⟨⟨t', m'⟩, hr, r', hr', rfl⟩ := h
      exact cons _ _ _ (ren_agg hS hx hr) hr' rfl
    | _ => simp [renRes] at h

theorem Sim.leave (h : Sim w0 W S0 ρ0 nb N ρ S σ a w) {vs : List SV} {us : List Value} (hn : us.length = vs.length) (hv : ∀ (k : Nat) (v : SV) (u : Value), vs[k]? = some v → us[k]? = some u → RS ρ w S v u) {res : SV} {hp' : List Blk}
    (hl : leave nb σ vs = some (res, hp')) : Exit w0 W S0 ρ0 nb res hp' (match us with | [u] => u | us => .tuple us.toArray) w := by
  unfold Zq.leave at hl
  simp only at hl
  generalize gather σ.hp (List.foldl (visB σ.hp 0) (parBoxes σ.hp nb) (List.flatMap svCells vs)) (List.flatMap svCells vs) = src at hl
  obtain ⟨⟨hs, ht⟩, hl1⟩ := of_ite hl
  simp only [Option.bind_eq_some_iff, Option.some.injEq, Prod.mk.injEq] at hl1
  obtain ⟨⟨hp1, m'⟩, hb, vs', hvs', hres, rfl⟩ := hl1
  obtain ⟨h1, h2⟩ := rho_par h.heap hs ht
  obtain ⟨g1, g2⟩ := renRes_sound (fun _ _ h => h) hvs' hn hv
  refine ⟨rho ρ src, S, ?_, h.renHp hs hb, h.keep, fun i L b o _ hL ho => h.renOwn hs hb i L b o hL ho, h.sn, h.ss, fun i hi => (h1 i hi).trans (h.boxes i hi)⟩
  have tup : ∀ (vs' : List SV) (us : List Value), vs'.length = us.length → (∀ (k : Nat) (v : SV) (u : Value), vs'[k]? = some v → us[k]? = some u → RS (rho ρ src) w S v u) → RS (rho ρ src) w S (.tup vs') (.tuple us.toArray) := by
    intro vs' us hn hr
    refine .tup (by simpa using hn) fun k v hk => ?_
    have hlt : k < us.length := by rw [← hn]; exact (List.getElem?_eq_some_iff.1 hk).1
    have := hr k v us[k] hk (by simp)
    simpa [Array.getD_eq_getD_getElem?, hlt] using this
  match vs', us, (show vs'.length = us.length by omega), g2, hres with
  | [], [], hn, g2, hres => rw [← hres]; exact tup [] [] hn g2
  | [v], [u], hn, g2, hres => rw [← hres]; exact g2 0 v u rfl rfl
  | x :: y :: r, x' :: y' :: r', hn, g2, hres => rw [← hres]; exact tup _ _ hn g2

end
end Go.Zq
