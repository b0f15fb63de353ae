/- What a call leaves to its caller. -/
import Derived.Test.YtilfpkfifdhhdaaZqEnter
set_option linter.unusedVariables false
set_option linter.unusedSimpArgs false
namespace Go.Zq
open Go

section
variable {P : Program} {w0 : World} {W : Nat → Nat → Prop} {S0 : Rds} {ρ0 : Rho} {nb N : Nat} {ρ : Rho} {S Se : Rds} {σ : St} {a : Act} {w w' : World} {src : List Src} {hp hp' : List Blk}

theorem noLent_in {t : T} (h : inList t = true) : noLent t = true := by
  cases t <;> simp_all [inList, noLent]

/-- What reads for good what is laid for good. -/
theorem RI.perm {S2 : Rds} (hp : ∀ b, S true b → S2 true b) {t : T} {v : Value} (h : RI w S t v) : noLent t = true → RI w S2 t v := by
  induction h with
  | lit h => exact fun _ => .lit h
  | nls => exact fun _ => .nls
  | nil => exact fun _ => .nil
  | imm hb hcap hsz hin hg _ ih =>
    intro hn
    rename_i p rows b off cap sz g _
    obtain rfl : p = true := hn
    refine .imm (hp _ hb) hcap hsz hin hg fun j k t ht => ih j k t ht (noLent_in ?_)
    obtain ⟨r, hr, hk⟩ := bind_get ht
    exact List.all_eq_true.1 (hin r (List.mem_of_getElem? hr)) t (List.mem_of_getElem? hk)

theorem Keep.same {W : Nat → Nat → Prop} (h : Keep W w w') {b : Nat} (hb : b < w.heap.size) (hn : ∀ o, ¬ W b o) : w'.heap[b]? = w.heap[b]? := by
  have hx : w.heap[b]? = some w.heap[b] := by simp [hb]
  generalize w.heap[b] = x at hx
  rw [hx]
  by_cases hc : ∃ c e z, x = .cells c e z
  · obtain ⟨c, e, z, rfl⟩ := hc
    obtain ⟨c', h1, h2, h3⟩ := h.cells b c e z hx
    rw [h1]
    congr 2
    apply Array.ext_getElem?
    intro i
    exact h3 i (hn i)
  · exact h.other b x hx (fun c e z he => hc ⟨c, e, z, he⟩)

theorem Keep.shape {W : Nat → Nat → Prop} (h : Keep W w w') {b : Nat} {e : TypeId} {n : Nat} (hs : w.shape? b = some (e, n)) : w'.shape? b = some (e, n) := by
  simp only [World.shape?] at hs
  cases hx : w.heap[b]? with
  | none => simp [hx] at hs
  | some x =>
    cases x with
    | cells c e' z =>
      obtain ⟨c', h1, h2, h3⟩ := h.cells b c e' z hx
      simp only [hx, Option.some.injEq, Prod.mk.injEq] at hs
      simp only [World.shape?, h1, Option.some.injEq, Prod.mk.injEq]
      exact ⟨hs.1, h2.trans hs.2⟩
    | _ => simp [hx] at hs

theorem Keep.cell {W : Nat → Nat → Prop} (h : Keep W w w') {b o : Nat} {u : Value} (hu : w.cell? ⟨b, o, none⟩ = some u) (hn : ¬ W b o) : w'.cell? ⟨b, o, none⟩ = some u := by
  obtain ⟨c, e, z, hc, hv⟩ := cell_obj hu
  obtain ⟨c', h1, h2, h3⟩ := h.cells b c e z hc
  rw [cell_cells h1, h3 o hn]
  exact hv

theorem Keep.weaken {W W' : Nat → Nat → Prop} (h : Keep W w w') (hw : ∀ b o, W b o → W' b o) : Keep W' w w' :=
  ⟨h.os, h.tape, h.output, h.size, fun b c e z hc => by
    obtain ⟨c', h1, h2, h3⟩ := h.cells b c e z hc
    exact ⟨c', h1, h2, fun o ho => h3 o (fun hh => ho (hw b o hh))⟩, h.other⟩

/-- The caller's numbers behind the call. -/
def rho2 (ρ ρ' : Rho) (len nb : Nat) : Rho := fun j => if j < len then ρ j else ρ' (nb + (j - len))

/-- What may be read behind the call. -/
def afterS (S S' : Rds) (bor : Bool) : Rds := fun p b => if bor = true then S p b ∨ S' true b else S' p b

theorem instP_sound {nbe base : Nat} {t t' : T} (h : instP src nbe base t = some t') : ∃ j row off, t = .ptr j row off ∧
    ((j < nbe ∧ row = 0 ∧ ∃ id o n, src[j]? = some (.box id o n) ∧ t' = .ptr id 0 (o + off)) ∨ (nbe ≤ j ∧ t' = .ptr (base + (j - nbe)) row off)) := by
  unfold instP at h
  split at h
  · rename_i j row off
    refine ⟨j, row, off, rfl, ?_⟩
    split at h
    · rename_i hj
      split at h
      · rename_i id o n hs
        obtain ⟨h0, h1⟩ := of_ite h
        exact .inl ⟨hj, h0, id, o, n, hs, (Option.some.inj h1).symm⟩
      · simp at h
    · rename_i hj
      exact .inr ⟨by omega, (Option.some.inj h).symm⟩
  · simp at h

theorem instPs_sound {nbe base : Nat} : ∀ {l l' : List T}, instPs src nbe base l = some l' → l'.length = l.length ∧ ∀ (k : Nat) (t' : T), l'[k]? = some t' → ∃ t, l[k]? = some t ∧ instP src nbe base t = some t'
  | [], l', h => by
    simp only [instPs, Option.some.injEq] at h
    subst h
    exact ⟨rfl, fun k t h => by simp at h⟩
  | t :: r, l', h => by
    simp only [instPs, Option.bind_eq_some_iff, Option.some.injEq] at h
    obtain ⟨t1, h1, r1, h2, rfl⟩ := h
    obtain ⟨h3, h4⟩ := instPs_sound h2
    refine ⟨by simp [h3], fun k t' ht' => ?_⟩
    cases k with
    | zero =>
      simp only [List.getElem?_cons_zero, Option.some.injEq] at ht'
      subst ht'
      exact ⟨t, rfl, h1⟩
    | succ k => exact h4 k t' (by simpa using ht')

theorem instRow_sound {nbe base : Nat} : ∀ {l l' : Row}, instRow src nbe base l = some l' → l'.length = l.length ∧ ∀ (k : Nat) (t' : T), l'[k]? = some t' → ∃ t, l[k]? = some t ∧ inst src nbe base t = some t'
  | [], l', h => by
    simp only [instRow, Option.some.injEq] at h
    subst h
    exact ⟨rfl, fun k t h => by simp at h⟩
  | t :: r, l', h => by
    simp only [instRow, Option.bind_eq_some_iff, Option.some.injEq] at h
    obtain ⟨t1, h1, r1, h2, rfl⟩ := h
    obtain ⟨h3, h4⟩ := instRow_sound h2
    refine ⟨by simp [h3], fun k t' ht' => ?_⟩
    cases k with
    | zero =>
      simp only [List.getElem?_cons_zero, Option.some.injEq] at ht'
      subst ht'
      exact ⟨t, rfl, h1⟩
    | succ k => exact h4 k t' (by simpa using ht')

theorem instBlks_sound {nbe base : Nat} : ∀ {l l' : List Blk}, instBlks src nbe base l = some l' → l'.length = l.length ∧ ∀ (k : Nat) (x' : Blk), l'[k]? = some x' → ∃ x, l[k]? = some x ∧ instBlk src nbe base x = some x'
  | [], l', h => by
    simp only [instBlks, Option.some.injEq] at h
    subst h
    exact ⟨rfl, fun k t h => by simp at h⟩
  | t :: r, l', h => by
    simp only [instBlks, Option.bind_eq_some_iff, Option.some.injEq] at h
    obtain ⟨t1, h1, r1, h2, rfl⟩ := h
    obtain ⟨h3, h4⟩ := instBlks_sound h2
    refine ⟨by simp [h3], fun k t' ht' => ?_⟩
    cases k with
    | zero =>
      simp only [List.getElem?_cons_zero, Option.some.injEq] at ht'
      subst ht'
      exact ⟨t, rfl, h1⟩
    | succ k => exact h4 k t' (by simpa using ht')

/-- What the two worlds have to do with each other behind the call. -/
structure Ctx (ρ : Rho) (w : World) (S : Rds) (hp : List Blk) (src : List Src) (bor : Bool) (ρ' : Rho) (S' : Rds) (nbe : Nat) (w' : World) : Prop where
  fr : ∀ j, hp.length ≤ j → ρ j = none
  boxes : ∀ i, i < nbe → ρ' i = rho ρ src i

theorem inst_rt {bor : Bool} {ρ' : Rho} {S' : Rds} {nbe : Nat} (c : Ctx ρ w S hp src bor ρ' S' nbe w') {t t' : T} {v : Value} (h : RT ρ' w' S' t v) (hi : inst src nbe hp.length t = some t') (hl : bor = true → noLent t = true) :
    RT (rho2 ρ ρ' hp.length nbe) w' (afterS S S' bor) t' v := by
  have old : ∀ i L, ρ i = some L → rho2 ρ ρ' hp.length nbe i = some L := fun i L hL => by
    unfold rho2
    rw [if_pos]
    · exact hL
    · by_cases hlt : i < hp.length
      · exact hlt
      · rw [c.fr i (by omega)] at hL; simp at hL
  have new : ∀ j, nbe ≤ j → rho2 ρ ρ' hp.length nbe (hp.length + (j - nbe)) = ρ' j := fun j hj => by
    unfold rho2
    rw [if_neg (by omega)]
    congr 1
    omega
  have hri : ∀ {t : T} {v : Value}, RI w' S' t v → (bor = true → noLent t = true) → RI w' (afterS S S' bor) t v := fun {t} {v} hr hn => by
    cases hb : bor with
    | true => exact hr.perm (fun b hb => by simp [afterS, hb]) (hn hb)
    | false => exact hr.mono (fun p b hb => by simpa [afterS] using hb) (fun _ _ _ => rfl)
  have hptr : ∀ {j row off : Nat} {t' : T} {L : Loc}, ρ' j = some L → instP src nbe hp.length (.ptr j row off) = some t' →
      ∃ id row' off' L', t' = .ptr id row' off' ∧ rho2 ρ ρ' hp.length nbe id = some L' ∧ L'.blk = L.blk ∧ L'.base + row' * L'.sz + off' = L.base + row * L.sz + off := by
    intro j row off t' L hL hh
    obtain ⟨j', row', off', e, hc⟩ := instP_sound hh
    simp only [T.ptr.injEq] at e
    obtain ⟨rfl, rfl, rfl⟩ := e
    rcases hc with ⟨hj, rfl, id, o, n, hs, rfl⟩ | ⟨hj, rfl⟩
    · rw [c.boxes j hj] at hL
      simp only [rho, hs, Option.map_eq_some_iff] at hL
      obtain ⟨L0, hL0, rfl⟩ := hL
      exact ⟨id, 0, o + off, L0, rfl, old id L0 hL0, rfl, by simp; omega⟩
    · exact ⟨_, row, off, L, rfl, by rw [new j hj]; exact hL, rfl, rfl⟩
  cases t with
  | lit x =>
    simp only [inst, Option.some.injEq] at hi
    subst hi
    cases h with
    | ri h => exact .ri (hri h hl)
  | nls n =>
    simp only [inst, Option.some.injEq] at hi
    subst hi
    cases h with
    | ri h => exact .ri (hri h hl)
  | imm p n rows =>
    simp only [inst, Option.some.injEq] at hi
    subst hi
    cases h with
    | ri h => exact .ri (hri h hl)
  | ip cells =>
    simp only [inst, Option.some.injEq] at hi
    subst hi
    cases bor with
    | true => simp [noLent] at hl
    | false =>
      have hS : ∀ p b, S' p b → afterS S S' false p b := fun p b hb => by simpa [afterS] using hb
      cases h with
      | ri h => cases h
      | ip hb hg h => exact .ip (hS _ _ hb) hg (fun k t ht => (h k t ht).mono hS (fun _ _ _ => rfl))
  | sl j off len =>
    simp only [inst] at hi
    obtain ⟨hj, hi1⟩ := of_ite hi
    obtain rfl := Option.some.inj hi1
    cases h with
    | ri h => cases h
    | nil => exact .nil
    | sl hL hc hs ha => exact .sl (by rw [new j hj]; exact hL) hc hs ha
  | ptr j row off =>
    cases h with
    | ri h => cases h
    | ptr hL =>
      rename_i L
      obtain ⟨id, row', off', L', rfl, hL', e1, e2⟩ := hptr hL hi
      have := RT.ptr (w := w') (S := afterS S S' bor) (row := row') (off := off') hL'
      rwa [e1, e2] at this
  | clo f caps =>
    simp only [inst, Option.bind_eq_some_iff, Option.some.injEq] at hi
    obtain ⟨caps', hc, rfl⟩ := hi
    cases h with
    | ri h => cases h
    | clo hn h =>
      obtain ⟨h1, h2⟩ := instPs_sound hc
      refine .clo (by omega) fun k t' ht' => ?_
      obtain ⟨t, ht, hit⟩ := h2 k t' ht'
      obtain ⟨j, row, off, L, rfl, hL, hv⟩ := h k t ht
      obtain ⟨id, row', off', L', rfl, hL', e1, e2⟩ := hptr hL hit
      exact ⟨id, row', off', L', rfl, hL', by rw [hv, e1, e2]⟩

end
end Go.Zq
