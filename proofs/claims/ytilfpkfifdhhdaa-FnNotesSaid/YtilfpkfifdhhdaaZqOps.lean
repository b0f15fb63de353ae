/- Each operation keeps the relation: those that call nothing. -/
import Derived.Test.YtilfpkfifdhhdaaZqSim2
import Derived.Test.YtilfpkfifdhhdaaZqComp
set_option linter.unusedVariables false
set_option linter.unusedSimpArgs false
namespace Go.Zq
open Go

section
variable {P : Program} {w0 : World} {W : Nat → Nat → Prop} {S0 : Rds} {ρ0 : Rho} {nb N : Nat} {ρ : Rho} {S : Rds} {σ : St} {a : Act} {w : World}

theorem litCell_sound {c : Option Nat} {v : Value} {t : T} (h : litCell c v = some t) : RI w S t v := by
  unfold litCell at h
  split at h
  · obtain rfl := by simpa using h
    exact .nls
  · split at h
    · rename_i hl
      obtain rfl := by simpa using h
      exact .lit hl
    · simp at h
  · simp at h

theorem litRow_sound : ∀ {cs : List (Option Nat)} {vs : List Value} {r : Row}, litRow cs vs = some r → r.length = vs.length ∧ ∀ (k : Nat) (t : T), r[k]? = some t → ∃ v, vs[k]? = some v ∧ RI w S t v := by
  intro cs
  induction cs with
  | nil =>
    intro vs r h
    cases vs with
    | nil => obtain rfl : [] = r := by simpa [litRow] using h
             exact ⟨rfl, fun k t ht => by simp at ht⟩
    | cons => simp [litRow] at h
  | cons c cs ih =>
    intro vs r h
    cases vs with
    | nil => simp [litRow] at h
    | cons v vs =>
      simp only [litRow, Option.bind_eq_some_iff] at h
      obtain ⟨t, ht, r', hr', h⟩ := h
      obtain rfl := by simpa using h
      obtain ⟨h1, h2⟩ := ih hr'
      refine ⟨by simp [h1], fun k u hu => ?_⟩
      cases k with
      | zero => obtain rfl := by simpa using hu
                exact ⟨v, rfl, litCell_sound ht⟩
      | succ k => exact h2 k u (by simpa using hu)

theorem constSV_sound {t : TypeId} {v : Value} {s : SV} (h : constSV P t v = some s) : RS ρ w S s v := by
  unfold constSV at h
  split at h
  · rename_i cs
    simp only [Option.bind_eq_some_iff] at h
    obtain ⟨c, -, r, hr, h⟩ := h
    obtain rfl := by simpa using h
    obtain ⟨h1, h2⟩ := litRow_sound (w := w) (S := S) hr
    refine .agg (by simpa using h1) fun k t ht => ?_
    obtain ⟨u, hu, hru⟩ := h2 k t ht
    have : cs.getD k undef = u := by
      have := hu
      simp only [Array.getElem?_toList] at this
      simp [Array.getD_eq_getD_getElem?, this]
    rw [this]
    exact .ri hru
  · split at h
    · rename_i hh
      obtain ⟨rfl, rfl⟩ := hh
      obtain rfl := by simpa using h
      exact .one (.clo rfl (fun k t ht => by simp at ht))
    · simp at h
  · simp only [Option.bind_eq_some_iff] at h
    obtain ⟨c, -, h⟩ := h
    split at h
    · simp only [Option.bind_eq_some_iff] at h
      obtain ⟨t, ht, h⟩ := h
      obtain rfl := by simpa using h
      exact .one (.ri (litCell_sound ht))
    · simp at h

theorem slot_sound (h : Sim w0 W S0 ρ0 nb N ρ S σ a w) {n : Nat} {v : SV} (he : σ.ev (.t n) = some v) : RS ρ w S v (a.eval (.tmp n)) := (h.slots n v he).2

theorem ev_sound (h : Sim w0 W S0 ρ0 nb N ρ S σ a w) {t : TypeId} {x : Operand} {y : Opd} {v : SV} (ho : opd P N t x = some y) (he : σ.ev y = some v) : RS ρ w S v (a.eval x) := by
  cases x with
  | tmp n =>
    simp only [opd] at ho
    split at ho
    · obtain rfl := by simpa using ho
      exact slot_sound h he
    · simp at ho
  | const c =>
    simp only [opd, Option.map_eq_some_iff] at ho
    obtain ⟨s, hs, rfl⟩ := ho
    obtain rfl : s = v := by simpa [St.ev] using he
    exact constSV_sound hs
  | func f =>
    simp only [opd, Option.some.injEq] at ho
    subst ho
    obtain rfl := by simpa [St.ev] using he
    exact .one (.clo rfl (fun k t ht => by simp at ht))
  | global g => simp [opd] at ho

theorem evI_sound (h : Sim w0 W S0 ρ0 nb N ρ S σ a w) {x : Operand} {y : Opd} {v : SV} (ho : opdI N x = some y) (he : σ.ev y = some v) : RS ρ w S v (a.eval x) := by
  unfold opdI at ho
  split at ho
  · split at ho
    · obtain rfl := by simpa using ho
      exact slot_sound h he
    · simp at ho
  · obtain rfl := by simpa using ho
    obtain rfl := by simpa [St.ev] using he
    exact .one (.ri (.lit rfl))
  · simp at ho

theorem asInt_sound {s : SV} {v : Value} {x : IntKind × Int} (h : RS ρ w S s v) (hx : asInt s = some x) : v = .int x.1 x.2 := by
  unfold asInt at hx
  split at hx
  · obtain rfl := by simpa using hx
    cases h with
    | one h => cases h with
      | ri h => cases h; rfl
  · simp at hx

theorem asBool_sound {s : SV} {v : Value} {x : Bool} (h : RS ρ w S s v) (hx : asBool s = some x) : v = .bool x := by
  unfold asBool at hx
  split at hx
  · obtain rfl := by simpa using hx
    cases h with
    | one h => cases h with
      | ri h => cases h; rfl
  · simp at hx

theorem asLit_sound {s : SV} {v : Value} {x : Value} (h : RS ρ w S s v) (hx : asLit s = some x) : v = x ∧ litOk x = true := by
  unfold asLit at hx
  split at hx
  · obtain rfl := by simpa using hx
    cases h with
    | one h => cases h with
      | ri h => cases h with
        | lit h => exact ⟨rfl, h⟩
  · simp at hx

theorem asOne_sound {s : SV} {v : Value} {t : T} (h : RS ρ w S s v) (hx : asOne s = some t) : RT ρ w S t v := by
  unfold asOne at hx
  split at hx
  · obtain rfl := by simpa using hx
    cases h with
    | one h => exact h
  · simp at hx

/-- A cell that may lie in a list is one that nobody writes. -/
theorem RT.inList {t : T} {v : Value} (h : RT ρ w S t v) (hi : inList t = true) : RI w S t v := by
  cases h with
  | ri h => exact h
  | _ => simp [Zq.inList] at hi

theorem RI.lits {t : T} {v : Value} (h : RI w S t v) : RT ρ w S t v := .ri h

end
end Go.Zq
