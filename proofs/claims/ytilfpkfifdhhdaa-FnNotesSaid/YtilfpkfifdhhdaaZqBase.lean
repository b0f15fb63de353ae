/- First facts on the relation: what stays as the world goes on. -/
import Derived.Test.YtilfpkfifdhhdaaZqRel
import Derived.Laws.Sem
import Derived.Laws.World
set_option linter.unusedVariables false
set_option linter.unusedSimpArgs false
namespace Go.Zq
open Go

/-- The world w' reads at S as w does. -/
def Same (S : Rds) (w w' : World) : Prop := ∀ p b, S p b → w'.heap[b]? = w.heap[b]?

theorem cell_of_heap {w w' : World} {b : Nat} (h : w'.heap[b]? = w.heap[b]?) (o : Nat) : w'.cell? ⟨b, o, none⟩ = w.cell? ⟨b, o, none⟩ := by
  simp only [World.cell?, h]

theorem shape_of_heap {w w' : World} {b : Nat} (h : w'.heap[b]? = w.heap[b]?) : w'.shape? b = w.shape? b := by
  simp only [World.shape?, h]

theorem RI.mono {w w' : World} {S S' : Rds} {t : T} {v : Value} (h : RI w S t v) (hS : ∀ p b, S p b → S' p b) (hw : Same S w w') : RI w' S' t v := by
  induction h with
  | lit h => exact .lit h
  | nls => exact .nls
  | nil => exact .nil
  | imm hb hcap hsz hin hg _ ih =>
    exact .imm (hS _ _ hb) hcap hsz hin (fun j k t ht => by rw [cell_of_heap (hw _ _ hb)]; exact hg j k t ht) (fun j k t ht => ih j k t ht)

/-- Each block that a number leads to keeps its shape. -/
def Shp (ρ : Rho) (w w' : World) : Prop := ∀ i L e n, ρ i = some L → w.shape? L.blk = some (e, n) → w'.shape? L.blk = some (e, n)

theorem RT.mono {ρ ρ' : Rho} {w w' : World} {S S' : Rds} {t : T} {v : Value} (h : RT ρ w S t v) (hρ : ∀ i L, ρ i = some L → ρ' i = some L)
    (hS : ∀ p b, S p b → S' p b) (hw : Same S w w') (hs : Shp ρ w w') : RT ρ' w' S' t v := by
  cases h with
  | ri h => exact .ri (h.mono hS hw)
  | ptr h => exact .ptr (hρ _ _ h)
  | nil => exact .nil
  | sl h hc hsh ha => exact .sl (hρ _ _ h) hc (hs _ _ _ _ h hsh) ha
  | ip hb hg h => exact .ip (hS _ _ hb) (fun k t ht => by rw [cell_of_heap (hw _ _ hb)]; exact hg k t ht) (fun k t ht => (h k t ht).mono hS hw)
  | clo hn h => exact .clo hn (fun k t ht => by obtain ⟨id, row, off, L, e, hl, hv⟩ := h k t ht; exact ⟨id, row, off, L, e, hρ _ _ hl, hv⟩)

theorem RS.mono {ρ ρ' : Rho} {w w' : World} {S S' : Rds} {s : SV} {v : Value} (h : RS ρ w S s v) (hρ : ∀ i L, ρ i = some L → ρ' i = some L)
    (hS : ∀ p b, S p b → S' p b) (hw : Same S w w') (hs : Shp ρ w w') : RS ρ' w' S' s v := by
  induction h with
  | und => exact .und
  | one h => exact .one (h.mono hρ hS hw hs)
  | agg hn h => exact .agg hn (fun k t ht => (h k t ht).mono hρ hS hw hs)
  | tup hn _ ih => exact .tup hn ih

theorem RT.one {ρ : Rho} {w : World} {S : Rds} {t : T} {v : Value} (h : RT ρ w S t v) : v.cells = #[v] ∧ (∀ c, v ≠ .agg c) ∧ ∀ c, v ≠ .tuple c := by
  cases h with
  | ri h => cases h with
    | lit h => cases v <;> simp_all [litOk, Value.cells]
    | _ => simp [Value.cells]
  | _ => simp [Value.cells]

/-- The cells of a slot's value. -/
theorem RS.cells {ρ : Rho} {w : World} {S : Rds} {s : SV} {v : Value} {cs : Row} (h : RS ρ w S s v) (hc : s.cells = some cs) :
    cs.length = v.cells.size ∧ ∀ (k : Nat) (t : T), cs[k]? = some t → ∃ u, v.cells[k]? = some u ∧ RT ρ w S t u := by
  cases h with
  | und => simp [SV.cells] at hc
  | tup => simp [SV.cells] at hc
  | one h =>
    simp only [SV.cells, Option.some.injEq] at hc
    subst hc
    obtain ⟨h1, -, -⟩ := h.one
    rw [h1]
    refine ⟨rfl, fun k t ht => ?_⟩
    cases k with
    | zero => simp at ht; subst ht; exact ⟨v, by simp, h⟩
    | succ k => simp at ht
  | agg hn h =>
    rename_i ts vs
    simp only [SV.cells, Option.some.injEq] at hc
    subst hc
    refine ⟨by simpa [Value.cells] using hn, fun k t ht => ?_⟩
    have hk : k < vs.size := by rw [← hn]; exact (List.getElem?_eq_some_iff.1 ht).1
    have := h k t ht
    simp only [Value.cells]
    exact ⟨vs[k], by simp [hk], by simpa [hk] using this⟩

theorem Addr.add_at {a : Addr} (h : a.spot = none) (n : Nat) : a.add n = ⟨a.block, a.off + n, none⟩ := by
  obtain ⟨b, o, s⟩ := a
  simp only at h
  subst h
  unfold Addr.add
  split
  · simp_all
  · rfl

/-- What is read at an address. -/
theorem cellsAt_sound {ρ : Rho} {w : World} {S : Rds} {hp : List Blk} {t : T} {v : Value} {cs : Row} (h : RT ρ w S t v) (hh : Hp ρ w S hp) (hc : cellsAt hp t = some cs) :
    ∃ b o, v = .pointer (some ⟨b, o, none⟩) ∧ ∀ (k : Nat) (t : T), cs[k]? = some t → ∃ u, w.cell? ⟨b, o + k, none⟩ = some u ∧ RT ρ w S t u := by
  cases h with
  | ri h => cases h <;> simp [cellsAt] at hc
  | nil => simp [cellsAt] at hc
  | sl => simp [cellsAt] at hc
  | clo => simp [cellsAt] at hc
  | ip hb hg h =>
    rename_i cells b o p g
    simp only [cellsAt, Option.some.injEq] at hc
    subst hc
    exact ⟨b, o, rfl, fun k t ht => ⟨_, hg k t ht, .ri (h k t ht)⟩⟩
  | ptr hl =>
    rename_i id row off L
    simp only [cellsAt] at hc
    cases hx : hp[id]? with
    | none => simp [hx] at hc
    | some x =>
      have hb := hh.br id x hx
      cases x with
      | dead => simp [hx] at hc
      | box cells =>
        simp only [hx] at hc
        split at hc
        · rename_i h0
          subst h0
          simp only [Option.some.injEq] at hc
          subst hc
          obtain ⟨M, hM, -, hr⟩ := hb
          rw [hl] at hM
          obtain rfl : L = M := by simpa using hM
          refine ⟨L.blk, L.base + 0 * L.sz + off, rfl, fun k t ht => ?_⟩
          have := hr.cell 0 (off + k) t (by simpa [List.getElem?_drop] using ht)
          obtain ⟨u, hu, hr⟩ := this
          exact ⟨u, by rw [← hu, Nat.add_assoc], hr⟩
        · simp at hc
      | lst sz rows =>
        simp only [hx] at hc
        rcases hb with ⟨-, he⟩ | ⟨M, hM, -, -, -, hr, -⟩
        · simp [he] at hc
        rw [hl] at hM
        obtain rfl : L = M := by simpa using hM
        cases hrow : rows[row]? with
        | none => simp [hrow] at hc
        | some r =>
          simp only [hrow, Option.map_some, Option.some.injEq] at hc
          subst hc
          refine ⟨L.blk, L.base + row * L.sz + off, rfl, fun k t ht => ?_⟩
          have := hr.cell row (off + k) t (by simpa [hrow, List.getElem?_drop] using ht)
          obtain ⟨u, hu, hr⟩ := this
          exact ⟨u, by rw [← hu, Nat.add_assoc], hr⟩

/-- The value of cells that are read. -/
theorem SV.of_sound {ρ : Rho} {w : World} {S : Rds} {cs : Row} {n : Option Nat} {s : SV} {g : Nat → Value} (ho : SV.of n cs = some s)
    (h : ∀ (k : Nat) (t : T), cs[k]? = some t → RT ρ w S t (g k)) :
    match n with
    | none => RS ρ w S s (g 0)
    | some n => n ≤ cs.length ∧ RS ρ w S s (.agg ((Array.range n).map g)) := by
  cases n with
  | none =>
    cases cs with
    | nil => simp [SV.of] at ho
    | cons t r =>
      simp only [SV.of, Option.some.injEq] at ho
      subst ho
      exact .one (h 0 t rfl)
  | some n =>
    simp only [SV.of] at ho
    split at ho
    · rename_i hn
      simp only [Option.some.injEq] at ho
      subst ho
      refine ⟨hn, .agg (by simp [Nat.min_eq_left hn]) fun k t ht => ?_⟩
      have hk : k < n := by
        have := (List.getElem?_eq_some_iff.1 ht).1
        simp at this
        omega
      have : cs[k]? = some t := by rw [List.getElem?_take_of_lt hk] at ht; exact ht
      simpa [hk] using h k t this
    · simp at ho

end Go.Zq
