/- The model's loads and stores of several cells; how the relation stands behind an allocation and behind a store. -/
import Derived.Test.YtilfpkfifdhhdaaZqBase
set_option linter.unusedVariables false
set_option linter.unusedSimpArgs false
namespace Go.Zq
open Go

section
variable {P : Program} {w : World}

theorem run_loadCellsFrom {b o : Nat} {g : Nat → Value} : ∀ (n i : Nat) (acc : Array Value), (∀ k, i ≤ k → k < i + n → w.cell? ⟨b, o + k, none⟩ = some (g k)) →
    (loadCellsFrom ⟨b, o, none⟩ i n acc).run P w = .ok (acc ++ ((Array.range n).map fun k => g (i + k))) w := by
  intro n
  induction n with
  | zero => intro i acc _; simp [loadCellsFrom]
  | succ n ih =>
    intro i acc h
    have h0 : w.cell? ((⟨b, o, none⟩ : Addr).add i) = some (g i) := by
      rw [Addr.add_at rfl]; exact h i (Nat.le_refl _) (by omega)
    simp only [loadCellsFrom, Sem.run_bind, run_load, h0, Result.andThen_ok]
    rw [ih (i + 1) _ fun k hk hk' => h k (by omega) (by omega)]
    congr 1
    apply Array.toList_inj.1
    simp only [Array.toList_append, Array.toList_push, Array.toList_map, Array.toList_range, List.append_assoc, List.range_succ_eq_map, List.map_cons, List.map_map]
    simp [Function.comp_def, Nat.add_assoc, Nat.add_comm 1]

theorem run_loadCells {b o n : Nat} {g : Nat → Value} (h : ∀ k, k < n → w.cell? ⟨b, o + k, none⟩ = some (g k)) :
    (loadCells ⟨b, o, none⟩ n).run P w = .ok ((Array.range n).map g) w := by
  unfold loadCells
  rw [run_loadCellsFrom n 0 #[] fun k _ hk => h k (by omega)]
  simp

theorem cell_cells {w : World} {b : Nat} {c : Array Value} {e : TypeId} {z : Nat × Nat} (h : w.heap[b]? = some (.cells c e z)) (o : Nat) : w.cell? ⟨b, o, none⟩ = c[o]? := by
  simp [World.cell?, h]

theorem cell_obj {w : World} {b o : Nat} {u : Value} (h : w.cell? ⟨b, o, none⟩ = some u) : ∃ c e z, w.heap[b]? = some (.cells c e z) ∧ c[o]? = some u := by
  simp only [World.cell?] at h
  cases hx : w.heap[b]? with
  | none => simp [hx] at h
  | some x => cases x <;> simp [hx] at h; exact ⟨_, _, _, rfl, h⟩

/-- The world w' is w with the cells vs written from a place on. -/
structure Wrote (w w' : World) (b off : Nat) (vs : List Value) : Prop where
  os : w'.os = w.os
  tape : w'.tape = w.tape
  output : w'.output = w.output
  size : w'.heap.size = w.heap.size
  other : ∀ k, k ≠ b → w'.heap[k]? = w.heap[k]?
  obj : ∀ (x : Obj), w.heap[b]? = some x → (∀ c e z, x ≠ Obj.cells c e z) → w'.heap[b]? = some x
  here : ∀ c e z, w.heap[b]? = some (.cells c e z) → ∃ c', w'.heap[b]? = some (.cells c' e z) ∧ c'.size = c.size ∧
    ∀ o, c'[o]? = if off ≤ o ∧ o < off + vs.length ∧ o < c.size then vs[o - off]? else c[o]?

theorem Wrote.refl (w : World) (b off : Nat) : Wrote w w b off [] :=
  ⟨rfl, rfl, rfl, rfl, fun _ _ => rfl, fun _ h _ => h, fun c e z h => ⟨c, h, rfl, fun o => by rw [if_neg (by simp; omega)]⟩⟩

theorem setCell_wrote (w : World) (b off : Nat) (v : Value) : Wrote w (w.setCell ⟨b, off, none⟩ v) b off [v] := by
  refine ⟨rfl, rfl, rfl, by simp [World.setCell], fun k hk => ?_, fun x hx hn => ?_, fun c e z h => ?_⟩
  · simp only [World.setCell, Array.getElem?_modify]
    rw [if_neg (by omega)]
  · simp only [World.setCell, Array.getElem?_modify, if_true, hx, Option.map_some]
  · refine ⟨c.setIfInBounds off v, ?_, by simp, fun o => ?_⟩
    · simp [World.setCell, Array.getElem?_modify, h]
    rw [Array.getElem?_setIfInBounds]
    by_cases ho : off = o
    · subst ho
      by_cases hs : off < c.size <;> simp [hs]
    · rw [if_neg ho, if_neg (by simp; omega)]

theorem Wrote.trans {w w1 w2 : World} {b off : Nat} {v : Value} {vs : List Value} (h : Wrote w w1 b off [v]) (k : Wrote w1 w2 b (off + 1) vs) : Wrote w w2 b off (v :: vs) := by
  refine ⟨k.os.trans h.os, k.tape.trans h.tape, k.output.trans h.output, k.size.trans h.size, fun i hi => (k.other i hi).trans (h.other i hi),
    fun x hx hn => k.obj x (h.obj x hx hn) hn, fun c e z hc => ?_⟩
  obtain ⟨c1, h1, hs1, hv1⟩ := h.here c e z hc
  obtain ⟨c2, h2, hs2, hv2⟩ := k.here c1 e z h1
  refine ⟨c2, h2, hs2.trans hs1, fun o => ?_⟩
  rw [hv2, hv1, hs1]
  simp only [List.length_cons, List.length_nil, Nat.zero_add]
  by_cases h3 : off + 1 ≤ o ∧ o < off + 1 + vs.length ∧ o < c.size
  · rw [if_pos h3, if_pos (by omega)]
    obtain ⟨j, rfl⟩ : ∃ j, o = off + 1 + j := ⟨o - (off + 1), by omega⟩
    rw [show off + 1 + j - (off + 1) = j by omega, show off + 1 + j - off = j + 1 by omega, List.getElem?_cons_succ]
  · rw [if_neg h3]
    by_cases h4 : off ≤ o ∧ o < off + 1 ∧ o < c.size
    · rw [if_pos h4, if_pos (by omega)]
      obtain rfl : o = off := by omega
      simp
    · rw [if_neg h4, if_neg (by omega)]

/-- Cells that were not written read as they did. -/
theorem Wrote.cell {w w' : World} {b off : Nat} {vs : List Value} (h : Wrote w w' b off vs) {k o : Nat} {u : Value} (hu : w.cell? ⟨k, o, none⟩ = some u)
    (hne : k ≠ b ∨ o < off ∨ off + vs.length ≤ o) : w'.cell? ⟨k, o, none⟩ = some u := by
  obtain ⟨c, e, z, hc, hv⟩ := cell_obj hu
  by_cases hk : k = b
  · subst hk
    obtain ⟨c', h', -, hv'⟩ := h.here c e z hc
    rw [cell_cells h', hv', if_neg (by omega)]
    exact hv
  · rw [cell_of_heap (h.other k hk)]; exact hu

/-- Cells that were written. -/
theorem Wrote.new {w w' : World} {b off : Nat} {vs : List Value} (h : Wrote w w' b off vs) {c : Array Value} {e : TypeId} {z : Nat × Nat} (hc : w.heap[b]? = some (.cells c e z))
    (hs : off + vs.length ≤ c.size) {k : Nat} {u : Value} (hu : vs[k]? = some u) : w'.cell? ⟨b, off + k, none⟩ = some u := by
  obtain ⟨c', h', -, hv⟩ := h.here c e z hc
  have hk : k < vs.length := (List.getElem?_eq_some_iff.1 hu).1
  rw [cell_cells h', hv, if_pos (by omega), show off + k - off = k by omega]
  exact hu

theorem Wrote.shape {w w' : World} {b off : Nat} {vs : List Value} (h : Wrote w w' b off vs) {k : Nat} {e : TypeId} {n : Nat} (hs : w.shape? k = some (e, n)) : w'.shape? k = some (e, n) := by
  by_cases hk : k = b
  · subst hk
    simp only [World.shape?] at hs ⊢
    cases hx : w.heap[k]? with
    | none => simp [hx] at hs
    | some x =>
      cases x with
      | cells c e' z =>
        obtain ⟨c', h', hs', -⟩ := h.here c e' z hx
        simp only [hx, Option.some.injEq, Prod.mk.injEq] at hs
        simp only [h', Option.some.injEq, Prod.mk.injEq]
        exact ⟨hs.1, hs'.trans hs.2⟩
      | _ => simp [hx] at hs
  · rw [shape_of_heap (h.other k hk)]; exact hs

theorem run_storeCells {b : Nat} : ∀ (vs : List Value) (o i : Nat) (w : World) (c : Array Value) (e : TypeId), w.heap[b]? = some (.cells c e (0, 0)) → o + i + vs.length ≤ c.size →
    (∀ v ∈ vs, (∀ x, v ≠ .agg x) ∧ ∀ x, v ≠ .tuple x) →
    ∃ w', (storeCells ⟨b, o, none⟩ vs i).run P w = .ok () w' ∧ Wrote w w' b (o + i) vs := by
  intro vs
  induction vs with
  | nil => intro o i w c e _ _ _; exact ⟨w, rfl, Wrote.refl _ _ _⟩
  | cons v vs ih =>
    intro o i w c e hc hn hv
    simp only [List.length_cons] at hn
    have hw := setCell_wrote w b (o + i) v
    obtain ⟨c1, h1, hs1, -⟩ := hw.here c e (0, 0) hc
    obtain ⟨w', hr, hw'⟩ := ih o (i + 1) (w.setCell ⟨b, o + i, none⟩ v) c1 e h1 (by omega) fun u hu => hv u (List.mem_cons_of_mem _ hu)
    refine ⟨w', ?_, hw.trans (by rw [Nat.add_assoc]; exact hw')⟩
    have hcell : w.cell? ⟨b, o + i, none⟩ = some (c[o + i]'(by omega)) := by simp [World.cell?, hc, show o + i < c.size by omega]
    have hfr : w.frozen? ⟨b, o + i, none⟩ = false := by simp [World.frozen?, hc]
    obtain ⟨hv1, hv2⟩ := hv v (List.mem_cons_self ..)
    simp only [storeCells, Sem.run_bind]
    rw [Addr.add_at rfl]
    have hst : (Go.store ⟨b, o + i, none⟩ v).run P w = .ok () (w.setCell ⟨b, o + i, none⟩ v) := by
      unfold Go.store
      cases v <;> first | exact absurd rfl (hv1 _) | exact absurd rfl (hv2 _) | simp [Sem.run, hcell, hfr]
    rw [hst]
    exact hr

end
end Go.Zq
