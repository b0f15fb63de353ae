/- Each operation, run by the model: moves, boxes, structs, loads, stores, numbers. -/
import Derived.Test.YtilfpkfifdhhdaaZqOps
import Derived.Laws.Entries
set_option linter.unusedVariables false
set_option linter.unusedSimpArgs false
namespace Go.Zq
open Go

section
variable {P : Program} {w0 : World} {W : Nat → Nat → Prop} {S0 : Rds} {ρ0 : Rho} {nb N : Nat} {ρ : Rho} {S : Rds} {σ : St} {a : Act} {w : World}

theorem r_underlying {t : TypeId} {d : TypeDesc} (h : P.underlying t = some d) (w : World) : (underlying t).run P w = .ok d w := run_underlying h w
theorem r_typeInfo {t : TypeId} {x : TypeInfo} (h : P.info? t = some x) (w : World) : (typeInfo t).run P w = .ok x w := by
  simp [typeInfo, h]
theorem r_sizeOf {t : TypeId} {n : Nat} (h : sizeT P t = some n) (w : World) : (sizeOf t).run P w = .ok n w := by
  simp only [sizeT, Option.map_eq_some_iff] at h
  obtain ⟨x, hx, rfl⟩ := h
  simp [sizeOf, r_typeInfo hx]
theorem r_zeroValue {t : TypeId} {x : TypeInfo} {z : Value} (h : P.info? t = some x) (hz : x.zero = some z) (w : World) : (zeroValue t).run P w = .ok z w := by
  simp [zeroValue, r_typeInfo h, hz]
theorem r_isAgg {t : TypeId} {c : Bool} (h : isAggT P t = some c) (w : World) : (isAgg t).run P w = .ok c w := by
  unfold isAggT at h
  split at h <;> simp_all [isAgg, run_underlying]
  all_goals (rename_i hd hd'; cases hx : P.underlying t with
    | none => simp_all
    | some d => cases d <;> simp_all [run_underlying])

/-- What an operation that calls nothing has to show. -/
def Does (P : Program) (w0 : World) (W : Nat → Nat → Prop) (S0 : Rds) (ρ0 : Rho) (nb N : Nat) (σ : St) (a : Act) (w : World) (o : Oper) (r : SV) (hp' : List Blk) : Prop :=
  ∃ u w' ρ' S', (execOp a.eval o).run P w = .ok (.value u) w' ∧ Sim w0 W S0 ρ0 nb N ρ' S' ⟨σ.sl, hp'⟩ a w' ∧ RS ρ' w' S' r u

theorem does_same (h : Sim w0 W S0 ρ0 nb N ρ S σ a w) {o : Oper} {r : SV} {u : Value} (hr : (execOp a.eval o).run P w = .ok (.value u) w) (hv : RS ρ w S r u) :
    Does P w0 W S0 ρ0 nb N σ a w o r σ.hp := ⟨u, w, ρ, S, hr, h, hv⟩

theorem does_mv (h : Sim w0 W S0 ρ0 nb N ρ S σ a w) {o : Oper} {x : Operand} (ho : o.op = .move x ∨ o.op = .assign x) {r : SV} (hv : RS ρ w S r (a.eval x)) :
    Does P w0 W S0 ρ0 nb N σ a w o r σ.hp :=
  does_same h (by rcases ho with ho | ho <;> simp [execOp, ho]) hv

theorem does_pick (h : Sim w0 W S0 ρ0 nb N ρ S σ a w) {o : Oper} {c x y : Operand} (ho : o.op = .pick c x y) {cb : Bool} (hc : a.eval c = .bool cb) {r : SV} (hv : RS ρ w S r (a.eval (if cb = true then x else y))) :
    Does P w0 W S0 ρ0 nb N σ a w o r σ.hp :=
  does_same h (u := a.eval (if cb = true then x else y)) (by simp only [execOp, ho, hc, Go.asBool]; cases cb <;> simp) hv

theorem litRow_cells {cs : List (Option Nat)} {arr : Array Value} {r : Row} (h : litRow cs arr.toList = some r) : r.length = arr.size ∧ ∀ (k : Nat) (t : T), r[k]? = some t → ∃ u, arr[k]? = some u ∧ RT ρ w S t u := by
  obtain ⟨h1, h2⟩ := litRow_sound (w := w) (S := S) h
  refine ⟨by simpa using h1, fun k t ht => ?_⟩
  obtain ⟨u, hu, hr⟩ := h2 k t ht
  exact ⟨u, by simpa using hu, .ri hr⟩

theorem zeroRow_spec {t : TypeId} {z : Row} (h : zeroRow P t = some z) : ∃ x zv, P.info? t = some x ∧ x.zero = some zv ∧ zv.cells.size = x.size ∧ z.length = x.size ∧
    ∀ {ρ : Rho} {w : World} {S : Rds}, ∀ (k : Nat) (t : T), z[k]? = some t → ∃ u, zv.cells[k]? = some u ∧ RT ρ w S t u := by
  unfold zeroRow at h
  simp only [Option.bind_eq_some_iff] at h
  obtain ⟨x, hx, zv, hz, cs, -, h⟩ := h
  split at h
  · rename_i hs
    have := litRow_cells (ρ := fun _ => none) (w := default) (S := fun _ _ => False) h
    exact ⟨x, zv, hx, hz, hs, by rw [this.1, hs], fun {ρ} {w} {S} => (litRow_cells (ρ := ρ) (w := w) (S := S) h).2⟩
  · simp at h

theorem does_alc (h : Sim w0 W S0 ρ0 nb N ρ S σ a w) {o : Oper} {e : TypeId} (ho : o.op = .alloc e) {z : Row} (hz : zeroRow P e = some z) (hpos : 0 < z.length) :
    Does P w0 W S0 ρ0 nb N σ a w o (.one (.ptr σ.hp.length 0 0)) (σ.hp ++ [.box z]) := by
  obtain ⟨x, zv, h1, h2, h3, h4, h5⟩ := zeroRow_spec hz
  refine ⟨.pointer (some ⟨w.heap.size, 0, none⟩), _, _, S, ?_, h.push zv.cells e (.box z) (by simp) z.length false ⟨⟨rfl, hpos⟩, rfl, by omega, h5⟩, .one ?_⟩
  · simp [execOp, ho, Instr.alloc, r_zeroValue h1 h2, newVar, newRow]
  · have := RT.ptr (ρ := fun j => if j = σ.hp.length then some (⟨w.heap.size, 0, z.length, false⟩ : Loc) else ρ j) (w := { w with heap := w.heap.push (.cells zv.cells e) }) (S := S) (id := σ.hp.length) (row := 0) (off := 0) (L := ⟨w.heap.size, 0, z.length, false⟩) (by simp)
    simpa using this

theorem does_box (h : Sim w0 W S0 ρ0 nb N ρ S σ a w) {o : Oper} {e : TypeId} {x : Operand} (ho : o.op = .box e x) {v : SV} (hv : RS ρ w S v (a.eval x)) {cs : Row} (hc : v.cells = some cs) (hpos : 0 < cs.length) :
    Does P w0 W S0 ρ0 nb N σ a w o (.one (.ptr σ.hp.length 0 0)) (σ.hp ++ [.box cs]) := by
  obtain ⟨h1, h2⟩ := hv.cells hc
  refine ⟨.pointer (some ⟨w.heap.size, 0, none⟩), _, _, S, ?_, h.push (a.eval x).cells e (.box cs) (by simp) cs.length false ⟨⟨rfl, hpos⟩, rfl, by omega, h2⟩, .one ?_⟩
  · simp [execOp, ho, Instr.box, newVar, newRow]
  · have := RT.ptr (ρ := fun j => if j = σ.hp.length then some (⟨w.heap.size, 0, cs.length, false⟩ : Loc) else ρ j) (w := { w with heap := w.heap.push (.cells (a.eval x).cells e) }) (S := S) (id := σ.hp.length) (row := 0) (off := 0) (L := ⟨w.heap.size, 0, cs.length, false⟩) (by simp)
    simpa using this

theorem aggT_spec {t : TypeId} {n : Option Nat} (h : aggT P t = some n) : ∃ c, isAggT P t = some c ∧ (c = true → ∃ k, sizeT P t = some k ∧ n = some k) ∧ (c = false → n = none) := by
  unfold aggT at h
  simp only [Option.bind_eq_some_iff] at h
  obtain ⟨c, hc, h⟩ := h
  refine ⟨c, hc, fun e => ?_, fun e => ?_⟩
  · subst e
    simp only [if_true, Option.map_eq_some_iff] at h
    obtain ⟨k, hk, rfl⟩ := h
    exact ⟨k, hk, rfl⟩
  · subst e
    simpa using h.symm

/-- A variable that is loaded. -/
theorem run_loadVar {t : TypeId} {n : Option Nat} (hn : aggT P t = some n) {b o : Nat} {cs : Row} {s : SV} (hs : SV.of n cs = some s)
    (hcell : ∀ (k : Nat) (t : T), cs[k]? = some t → ∃ u, w.cell? ⟨b, o + k, none⟩ = some u ∧ RT ρ w S t u) :
    ∃ u, (loadVar t ⟨b, o, none⟩).run P w = .ok u w ∧ RS ρ w S s u := by
  obtain ⟨c, hc, hct, hcf⟩ := aggT_spec hn
  let g : Nat → Value := fun k => (w.cell? ⟨b, o + k, none⟩).getD undef
  have hg : ∀ (k : Nat) (t : T), cs[k]? = some t → w.cell? ⟨b, o + k, none⟩ = some (g k) ∧ RT ρ w S t (g k) := fun k t ht => by
    obtain ⟨u, hu, hr⟩ := hcell k t ht
    have : g k = u := by simp only [g]; rw [hu]; rfl
    rw [this]
    exact ⟨hu, hr⟩
  have hso := SV.of_sound hs (fun k t ht => (hg k t ht).2)
  cases c with
  | true =>
    obtain ⟨k, hk, rfl⟩ := hct rfl
    obtain ⟨hle, hso⟩ := hso
    refine ⟨_, ?_, hso⟩
    simp only [loadVar, Sem.run_bind, r_isAgg hc, Result.andThen_ok, if_true, r_sizeOf hk]
    rw [run_loadCells (g := g) fun j hj => (hg j cs[j] (by simp [show j < cs.length by omega])).1]
    simp
  | false =>
    obtain rfl := hcf rfl
    refine ⟨_, ?_, hso⟩
    simp only [loadVar, Sem.run_bind, r_isAgg hc, Result.andThen_ok, Bool.false_eq_true, if_false]
    cases cs with
    | nil => simp [SV.of] at hs
    | cons t r =>
      have := (hg 0 t rfl).1
      simp only [Nat.add_zero] at this
      simp [this]

theorem does_ld (h : Sim w0 W S0 ρ0 nb N ρ S σ a w) {o : Oper} {t : TypeId} {x : Operand} (ho : o.op = .load t x) {n : Option Nat} (hn : aggT P t = some n) {tx : T} (hx : RT ρ w S tx (a.eval x))
    {cs : Row} (hc : cellsAt σ.hp tx = some cs) {s : SV} (hs : SV.of n cs = some s) : Does P w0 W S0 ρ0 nb N σ a w o s σ.hp := by
  obtain ⟨b, off, hv, hcell⟩ := cellsAt_sound hx h.heap hc
  obtain ⟨u, hu, hr⟩ := run_loadVar hn hs hcell
  refine does_same h ?_ hr
  simp [execOp, ho, Instr.loadAt, Instr.sureAddr, hv, hu]

theorem does_nilc (h : Sim w0 W S0 ρ0 nb N ρ S σ a w) {o : Oper} {x : Operand} (ho : o.op = .nilCheck x) {s : SV} (hx : RS ρ w S s (a.eval x)) (hs : (∃ i r f, s = .one (.ptr i r f)) ∨ ∃ c, s = .one (.ip c)) :
    Does P w0 W S0 ρ0 nb N σ a w o s σ.hp := by
  refine does_same h ?_ hx
  have : ∃ ad, a.eval x = .pointer (some ad) := by
    generalize a.eval x = v at hx ⊢
    rcases hs with ⟨i, r, f, rfl⟩ | ⟨c, rfl⟩
    · cases hx with
      | one h => cases h with
        | ri h => cases h
        | ptr => exact ⟨_, rfl⟩
    · cases hx with
      | one h => cases h with
        | ri h => cases h
        | ip => exact ⟨_, rfl⟩
  obtain ⟨ad, hv⟩ := this
  simp [execOp, ho, hv]

end
end Go.Zq
