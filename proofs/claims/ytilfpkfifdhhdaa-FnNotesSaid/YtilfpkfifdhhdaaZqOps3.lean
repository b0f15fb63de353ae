/- Stores. -/
import Derived.Test.YtilfpkfifdhhdaaZqOps2
set_option linter.unusedVariables false
set_option linter.unusedSimpArgs false
namespace Go.Zq
open Go

section
variable {P : Program} {w0 : World} {W : Nat → Nat → Prop} {S0 : Rds} {ρ0 : Rho} {nb N : Nat} {ρ : Rho} {S : Rds} {σ : St} {a : Act} {w : World}

theorem of_ite {α : Type} {c : Prop} [Decidable c] {x : Option α} {y : α} (h : (if c then x else none) = some y) : c ∧ x = some y := by
  split at h
  · exact ⟨by assumption, h⟩
  · simp at h

theorem wr_length {cs new : Row} {off : Nat} (h : off + new.length ≤ cs.length) : (wr cs off new).length = cs.length := by
  simp [wr]; omega

theorem wr_get {cs new : Row} {off : Nat} (h : off + new.length ≤ cs.length) (k : Nat) :
    (wr cs off new)[k]? = if off ≤ k ∧ k < off + new.length then new[k - off]? else cs[k]? := by
  unfold wr
  rw [List.getElem?_append, List.getElem?_append]
  simp only [List.length_take, Nat.min_eq_left (show off ≤ cs.length by omega)]
  by_cases h1 : k < off
  · rw [if_pos h1, if_neg (by omega), List.getElem?_take_of_lt h1]
  · rw [if_neg h1]
    by_cases h2 : k - off < new.length
    · rw [if_pos h2, if_pos (by omega)]
    · rw [if_neg h2, if_neg (by omega), List.getElem?_drop]
      congr 1
      omega

theorem row_lt {j k sz row off n : Nat} (hj : j ≠ row) (hk : k < sz) (ho : off + n ≤ sz) (base : Nat) : base + j * sz + k < base + row * sz + off ∨ base + row * sz + off + n ≤ base + j * sz + k := by
  rcases Nat.lt_or_gt_of_ne hj with h | h
  · left
    have := Nat.mul_le_mul_right sz (show j + 1 ≤ row by omega)
    rw [Nat.add_mul] at this
    omega
  · right
    have := Nat.mul_le_mul_right sz (show row + 1 ≤ j by omega)
    rw [Nat.add_mul] at this
    omega

theorem RR.wr {L : Loc} {rows : List Row} (hr : RR ρ w S L rows) {row off : Nat} {r : Row} (hrow : rows[row]? = some r) {new : Row} (hle : off + new.length ≤ r.length) {w' : World} {vs : List Value}
    (hw : Wrote w w' L.blk (L.base + row * L.sz + off) vs) (hvs : vs.length = new.length) (hnew : ∀ (k : Nat) (t : T), new[k]? = some t → ∃ u, vs[k]? = some u ∧ RT ρ w S t u)
    (hmono : ∀ t v, RT ρ w S t v → RT ρ w' S t v) : RR ρ w' S L (rows.set row (Zq.wr r off new)) := by
  obtain ⟨c, e, hc, hs⟩ := hr.obj
  have hlt : row < rows.length := (List.getElem?_eq_some_iff.1 hrow).1
  have hrl : r.length = L.sz := hr.len r (List.mem_of_getElem? hrow)
  obtain ⟨c', hc', hs', -⟩ := hw.here c e (0, 0) hc
  refine ⟨⟨c', e, hc', by rw [hs']; simpa using hs⟩, fun x hx => ?_, fun j k t ht => ?_⟩
  · rcases List.mem_or_eq_of_mem_set hx with hx | hx
    · exact hr.len x hx
    · rw [hx, wr_length hle, hrl]
  · rw [List.getElem?_set] at ht
    by_cases e1 : row = j
    · subst e1
      rw [if_pos rfl, if_pos hlt] at ht
      simp only [Option.bind_some] at ht
      rw [wr_get hle] at ht
      split at ht
      · rename_i hk
        obtain ⟨u, hu, hru⟩ := hnew _ t ht
        refine ⟨u, ?_, hmono _ _ hru⟩
        have hb : L.base + row * L.sz + off + vs.length ≤ c.size := by
          have := Nat.mul_le_mul_right L.sz (show row + 1 ≤ rows.length by omega)
          rw [Nat.add_mul] at this
          omega
        have := hw.new hc hb hu
        rw [show L.base + row * L.sz + k = L.base + row * L.sz + off + (k - off) by omega]
        exact this
      · rename_i hk
        obtain ⟨u, hu, hru⟩ := hr.cell row k t (by simp [hrow, ht])
        exact ⟨u, hw.cell hu (.inr (by omega)), hmono _ _ hru⟩
    · rw [if_neg e1] at ht
      obtain ⟨u, hu, hru⟩ := hr.cell j k t ht
      refine ⟨u, hw.cell hu (.inr ?_), hmono _ _ hru⟩
      have hk : k < L.sz := by
        cases hx : rows[j]? with
        | none => simp [hx] at ht
        | some x =>
          simp only [hx, Option.bind_some] at ht
          have := hr.len x (List.mem_of_getElem? hx)
          have := (List.getElem?_eq_some_iff.1 ht).1
          omega
      rw [hvs]
      exact row_lt (fun e => e1 e.symm) hk (by omega) L.base

theorem RT.oneCells {vs : List Value} {cs : Row} (hn : cs.length = vs.length) (h : ∀ (k : Nat) (t : T), cs[k]? = some t → ∃ u, vs[k]? = some u ∧ RT ρ w S t u) :
    ∀ v ∈ vs, (∀ x, v ≠ .agg x) ∧ ∀ x, v ≠ .tuple x := by
  intro v hv
  obtain ⟨k, hk, rfl⟩ := List.mem_iff_getElem.1 hv
  obtain ⟨u, hu, hr⟩ := h k cs[k] (by simp)
  obtain rfl : vs[k] = u := by simpa [hk] using hu
  exact ⟨hr.one.2.1, hr.one.2.2⟩

/-- A store is done by the model, and the heap is as told. -/
theorem store_sound (h : Sim w0 W S0 ρ0 nb N ρ S σ a w) {n : Nat} {tx : T} {vx : Value} (hx : RT ρ w S tx vx) {cs : Row} {arr : Array Value} (hn : cs.length = arr.size)
    (hcs : ∀ (k : Nat) (t : T), cs[k]? = some t → ∃ u, arr[k]? = some u ∧ RT ρ w S t u) {hp' : List Blk} (hst : store σ.hp n tx cs = some hp') :
    cs.length = n ∧ ∃ ad w', vx = .pointer (some ad) ∧ (storeCells ad arr.toList).run P w = .ok () w' ∧ Sim w0 W S0 ρ0 nb N ρ S ⟨σ.sl, hp'⟩ a w' := by
  unfold store at hst
  obtain ⟨hlen, hst⟩ := of_ite hst
  refine ⟨hlen, ?_⟩
  have hcs' : ∀ (k : Nat) (t : T), cs[k]? = some t → ∃ u, arr.toList[k]? = some u ∧ RT ρ w S t u := fun k t ht => by
    obtain ⟨u, hu, hr⟩ := hcs k t ht
    exact ⟨u, by simpa using hu, hr⟩
  have hone := RT.oneCells (by simpa using hn) hcs'
  cases tx with
  | ptr id row off =>
    cases hx with
    | ri h => cases h
    | ptr hL =>
    rename_i L
    simp only at hst
    cases hb : σ.hp[id]? with
    | none => simp [hb] at hst
    | some x =>
      have hbr := h.heap.br id x hb
      cases x with
      | dead => simp [hb] at hst
      | box cells =>
        simp only [hb] at hst
        obtain ⟨hc0, hst1⟩ := of_ite hst
        obtain rfl := Option.some.inj hst1
        obtain ⟨rfl, hle⟩ := hc0
        obtain ⟨M, hM, hwh, hr⟩ := hbr
        obtain rfl : L = M := by rw [hL] at hM; simpa using hM
        have hlive : live σ.hp id := ⟨_, hb, by simp⟩
        obtain ⟨c, e, hc, hs⟩ := hr.obj
        have hcl := hr.len cells (by simp)
        obtain ⟨w', hrun, hw⟩ := run_storeCells (P := P) arr.toList (L.base + 0 * L.sz + off) 0 w c e hc (by simp at hs ⊢; omega) hone
        refine ⟨_, w', rfl, hrun, ?_⟩
        have hbr' := hr.wr (row := 0) (off := off) (r := cells) rfl (new := cs) (by omega) hw (by simpa using hn.symm) hcs' (fun t v ht => h.heap.rt hlive hL hw ht)
        exact h.write hlive hL hw (fun o h1 h2 => ⟨rfl, .inr (by simp at h2 ⊢; omega)⟩) _ ⟨L, hL, hwh, by simpa using hbr'⟩
      | lst sz rows =>
        simp only [hb] at hst
        cases hrow : rows[row]? with
        | none => simp [hrow] at hst
        | some r =>
          simp only [hrow] at hst
          obtain ⟨hc0, hst1⟩ := of_ite hst
          obtain rfl := Option.some.inj hst1
          obtain ⟨hle, hin⟩ := hc0
          rcases hbr with ⟨hnone, -⟩ | ⟨M, hM, hwh, hsz, hpos, hr, hall⟩
          · rw [hL] at hnone; simp at hnone
          obtain rfl : L = M := by rw [hL] at hM; simpa using hM
          have hlive : live σ.hp id := ⟨_, hb, by simp⟩
          obtain ⟨c, e, hc, hs⟩ := hr.obj
          have hrl := hr.len r (List.mem_of_getElem? hrow)
          have hlt : row < rows.length := (List.getElem?_eq_some_iff.1 hrow).1
          have hmul := Nat.mul_le_mul_right L.sz (show row + 1 ≤ rows.length by omega)
          rw [Nat.add_mul] at hmul
          obtain ⟨w', hrun, hw⟩ := run_storeCells (P := P) arr.toList (L.base + row * L.sz + off) 0 w c e hc (by simp; omega) hone
          refine ⟨_, w', rfl, hrun, ?_⟩
          have hbr' := hr.wr (off := off) hrow (new := cs) (by omega) hw (by simpa using hn.symm) hcs' (fun t v ht => h.heap.rt hlive hL hw ht)
          refine h.write hlive hL hw (fun o h1 h2 => ⟨rfl, .inl hwh⟩) _ (.inr ⟨L, hL, hwh, hsz, hpos, hbr', fun x hx => ?_⟩)
          rcases List.mem_or_eq_of_mem_set hx with hx | hx
          · exact hall x hx
          · rw [hx, List.all_eq_true]
            intro y hy
            unfold Zq.wr at hy
            have hr' := List.all_eq_true.1 (hall r (List.mem_of_getElem? hrow))
            simp only [List.mem_append] at hy
            rcases hy with hy | hy | hy
            · exact hr' y (List.mem_of_mem_take hy)
            · exact List.all_eq_true.1 hin y hy
            · exact hr' y (List.mem_of_mem_drop hy)
  | _ => simp at hst

theorem st_sound (h : Sim w0 W S0 ρ0 nb N ρ S σ a w) {o : Oper} {t : TypeId} {x y : Operand} (ho : o.op = .store t x y) {n : Nat} (hn : sizeT P t = some n) {tx : T} (hx : RT ρ w S tx (a.eval x))
    {s : SV} (hy : RS ρ w S s (a.eval y)) {cs : Row} (hc : s.cells = some cs) {hp' : List Blk} (hst : store σ.hp n tx cs = some hp') :
    ∃ w', (execOp a.eval o).run P w = .ok .skip w' ∧ Sim w0 W S0 ρ0 nb N ρ S ⟨σ.sl, hp'⟩ a w' := by
  obtain ⟨h1, h2⟩ := hy.cells hc
  obtain ⟨hlen, ad, w', hv, hrun, hs⟩ := store_sound (P := P) h hx h1 h2 hst
  refine ⟨w', ?_, hs⟩
  simp only [execOp, ho, Instr.storeAt, hv, Instr.sureAddr, Sem.run_bind, Sem.run_pure, Result.andThen_ok, storeVar, r_sizeOf hn]
  rw [if_neg (by omega)]
  simp [hrun]

end
end Go.Zq
