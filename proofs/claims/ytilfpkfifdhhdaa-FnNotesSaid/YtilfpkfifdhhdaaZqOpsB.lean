/- Literals. -/
import Derived.Test.YtilfpkfifdhhdaaZqOpsA
set_option linter.unusedVariables false
set_option linter.unusedSimpArgs false
namespace Go.Zq
open Go

section
variable {P : Program} {w0 : World} {W : Nat → Nat → Prop} {S0 : Rds} {ρ0 : Rho} {nb N : Nat} {ρ : Rho} {S : Rds} {σ : St} {a : Act} {w : World}

/-- Cells that stand for rows. -/
def FR (ρ : Rho) (w : World) (S : Rds) (sz : Nat) (rows : List Row) (arr : Array Value) : Prop :=
  arr.size = rows.length * sz ∧ (∀ r ∈ rows, r.length = sz) ∧ (∀ r ∈ rows, r.all inList = true) ∧
  ∀ (j k : Nat) (t : T), (rows[j]?).bind (·[k]?) = some t → ∃ u, arr[j * sz + k]? = some u ∧ RT ρ w S t u

theorem FR.set {sz : Nat} {rows : List Row} {arr : Array Value} (h : FR ρ w S sz rows arr) {j : Nat} {old new : Row} (hj : rows[j]? = some old) (hl : new.length = old.length) (hin : new.all inList = true)
    {v : Value} (hn : CR ρ w S new v.cells) : FR ρ w S sz (rows.set j new) (put arr (j * sz) v) := by
  obtain ⟨h1, h2, h3, h4⟩ := h
  obtain ⟨n1, n2⟩ := hn
  have hjl := (List.getElem?_eq_some_iff.1 hj).1
  have hol := h2 old (List.mem_of_getElem? hj)
  have hm := Nat.mul_le_mul_right sz (show j + 1 ≤ rows.length by omega)
  rw [Nat.add_mul] at hm
  obtain ⟨p1, p2⟩ := put_spec arr (j * sz) v (by omega)
  refine ⟨by rw [p1, h1]; simp, fun r hr => ?_, fun r hr => ?_, fun i k t ht => ?_⟩
  · rcases List.mem_or_eq_of_mem_set hr with hr | hr
    · exact h2 r hr
    · rw [hr]; omega
  · rcases List.mem_or_eq_of_mem_set hr with hr | hr
    · exact h3 r hr
    · rw [hr]; exact hin
  · rw [List.getElem?_set] at ht
    rw [p2]
    by_cases e : j = i
    · subst e
      rw [if_pos rfl, if_pos hjl, Option.bind_some] at ht
      have hk := (List.getElem?_eq_some_iff.1 ht).1
      rw [if_pos (by omega), show j * sz + k - j * sz = k by omega]
      exact n2 k t ht
    · rw [if_neg e] at ht
      obtain ⟨r, hr, hk⟩ := bind_get ht
      have hrl := h2 r (List.mem_of_getElem? hr)
      have hkl := (List.getElem?_eq_some_iff.1 hk).1
      rw [if_neg]
      · exact h4 i k t ht
      · rcases Nat.lt_or_gt_of_ne e with e | e
        · have := Nat.mul_le_mul_right sz (show j + 1 ≤ i by omega)
          rw [Nat.add_mul] at this
          omega
        · have := Nat.mul_le_mul_right sz (show i + 1 ≤ j by omega)
          rw [Nat.add_mul] at this
          omega

theorem fillRows_sound (h : Sim w0 W S0 ρ0 nb N ρ S σ a w) {e : TypeId} {sz : Nat} : ∀ (l : List (Nat × Operand)) (ps : List (Nat × Opd)), rowParts P N e l = some ps → ∀ (rows r : List Row) (cells : Array Value), FR ρ w S sz rows cells →
    Zq.fillRows σ.ev rows ps = some r →
    ∃ arr, Instr.fill (fun i => some (i * sz, sz)) cells (l.map fun (i, x) => (i, a.eval x)) = some arr ∧ FR ρ w S sz r arr := by
  intro l
  induction l with
  | nil =>
    intro ps hps rows r cells hcr hf
    obtain rfl := by simpa [rowParts] using hps
    obtain rfl := by simpa [Zq.fillRows] using hf
    exact ⟨cells, rfl, hcr⟩
  | cons p l ih =>
    intro ps hps rows r cells hcr hf
    obtain ⟨j, x⟩ := p
    simp only [rowParts, Option.bind_eq_some_iff, Option.some.injEq] at hps
    obtain ⟨y, hy, ps', hps', rfl⟩ := hps
    simp only [Zq.fillRows, Option.bind_eq_some_iff] at hf
    obtain ⟨v, hv, new, hnew, hf⟩ := hf
    cases hold : rows[j]? with
    | none => simp [hold] at hf
    | some old =>
      simp only [hold] at hf
      obtain ⟨⟨hl, hin⟩, hf1⟩ := of_ite hf
      have hcn := (ev_sound h hy hv).cells hnew
      obtain ⟨arr, ha, hra⟩ := ih ps' hps' _ r _ (hcr.set hold hl hin hcn) hf1
      refine ⟨arr, ?_, hra⟩
      obtain ⟨h1, h2, -, -⟩ := hcr
      have hol := h2 old (List.mem_of_getElem? hold)
      have hjl := (List.getElem?_eq_some_iff.1 hold).1
      have hm := Nat.mul_le_mul_right sz (show j + 1 ≤ rows.length by omega)
      rw [Nat.add_mul] at hm
      have hs := hcn.1
      simp only [List.map_cons, Instr.fill]
      rw [if_neg (by simp; omega)]
      exact ha

theorem does_bsl (h : Sim w0 W S0 ρ0 nb N ρ S σ a w) {o : Oper} {t e : TypeId} {n : Nat} {parts : Array (Nat × Operand)} (ho : o.op = .buildSlice t n parts) (ht : P.underlying t = some (.slice e)) {z : Row} (hz : zeroRow P e = some z)
    (hpos : 0 < z.length) (hlim : n * z.length ≤ 2 ^ 24) {ps : List (Nat × Opd)} (hps : rowParts P N e parts.toList = some ps) {rows : List Row} (hr : Zq.fillRows σ.ev (List.replicate n z) ps = some rows) :
    Does P w0 W S0 ρ0 nb N σ a w o (.one (.sl σ.hp.length 0 rows.length)) (σ.hp ++ [.lst z.length rows]) := by
  obtain ⟨x, zv, k1, k2, k3, k4, -⟩ := zeroRow_spec hz
  have hfr : FR ρ w S x.size (List.replicate n z) (madeCells zv.cells (n * x.size)) :=
    ⟨by rw [size_madeCells]; simp, fun r hr => by rw [(List.mem_replicate.1 hr).2, k4], fun r hr => by rw [(List.mem_replicate.1 hr).2]; exact zeroRow_in hz, madeCells_flat hz k1 k2 n (Nat.le_refl n)⟩
  obtain ⟨arr, ha, g1, g2, g3, g4⟩ := fillRows_sound h parts.toList ps hps _ rows _ hfr hr
  have hn : rows.length = n := by
    clear ha g1 g2 g3 g4 hfr
    have : ∀ (ps : List (Nat × Opd)) (rs rows : List Row), Zq.fillRows σ.ev rs ps = some rows → rows.length = rs.length := by
      intro ps
      induction ps with
      | nil =>
        intro rs rows hr
        simp only [Zq.fillRows, Option.some.injEq] at hr
        rw [hr]
      | cons p ps ih =>
        intro rs rows hr
        obtain ⟨j, y⟩ := p
        simp only [Zq.fillRows, Option.bind_eq_some_iff] at hr
        obtain ⟨v, -, new, -, hr⟩ := hr
        cases hold : rs[j]? with
        | none => simp [hold] at hr
        | some old =>
          simp only [hold] at hr
          have := ih _ _ (of_ite hr).2
          simpa using this
    simpa using this _ _ _ hr
  refine ⟨.slice (some ⟨w.heap.size, 0, none⟩) n n, _, _, S, ?_, h.push arr e (.lst z.length rows) (by simp) z.length true ⟨rfl, rfl, hpos, by rw [g1, k4]; exact Nat.le_refl _, by rw [k4]; exact g2, g3, by rw [k4]; exact g4⟩, .one ?_⟩
  · simp only [execOp, ho]
    have hpos' : ¬ (n * x.size > 2 ^ 24) := by rw [← k4]; omega
    have hmade : (Array.range (n * x.size)).map (fun i => zv.cells[i % zv.cells.size]!) = madeCells zv.cells (n * x.size) := rfl
    have ha' : Instr.fill (fun i => some (i * x.size, x.size)) ((Array.range (n * x.size)).map (fun i => zv.cells[i % zv.cells.size]!)) (parts.map fun (i, x) => (i, a.eval x)).toList = some arr := by
      rw [hmade, Array.toList_map]
      exact ha
    by_cases h0 : n * x.size = 0
    · have ha0 : Instr.fill (fun i => some (i * x.size, x.size)) #[] (parts.map fun (i, x) => (i, a.eval x)).toList = some arr := by
        rw [h0] at ha'
        simpa [Array.range_zero'] using ha'
      simp [Instr.buildSlice, run_underlying ht, sizeOf, typeInfo, k1, h0, newRow, Array.range_zero'] at ha0 ⊢
      rw [ha0]
      rfl
    · simp [Instr.buildSlice, run_underlying ht, sizeOf, typeInfo, zeroValue, k1, k2, newRow, h0] at ha' ⊢
      rw [if_neg (by omega), ha']
      rfl
  · have := RT.sl (S := S) (id := σ.hp.length) (off := 0) (len := n) (cap := n) (a := ⟨w.heap.size, 0, none⟩) (L := ⟨w.heap.size, 0, z.length, true⟩)
      (ρ := fun j => if j = σ.hp.length then some ⟨w.heap.size, 0, z.length, true⟩ else ρ j) (w := { w with heap := w.heap.push (.cells arr e) }) (e := e) (n := arr.size)
      (if_pos rfl) (Nat.le_refl _) (by simp [World.shape?]) (.inr ⟨by simp, by rw [g1, hn, k4]; simp⟩)
    rw [hn]
    exact this

theorem places_mapM : ∀ (fs : List Field), (∀ f ∈ fs, (P.info? f.type).isSome = true) → ∃ places, fs.mapM (fun f => (P.info? f.type).map fun i => (f.offset, i.size)) = some places ∧
    ∀ (j : Nat) (f : Field) (n : Nat), fs[j]? = some f → sizeT P f.type = some n → places[j]? = some (f.offset, n)
  | [], _ => ⟨[], rfl, fun j f n h => by simp at h⟩
  | f :: fs, h => by
    obtain ⟨ps, h1, h2⟩ := places_mapM fs (fun g hg => h g (List.mem_cons_of_mem _ hg))
    obtain ⟨i, hi⟩ := Option.isSome_iff_exists.1 (h f (List.mem_cons_self ..))
    refine ⟨(f.offset, i.size) :: ps, by simp [List.mapM_cons, hi, h1], fun j g n hj hn => ?_⟩
    cases j with
    | zero =>
      obtain rfl : f = g := by simpa using hj
      obtain rfl : i.size = n := by simpa [sizeT, hi] using hn
      rfl
    | succ j => exact h2 j g n (by simpa using hj) hn

theorem does_bld (h : Sim w0 W S0 ρ0 nb N ρ S σ a w) {o : Oper} {t : TypeId} {parts : Array (Nat × Operand)} (ho : o.op = .build t parts) {fs : Array Field} (ht : P.underlying t = some (.struct fs))
    (hall : fs.all (fun f => (P.info? f.type).isSome) = true) {z : Row} (hz : zeroRow P t = some z) {ps : List (Nat × Nat × Opd)} (hps : bldParts P N fs parts.toList = some ps) {cs : Row} (hr : Zq.fill σ.ev z ps = some cs) :
    Does P w0 W S0 ρ0 nb N σ a w o (.agg cs) σ.hp := by
  obtain ⟨x, zv, k1, k2, k3, k4, k5⟩ := zeroRow_spec hz
  obtain ⟨places, p1, p2⟩ := places_mapM (P := P) fs.toList (fun f hf => by rw [Array.all_eq_true'] at hall; exact hall f (Array.mem_def.2 hf))
  obtain ⟨arr, ha, hcr⟩ := fill_sound h parts.toList ps hps z cs zv.cells ⟨by omega, k5⟩ hr (places.toArray[·]?) (fun j f n hj hn => by simpa using p2 j f n (by simpa using hj) hn)
  have hb : P.built t (parts.map fun (i, x) => (i, a.eval x)).toList = some arr := by
    simp only [Program.built, k1, ht, k2, p1]
    rw [Array.toList_map]
    exact ha
  refine does_same h (u := .agg arr) ?_ (.agg hcr.1 fun k t ht => ?_)
  · simp only [execOp, ho]
    simp [run_build w t _ arr hb]
  · obtain ⟨u, hu, hru⟩ := hcr.2 k t ht
    simpa [Array.getD_eq_getD_getElem?, hu] using hru

end
end Go.Zq
