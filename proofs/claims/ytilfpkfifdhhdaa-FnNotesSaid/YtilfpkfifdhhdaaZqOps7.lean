/- New slices: make, literals, append. -/
import Derived.Test.YtilfpkfifdhhdaaZqOps6
import Derived.Laws.Append
set_option linter.unusedVariables false
set_option linter.unusedSimpArgs false
namespace Go.Zq
open Go

section
variable {P : Program} {w0 : World} {W : Nat → Nat → Prop} {S0 : Rds} {ρ0 : Rho} {nb N : Nat} {ρ : Rho} {S : Rds} {σ : St} {a : Act} {w : World}

/-- Cells of rows, one behind the other. -/
def Flat (R : T → Value → Prop) (sz : Nat) (rows : List Row) (vs : List Value) : Prop :=
  vs.length = rows.length * sz ∧ (∀ r ∈ rows, r.length = sz) ∧ ∀ (j k : Nat) (t : T), (rows[j]?).bind (·[k]?) = some t → ∃ u, vs[j * sz + k]? = some u ∧ R t u

theorem Flat.append {R : T → Value → Prop} {sz : Nat} {xs ys : List Row} {us vs : List Value} (h : Flat R sz xs us) (k : Flat R sz ys vs) : Flat R sz (xs ++ ys) (us ++ vs) := by
  obtain ⟨h1, h2, h3⟩ := h
  obtain ⟨k1, k2, k3⟩ := k
  refine ⟨by simp [h1, k1, Nat.add_mul], fun r hr => ?_, fun j i t ht => ?_⟩
  · rcases List.mem_append.1 hr with hr | hr
    · exact h2 r hr
    · exact k2 r hr
  · obtain ⟨r, hr, hk⟩ := bind_get ht
    by_cases hj : j < xs.length
    · rw [List.getElem?_append_left hj] at hr
      obtain ⟨u, hu, hru⟩ := h3 j i t (by simp [hr, hk])
      refine ⟨u, ?_, hru⟩
      rw [List.getElem?_append_left (List.getElem?_eq_some_iff.1 hu).1]
      exact hu
    · rw [List.getElem?_append_right (by omega)] at hr
      obtain ⟨u, hu, hru⟩ := k3 (j - xs.length) i t (by simp [hr, hk])
      refine ⟨u, ?_, hru⟩
      have : xs.length * sz ≤ j * sz := Nat.mul_le_mul_right _ (by omega)
      rw [List.getElem?_append_right (by omega), h1, ← hu]
      congr 1
      rw [Nat.sub_mul]
      omega

theorem Reads.flat {hp : List Blk} {t : T} {sz : Nat} {rows : List Row} {v : Value} (h : Reads ρ w S hp t sz rows v) (hpos : 0 < sz) :
    ∃ ad cap us, v = .slice ad rows.length cap ∧ rows.length ≤ cap ∧ Flat (RI w S) sz rows us ∧ (∀ r ∈ rows, r.all inList = true) ∧
      ∀ w' : World, w'.heap = w.heap → ∀ c, (Builtin.firstCells sz rows.length (.slice ad rows.length c)).run P w' = .ok us.toArray w' := by
  obtain ⟨ad, cap, rfl, hcap, h⟩ := h
  rcases h with rfl | ⟨b, o, rfl, hsz, hin, hc, -⟩
  · refine ⟨ad, cap, [], rfl, hcap, ⟨by simp, by simp, by simp⟩, by simp, fun w' _ c => ?_⟩
    cases ad with
    | none => simp [Builtin.firstCells]
    | some ad => simp [Builtin.firstCells, loadCells, loadCellsFrom]
  · let us := (List.range (rows.length * sz)).map fun i => (w.cell? ⟨b, o + i, none⟩).getD undef
    have hcell : ∀ i, i < rows.length * sz → ∃ u, w.cell? ⟨b, o + i, none⟩ = some u ∧ us[i]? = some u := fun i hi => by
      have hj : i / sz < rows.length := (Nat.div_lt_iff_lt_mul hpos).2 hi
      have hk : i % sz < sz := Nat.mod_lt _ hpos
      have hl := hsz rows[i / sz] (List.getElem_mem hj)
      obtain ⟨u, hu, -⟩ := hc (i / sz) (i % sz) (rows[i / sz][i % sz]'(by omega)) (by simp [hj])
      have e : o + i / sz * sz + i % sz = o + i := by have := Nat.div_add_mod i sz; rw [Nat.mul_comm] at this; omega
      rw [e] at hu
      exact ⟨u, hu, by simp [us, hi, hu]⟩
    refine ⟨_, cap, us, rfl, hcap, ⟨by simp [us], hsz, fun j k t ht => ?_⟩, hin, fun w' hw' c => ?_⟩
    · obtain ⟨r, hr, hk⟩ := bind_get ht
      obtain ⟨u, hu, hru⟩ := hc j k t ht
      have hj := (List.getElem?_eq_some_iff.1 hr).1
      have hk' := (List.getElem?_eq_some_iff.1 hk).1
      have hl := hsz r (List.mem_of_getElem? hr)
      have hlt : j * sz + k < rows.length * sz := by
        have := Nat.mul_le_mul_right sz (show j + 1 ≤ rows.length by omega)
        rw [Nat.add_mul] at this
        omega
      obtain ⟨u', hu', hus⟩ := hcell _ hlt
      rw [← Nat.add_assoc, hu] at hu'
      obtain rfl := Option.some.inj hu'
      exact ⟨u, hus, hru⟩
    · simp only [Builtin.firstCells]
      rw [run_loadCells (g := fun i => (w.cell? ⟨b, o + i, none⟩).getD undef) fun i hi => ?_]
      · congr 1
        apply Array.toList_inj.1
        simp [us]
      · obtain ⟨u, hu, -⟩ := hcell i hi
        rw [cell_of_heap (w := w) (by rw [hw'])]
        rw [hu]; rfl

/-- A block that nobody else knows is known by one more number. -/
theorem Sim.adopt (h : Sim w0 W S0 ρ0 nb N ρ S σ a w) (L : Loc) (x : Blk) (hx : x ≠ .dead) (hother : ∀ j M, live σ.hp j → ρ j = some M → M.blk ≠ L.blk) (hS : ∀ p b, S p b → b ≠ L.blk)
    (hown : ∀ o, W L.blk o ∨ w0.heap.size ≤ L.blk) (hbr : BR (fun j => if j = σ.hp.length then some L else ρ j) w S σ.hp.length x) :
    Sim w0 W S0 ρ0 nb N (fun j => if j = σ.hp.length then some L else ρ j) S ⟨σ.sl, σ.hp ++ [x]⟩ a w := by
  generalize hρ' : (fun j => if j = σ.hp.length then some L else ρ j) = ρ' at *
  have hlt : ∀ j M, ρ j = some M → j < σ.hp.length := fun j M hj => by
    by_cases hl : j < σ.hp.length
    · exact hl
    · rw [h.heap.fr j (by omega)] at hj; simp at hj
  have hmono : ∀ j M, ρ j = some M → ρ' j = some M := fun j M hj => by rw [← hρ']; simp only; rw [if_neg (by have := hlt j M hj; omega)]; exact hj
  have hback : ∀ j M, j ≠ σ.hp.length → ρ' j = some M → ρ j = some M := fun j M hj hM => by rw [← hρ'] at hM; simp only at hM; rwa [if_neg hj] at hM
  have hself : ρ' σ.hp.length = some L := by rw [← hρ']; simp
  have hshp : Shp ρ w w := fun _ _ _ _ _ h => h
  have hrt : ∀ t v, RT ρ w S t v → RT ρ' w S t v := fun t v ht => ht.mono hmono (fun _ _ h => h) (fun _ _ _ => rfl) hshp
  have hrr : ∀ L rows, RR ρ w S L rows → RR ρ' w S L rows := fun L rows r => ⟨r.obj, r.len, fun j k t ht => by obtain ⟨v, hv, hr⟩ := r.cell j k t ht; exact ⟨v, hv, hrt _ _ hr⟩⟩
  have liveOld : ∀ j, live (σ.hp ++ [x]) j → j ≠ σ.hp.length → live σ.hp j := fun j ⟨y, hy, hd⟩ hj => by
    refine ⟨y, ?_, hd⟩
    rw [List.getElem?_append] at hy
    split at hy
    · exact hy
    · rw [List.getElem?_eq_none (by simp; omega)] at hy; simp at hy
  refine { slots := fun n v hv => ?_, size := h.size, defers := h.defers, heap := ⟨fun id y hy => ?_, ?_, ?_, h.heap.sb, h.heap.st, fun j hj => ?_⟩, keep := h.keep, own := ?_, sn := h.sn, ss := h.ss, boxes := fun j hj => ?_, nbl := by simp; have := h.nbl; omega }
  · obtain ⟨h1, h2⟩ := h.slots n v hv
    exact ⟨h1, h2.mono hmono (fun _ _ h => h) (fun _ _ _ => rfl) hshp⟩
  · rw [List.getElem?_append] at hy
    split at hy
    · have := h.heap.br id y hy
      cases y with
      | dead => trivial
      | box cells => obtain ⟨M, h1, h2, h3⟩ := this; exact ⟨M, hmono _ _ h1, h2, hrr _ _ h3⟩
      | lst n rows =>
        rcases this with ⟨h1, h2⟩ | ⟨M, h1, h2, h3, h4, h5, h6⟩
        · exact .inl ⟨by rw [← hρ']; simp only; rw [if_neg (by omega)]; exact h1, h2⟩
        · exact .inr ⟨M, hmono _ _ h1, h2, h3, h4, hrr _ _ h5, h6⟩
    · obtain rfl : id = σ.hp.length := by
        have := (List.getElem?_eq_some_iff.1 hy).1
        simp at this
        omega
      simp at hy
      subst hy
      exact hbr
  · intro i j M M' b o hij hi hj hM hM' hLb hMb
    by_cases e1 : i = σ.hp.length
    · subst e1
      rw [hself] at hM
      obtain rfl := Option.some.inj hM
      exact hother j M' (liveOld j hj (fun e => hij e.symm)) (hback j M' (fun e => hij e.symm) hM') (hMb.1.symm.trans hLb.1)
    · by_cases e2 : j = σ.hp.length
      · subst e2
        rw [hself] at hM'
        obtain rfl := Option.some.inj hM'
        exact hother i M (liveOld i hi e1) (hback i M e1 hM) (hLb.1.symm.trans hMb.1)
      · exact h.heap.dj i j M M' b o hij (liveOld i hi e1) (liveOld j hj e2) (hback i M e1 hM) (hback j M' e2 hM') hLb hMb
  · intro p b hb j M hj hM
    by_cases e1 : j = σ.hp.length
    · subst e1
      rw [hself] at hM
      obtain rfl := Option.some.inj hM
      exact fun e => hS p b hb e.symm
    · exact h.heap.sd p b hb j M (liveOld j hj e1) (hback j M e1 hM)
  · simp only [List.length_append, List.length_cons, List.length_nil] at hj
    rw [← hρ']; simp only; rw [if_neg (by omega)]
    exact h.heap.fr j (by omega)
  · intro i M b o hi hM hb
    by_cases e1 : i = σ.hp.length
    · subst e1
      rw [hself] at hM
      obtain rfl := Option.some.inj hM
      rw [hb.1]
      exact hown o
    · exact h.own i M b o (liveOld i hi e1) (hback i M e1 hM) hb
  · rw [← hρ']
    simp only
    rw [if_neg (by have := h.nbl; omega)]
    exact h.boxes j hj

end
end Go.Zq
