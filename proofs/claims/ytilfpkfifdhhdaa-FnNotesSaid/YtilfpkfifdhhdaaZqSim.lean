/- The state of a call, behind a slot's new value, a new block, a store, a block given up. -/
import Derived.Test.YtilfpkfifdhhdaaZqMem
import Derived.Test.YtilfpkfifdhhdaaZqComp
set_option linter.unusedVariables false
set_option linter.unusedSimpArgs false
namespace Go.Zq
open Go

section
variable {w0 : World} {W : Nat → Nat → Prop} {S0 : Rds} {ρ0 : Rho} {nb N : Nat} {ρ : Rho} {S : Rds} {σ : St} {a : Act} {w : World}

theorem lookup_cons (n d : Nat) (v : SV) (r : List (Nat × SV)) : lookup n ((d, v) :: r) = if d = n then some v else lookup n r := rfl

theorem put_getD {a : Act} {d : Nat} {u : Value} (hd : d < a.tmps.size) (n : Nat) : (a.put (some d) u).tmps.getD n undef = if d = n then u else a.tmps.getD n undef := by
  simp only [Act.put, Array.getD_eq_getD_getElem?, Array.getElem?_setIfInBounds]
  by_cases h : d = n
  · subst h; simp [hd]
  · simp [h]

theorem Sim.set (h : Sim w0 W S0 ρ0 nb N ρ S σ a w) {d : Option Nat} (hd : dstOk N d = true) {v : SV} {u : Value} (hv : RS ρ w S v u) :
    Sim w0 W S0 ρ0 nb N ρ S (setD σ d v) (a.put d u) w := by
  cases d with
  | none => exact h
  | some d =>
    have hd' : d < N := by simpa [dstOk] using hd
    refine { h with slots := fun n x hx => ?_, size := ?_, defers := h.defers }
    · simp only [setD, St.set, lookup_cons] at hx
      rw [put_getD (by rw [h.size]; exact hd')]
      by_cases e : d = n
      · subst e
        rw [if_pos rfl] at hx ⊢
        obtain rfl : v = x := by simpa using hx
        exact ⟨hd', hv⟩
      · rw [if_neg e] at hx ⊢
        exact h.slots n x hx
    · simp [Act.put, h.size]

theorem Keep.refl (W : Nat → Nat → Prop) (w : World) : Keep W w w :=
  ⟨rfl, rfl, rfl, Nat.le_refl _, fun _ c _ _ h => ⟨c, h, rfl, fun _ _ => rfl⟩, fun _ _ h _ => h⟩

theorem Keep.trans {W : Nat → Nat → Prop} {w w1 w2 : World} (h : Keep W w w1) (k : Keep (fun b o => W b o ∨ w.heap.size ≤ b) w1 w2) : Keep W w w2 := by
  refine ⟨k.os.trans h.os, k.tape.trans h.tape, k.output.trans h.output, Nat.le_trans h.size k.size, fun b c e z hc => ?_, fun b x hx hn => k.other b x (h.other b x hx hn) hn⟩
  obtain ⟨c1, h1, s1, v1⟩ := h.cells b c e z hc
  obtain ⟨c2, h2, s2, v2⟩ := k.cells b c1 e z h1
  refine ⟨c2, h2, s2.trans s1, fun o ho => ?_⟩
  have hb : b < w.heap.size := by
    by_cases hlt : b < w.heap.size
    · exact hlt
    · simp [hlt] at hc
  rw [v2 o (by intro hx; rcases hx with hx | hx; exact ho hx; omega), v1 o ho]

/-- The world's count of draws does not matter. -/
theorem Sim.drawn (h : Sim w0 W S0 ρ0 nb N ρ S σ a w) {w' : World} (hh : w'.heap = w.heap) (ho : w'.os = w.os) (ht : w'.tape = w.tape) (hp : w'.output = w.output) :
    Sim w0 W S0 ρ0 nb N ρ S σ a w' := by
  have hsame : Same S w w' := fun p b _ => by rw [hh]
  have hshp : Shp ρ w w' := fun i L e n _ hs => by rw [shape_of_heap (w := w) (by rw [hh])]; exact hs
  have hcell : ∀ b o, w'.cell? ⟨b, o, none⟩ = w.cell? ⟨b, o, none⟩ := fun b o => cell_of_heap (by rw [hh]) o
  have hrr : ∀ L rows, RR ρ w S L rows → RR ρ w' S L rows := fun L rows r =>
    ⟨by rw [hh]; exact r.obj, r.len, fun j k t ht => by obtain ⟨v, hv, hr⟩ := r.cell j k t ht; exact ⟨v, by rw [hcell]; exact hv, hr.mono (fun _ _ h => h) (fun _ _ h => h) hsame hshp⟩⟩
  refine { h with slots := fun n v hv => ?_, heap := ?_, keep := ?_ }
  · obtain ⟨h1, h2⟩ := h.slots n v hv
    exact ⟨h1, h2.mono (fun _ _ h => h) (fun _ _ h => h) hsame hshp⟩
  · refine { h.heap with br := fun id x hx => ?_, sb := fun p b hb => by rw [hh]; exact h.heap.sb p b hb }
    have := h.heap.br id x hx
    cases x with
    | dead => trivial
    | box cells => obtain ⟨L, h1, h2, h3⟩ := this; exact ⟨L, h1, h2, hrr _ _ h3⟩
    | lst sz rows =>
      rcases this with this | ⟨L, h1, h2, h3, h4, h5, h6⟩
      · exact .inl this
      · exact .inr ⟨L, h1, h2, h3, h4, hrr _ _ h5, h6⟩
  · exact ⟨ho.trans h.keep.os, ht.trans h.keep.tape, hp.trans h.keep.output, by rw [hh]; exact h.keep.size, by rw [hh]; exact h.keep.cells, by rw [hh]; exact h.keep.other⟩

/-- One more block, at the world's end. -/
theorem Sim.push (h : Sim w0 W S0 ρ0 nb N ρ S σ a w) (arr : Array Value) (e : TypeId) (x : Blk) (hx : x ≠ .dead) (sz : Nat) (wh : Bool)
    (hx' : match x with
      | .dead => False
      | .box cells => (wh = false ∧ 0 < sz) ∧ cells.length = sz ∧ sz ≤ arr.size ∧ ∀ (k : Nat) (t : T), cells[k]? = some t → ∃ u, arr[k]? = some u ∧ RT ρ w S t u
      | .lst n rows => wh = true ∧ n = sz ∧ 0 < sz ∧ rows.length * sz ≤ arr.size ∧ (∀ r ∈ rows, r.length = sz) ∧ (∀ r ∈ rows, r.all inList = true) ∧
        ∀ (j k : Nat) (t : T), (rows[j]?).bind (·[k]?) = some t → ∃ u, arr[j * sz + k]? = some u ∧ RT ρ w S t u) :
    Sim w0 W S0 ρ0 nb N (fun j => if j = σ.hp.length then some ⟨w.heap.size, 0, sz, wh⟩ else ρ j) S ⟨σ.sl, σ.hp ++ [x]⟩ a { w with heap := w.heap.push (.cells arr e) } := by
  generalize hρ' : (fun j => if j = σ.hp.length then some (⟨w.heap.size, 0, sz, wh⟩ : Loc) else ρ j) = ρ'
  generalize hw' : ({ w with heap := w.heap.push (.cells arr e) } : World) = w'
  have hheap : w'.heap = w.heap.push (.cells arr e) := by rw [← hw']
  have old : ∀ b, b < w.heap.size → w'.heap[b]? = w.heap[b]? := fun b hb => by rw [hheap, Array.getElem?_push, if_neg (by omega)]
  have hnew : w'.heap[w.heap.size]? = some (.cells arr e) := by rw [hheap]; simp
  have hlt : ∀ j L, ρ j = some L → j < σ.hp.length := fun j L hj => by
    by_cases hl : j < σ.hp.length
    · exact hl
    · rw [h.heap.fr j (by omega)] at hj; simp at hj
  have hmono : ∀ j L, ρ j = some L → ρ' j = some L := fun j L hj => by rw [← hρ']; simp only; rw [if_neg (by have := hlt j L hj; omega)]; exact hj
  have hsame : Same S w w' := fun p b hb => old b (h.heap.sb p b hb)
  have shapeLt : ∀ b y, w.shape? b = some y → b < w.heap.size := fun b y hy => by
    by_cases hl : b < w.heap.size
    · exact hl
    · simp [World.shape?, hl] at hy
  have hshp : Shp ρ w w' := fun i L e n _ hs => by rw [shape_of_heap (old _ (shapeLt _ _ hs))]; exact hs
  have objLt : ∀ b y, w.heap[b]? = some y → b < w.heap.size := fun b y hy => by
    by_cases hl : b < w.heap.size
    · exact hl
    · simp [hl] at hy
  have hrt : ∀ t v, RT ρ w S t v → RT ρ' w' S t v := fun t v ht => ht.mono hmono (fun _ _ h => h) hsame hshp
  have hrr : ∀ L rows, RR ρ w S L rows → RR ρ' w' S L rows := fun L rows r => by
    obtain ⟨c, e', hc, hs⟩ := r.obj
    refine ⟨⟨c, e', by rw [old _ (objLt _ _ hc)]; exact hc, hs⟩, r.len, fun j k t ht => ?_⟩
    obtain ⟨v, hv, hr⟩ := r.cell j k t ht
    exact ⟨v, by rw [cell_of_heap (old _ (objLt _ _ hc))]; exact hv, hrt _ _ hr⟩
  have hcellnew : ∀ k u, arr[k]? = some u → w'.cell? ⟨w.heap.size, k, none⟩ = some u := fun k u hu => by simp [World.cell?, hnew, hu]
  have liveOld : ∀ j, live (σ.hp ++ [x]) j → j ≠ σ.hp.length → live σ.hp j := fun j ⟨y, hy, hd⟩ hj => by
    refine ⟨y, ?_, hd⟩
    rw [List.getElem?_append] at hy
    split at hy
    · exact hy
    · rw [List.getElem?_eq_none (by simp; omega)] at hy; simp at hy
  have locLt : ∀ j L, live σ.hp j → ρ j = some L → L.blk < w.heap.size := fun j L ⟨y, hy, hd⟩ hj => by
    have := h.heap.br j y hy
    cases y with
    | dead => exact absurd rfl hd
    | box cells =>
      obtain ⟨M, h1, -, h3⟩ := this
      obtain rfl : M = L := by rw [hj] at h1; simpa using h1.symm
      obtain ⟨c, e', hc, -⟩ := h3.obj
      exact objLt _ _ hc
    | lst n rows =>
      rcases this with ⟨h1, -⟩ | ⟨M, h1, -, -, -, h3, -⟩
      · rw [hj] at h1; simp at h1
      · obtain rfl : M = L := by rw [hj] at h1; simpa using h1.symm
        obtain ⟨c, e', hc, -⟩ := h3.obj
        exact objLt _ _ hc
  have hself : ρ' σ.hp.length = some ⟨w.heap.size, 0, sz, wh⟩ := by rw [← hρ']; simp
  refine { slots := fun n v hv => ?_, size := h.size, defers := h.defers, heap := ?_, keep := ?_, own := ?_, sn := h.sn, ss := h.ss, boxes := fun j hj => ?_, nbl := by simp; have := h.nbl; omega }
  · obtain ⟨h1, h2⟩ := h.slots n v hv
    exact ⟨h1, h2.mono hmono (fun _ _ h => h) hsame hshp⟩
  · refine ⟨fun id y hy => ?_, ?_, ?_, fun p b hb => by rw [hheap]; simp; have := h.heap.sb p b hb; omega, h.heap.st, fun j hj => ?_⟩
    · rw [List.getElem?_append] at hy
      split at hy
      · have := h.heap.br id y hy
        cases y with
        | dead => trivial
        | box cells => obtain ⟨L, h1, h2, h3⟩ := this; exact ⟨L, hmono _ _ h1, h2, hrr _ _ h3⟩
        | lst n rows =>
          rcases this with ⟨h1, h2⟩ | ⟨L, h1, h2, h3, h4, h5, h6⟩
          · refine .inl ⟨?_, h2⟩
            rw [← hρ']; simp only; rw [if_neg (by omega)]; exact h1
          · exact .inr ⟨L, hmono _ _ h1, h2, h3, h4, hrr _ _ h5, h6⟩
      · rename_i hge
        obtain rfl : id = σ.hp.length := by
          have := (List.getElem?_eq_some_iff.1 hy).1
          simp at this
          omega
        simp at hy
        subst hy
        cases x with
        | dead => exact absurd rfl hx
        | box cells =>
          obtain ⟨⟨rfl, h0⟩, h2, h3, h4⟩ := hx'
          refine ⟨_, hself, ⟨rfl, h0⟩, ⟨⟨arr, e, hnew, by simpa using h3⟩, by simpa using h2, fun j k t ht => ?_⟩⟩
          cases j with
          | zero =>
            simp at ht
            obtain ⟨u, hu, hr⟩ := h4 k t ht
            exact ⟨u, by simpa using hcellnew k u hu, hrt _ _ hr⟩
          | succ j => simp at ht
        | lst n rows =>
          obtain ⟨rfl, h2, h3, h4, h5, h6, h7⟩ := hx'
          refine .inr ⟨_, hself, rfl, h2.symm, by omega, ⟨⟨arr, e, hnew, by simpa using h4⟩, h5, fun j k t ht => ?_⟩, h6⟩
          obtain ⟨u, hu, hr⟩ := h7 j k t ht
          exact ⟨u, by simpa using hcellnew _ u hu, hrt _ _ hr⟩
    · intro i j L M b o hij hi hj hL hM hLb hMb
      by_cases e1 : i = σ.hp.length
      · subst e1
        have hj' := liveOld j hj (fun e => hij e.symm)
        rw [hself] at hL
        obtain rfl := by simpa using hL
        have hM' : ρ j = some M := by rw [← hρ'] at hM; simp only at hM; rwa [if_neg (fun e => hij e.symm)] at hM
        have := locLt j M hj' hM'
        have h1 := hLb.1
        have h2 := hMb.1
        simp only at h1
        omega
      · have hi' := liveOld i hi e1
        have hL' : ρ i = some L := by rw [← hρ'] at hL; simp only at hL; rwa [if_neg e1] at hL
        by_cases e2 : j = σ.hp.length
        · subst e2
          rw [hself] at hM
          obtain rfl := by simpa using hM
          have := locLt i L hi' hL'
          have h1 := hLb.1
          have h2 := hMb.1
          simp only at h2
          omega
        · have hM' : ρ j = some M := by rw [← hρ'] at hM; simp only at hM; rwa [if_neg e2] at hM
          exact h.heap.dj i j L M b o hij hi' (liveOld j hj e2) hL' hM' hLb hMb
    · intro p b hb j L hj hL
      by_cases e1 : j = σ.hp.length
      · subst e1
        rw [hself] at hL
        obtain rfl := by simpa using hL
        have := h.heap.sb p b hb
        simp only
        omega
      · have hL' : ρ j = some L := by rw [← hρ'] at hL; simp only at hL; rwa [if_neg e1] at hL
        exact h.heap.sd p b hb j L (liveOld j hj e1) hL'
    · simp only [List.length_append, List.length_cons, List.length_nil] at hj
      rw [← hρ']; simp only; rw [if_neg (by omega)]
      exact h.heap.fr j (by omega)
  · refine h.keep.trans ⟨by rw [← hw'], by rw [← hw'], by rw [← hw'], by rw [hheap]; simp, fun b c e' z hc => ⟨c, by rw [old _ (objLt _ _ hc)]; exact hc, rfl, fun _ _ => rfl⟩,
      fun b y hy _ => by rw [old _ (objLt _ _ hy)]; exact hy⟩
  · intro i L b o hi hL hb
    by_cases e1 : i = σ.hp.length
    · subst e1
      rw [hself] at hL
      obtain rfl := by simpa using hL
      right
      have := h.keep.size
      have h1 := hb.1
      simp only at h1
      omega
    · have hL' : ρ i = some L := by rw [← hρ'] at hL; simp only at hL; rwa [if_neg e1] at hL
      exact h.own i L b o (liveOld i hi e1) hL' hb
  · rw [← hρ']
    simp only
    rw [if_neg (by have := h.nbl; omega)]
    exact h.boxes j hj

end
end Go.Zq
