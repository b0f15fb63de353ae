/- The state of a call behind a store, and behind a block given up. -/
import Derived.Test.YtilfpkfifdhhdaaZqSim
set_option linter.unusedVariables false
set_option linter.unusedSimpArgs false
namespace Go.Zq
open Go

section
variable {w0 : World} {W : Nat → Nat → Prop} {S0 : Rds} {ρ0 : Rho} {nb N : Nat} {ρ : Rho} {S : Rds} {σ : St} {a : Act} {w : World}

theorem live_set {hp : List Blk} {id j : Nat} {x : Blk} (h : live (hp.set id x) j) (hne : j ≠ id) : live hp j := by
  obtain ⟨y, hy, hd⟩ := h
  rw [List.getElem?_set_ne (by omega)] at hy
  exact ⟨y, hy, hd⟩

theorem Hp.kill {hp : List Blk} (h : Hp ρ w S hp) (id : Nat) : Hp ρ w S (hp.set id .dead) := by
  have lv : ∀ j, live (hp.set id .dead) j → live hp j := fun j hj => by
    by_cases e : j = id
    · subst e
      obtain ⟨y, hy, hd⟩ := hj
      rw [List.getElem?_set] at hy
      simp only [if_true] at hy
      split at hy
      · exact absurd (by simpa using hy.symm) hd
      · simp at hy
    · exact live_set hj e
  refine ⟨fun j y hy => ?_, fun i j L M b o hij hi hj => h.dj i j L M b o hij (lv i hi) (lv j hj), fun p b hb j L hj => h.sd p b hb j L (lv j hj), h.sb, h.st, fun j hj => h.fr j (by simpa using hj)⟩
  by_cases e : j = id
  · subst e
    rw [List.getElem?_set] at hy
    simp only [if_true] at hy
    split at hy
    · obtain rfl : Blk.dead = y := by simpa using hy
      trivial
    · simp at hy
  · rw [List.getElem?_set_ne (by omega)] at hy
    exact h.br j y hy

theorem Sim.kill (h : Sim w0 W S0 ρ0 nb N ρ S σ a w) (id : Nat) : Sim w0 W S0 ρ0 nb N ρ S ⟨σ.sl, σ.hp.set id .dead⟩ a w := by
  refine { h with slots := h.slots, heap := h.heap.kill id, own := fun i L b o hi => h.own i L b o ?_, nbl := by simpa using h.nbl }
  by_cases e : i = id
  · subst e
    obtain ⟨y, hy, hd⟩ := hi
    rw [List.getElem?_set] at hy
    simp only [if_true] at hy
    split at hy
    · exact absurd (by simpa using hy.symm) hd
    · simp at hy
  · exact live_set hi e

/-- A live number's block is there, and is one of cells that may be written. -/
theorem Hp.obj {hp : List Blk} (h : Hp ρ w S hp) {id : Nat} {L : Loc} (hl : live hp id) (hL : ρ id = some L) :
    ∃ c e, w.heap[L.blk]? = some (.cells c e (0, 0)) ∧ (L.whole = false → L.base + L.sz ≤ c.size) := by
  obtain ⟨x, hx, hd⟩ := hl
  have := h.br id x hx
  cases x with
  | dead => exact absurd rfl hd
  | box cells =>
    obtain ⟨M, h1, -, h3⟩ := this
    obtain rfl : M = L := by rw [hL] at h1; simpa using h1.symm
    obtain ⟨c, e, hc, hs⟩ := h3.obj
    exact ⟨c, e, hc, fun _ => by simpa using hs⟩
  | lst n rows =>
    rcases this with ⟨h1, -⟩ | ⟨M, h1, h2, -, -, h3, -⟩
    · rw [hL] at h1; simp at h1
    · obtain rfl : M = L := by rw [hL] at h1; simpa using h1.symm
      obtain ⟨c, e, hc, hs⟩ := h3.obj
      exact ⟨c, e, hc, fun hf => by rw [h2] at hf; simp at hf⟩

/-- A list's block is no other number's. -/
theorem Hp.alone {hp : List Blk} (h : Hp ρ w S hp) {id j : Nat} {L M : Loc} (hl : live hp id) (hL : ρ id = some L) (hw : L.whole = true) (hj : live hp j) (hM : ρ j = some M) (hne : j ≠ id) : M.blk ≠ L.blk := by
  intro e
  obtain ⟨y, hy, hd⟩ := hj
  have hb := h.br j y hy
  cases y with
  | dead => exact absurd rfl hd
  | box cells =>
    obtain ⟨M', hM', ⟨hw', hpos⟩, -⟩ := hb
    obtain rfl : M = M' := by rw [hM] at hM'; exact Option.some.inj hM'
    exact h.dj j id M L M.blk M.base hne ⟨_, hy, hd⟩ hl hM hL ⟨rfl, .inr ⟨Nat.le_refl _, by omega⟩⟩ ⟨e, .inl hw⟩
  | lst n rows =>
    rcases hb with ⟨hn, -⟩ | ⟨M', hM', hw', -⟩
    · rw [hM] at hn; simp at hn
    · obtain rfl : M = M' := by rw [hM] at hM'; exact Option.some.inj hM'
      exact h.dj j id M L M.blk 0 hne ⟨_, hy, hd⟩ hl hM hL ⟨rfl, .inl hw'⟩ ⟨e, .inl hw⟩

theorem live_kill {hp : List Blk} {id j : Nat} (h : live (hp.set id .dead) j) : j ≠ id ∧ live hp j := by
  have hne : j ≠ id := by
    intro e
    subst e
    obtain ⟨y, hy, hd⟩ := h
    rw [List.getElem?_set] at hy
    simp only [if_true] at hy
    split at hy
    · exact absurd (by simpa using hy.symm) hd
    · simp at hy
  exact ⟨hne, live_set h hne⟩

theorem Hp.mem {hp : List Blk} (h : Hp ρ w S hp) {id : Nat} {L : Loc} (hl : live hp id) (hL : ρ id = some L) {w' : World} {off : Nat} {vs : List Value}
    (hw : Wrote w w' L.blk off vs) : Same S w w' ∧ Shp ρ w w' :=
  ⟨fun p b hb => hw.other b (fun e => h.sd p b hb id L hl hL e.symm), fun _ _ _ _ _ hs => hw.shape hs⟩

theorem Hp.rt {hp : List Blk} (h : Hp ρ w S hp) {id : Nat} {L : Loc} (hl : live hp id) (hL : ρ id = some L) {w' : World} {off : Nat} {vs : List Value}
    (hw : Wrote w w' L.blk off vs) {t : T} {v : Value} (ht : RT ρ w S t v) : RT ρ w' S t v :=
  ht.mono (fun _ _ h => h) (fun _ _ h => h) (h.mem hl hL hw).1 (h.mem hl hL hw).2

/-- Rows elsewhere stay. -/
theorem Hp.rr {hp : List Blk} (h : Hp ρ w S hp) {id j : Nat} {L M : Loc} (hl : live hp id) (hL : ρ id = some L) (hj : live hp j) (hM : ρ j = some M) (hne : j ≠ id)
    {w' : World} {off : Nat} {vs : List Value} (hw : Wrote w w' L.blk off vs) (hr : ∀ o, off ≤ o → o < off + vs.length → L.has L.blk o) {rows : List Row}
    (hin : ∀ k r o, rows[k]? = some r → o < r.length → M.has M.blk (M.base + k * M.sz + o)) (r : RR ρ w S M rows) : RR ρ w' S M rows := by
  obtain ⟨c, e, hc, hs⟩ := r.obj
  refine ⟨?_, r.len, fun jj k t ht => ?_⟩
  · by_cases e1 : M.blk = L.blk
    · rw [e1] at hc ⊢
      obtain ⟨c', h', hs', -⟩ := hw.here c e (0, 0) hc
      exact ⟨c', e, h', by omega⟩
    · exact ⟨c, e, by rw [hw.other _ e1]; exact hc, hs⟩
  · obtain ⟨v, hv, hrt⟩ := r.cell jj k t ht
    refine ⟨v, hw.cell hv ?_, h.rt hl hL hw hrt⟩
    by_cases e1 : M.blk = L.blk
    · right
      by_cases e2 : M.base + jj * M.sz + k < off ∨ off + vs.length ≤ M.base + jj * M.sz + k
      · exact e2
      · exfalso
        have h1 := hr (M.base + jj * M.sz + k) (by omega) (by omega)
        cases hrow : rows[jj]? with
        | none => simp [hrow] at ht
        | some row =>
          simp only [hrow, Option.bind_some] at ht
          have h2 := hin jj row k hrow (List.getElem?_eq_some_iff.1 ht).1
          rw [e1] at h2
          exact h.dj id j L M _ _ (by omega) hl hj hL hM h1 (by obtain ⟨-, h2⟩ := h2; exact ⟨e1.symm, h2⟩)
    · exact .inl e1

theorem Sim.write (h : Sim w0 W S0 ρ0 nb N ρ S σ a w) {id : Nat} {L : Loc} (hl : live σ.hp id) (hL : ρ id = some L) {w' : World} {off : Nat} {vs : List Value}
    (hw : Wrote w w' L.blk off vs) (hr : ∀ o, off ≤ o → o < off + vs.length → L.has L.blk o) (x : Blk) (hbr : BR ρ w' S id x) :
    Sim w0 W S0 ρ0 nb N ρ S ⟨σ.sl, σ.hp.set id x⟩ a w' := by
  obtain ⟨hsame, hshp⟩ := h.heap.mem hl hL hw
  have lv : ∀ j, live (σ.hp.set id x) j → live σ.hp j := fun j hj => by
    by_cases e : j = id
    · subst e; exact hl
    · exact live_set hj e
  have objLt : ∀ b y, w.heap[b]? = some y → b < w.heap.size := fun b y hy => by
    by_cases hl : b < w.heap.size
    · exact hl
    · simp [hl] at hy
  refine { slots := fun n v hv => ?_, size := h.size, defers := h.defers, heap := ?_, keep := ?_, own := fun i M b o hi => h.own i M b o (lv i hi), sn := h.sn, ss := h.ss, boxes := h.boxes, nbl := by simpa using h.nbl }
  · obtain ⟨h1, h2⟩ := h.slots n v hv
    exact ⟨h1, h2.mono (fun _ _ h => h) (fun _ _ h => h) hsame hshp⟩
  · refine ⟨fun j y hy => ?_, fun i j M M' b o hij hi hj => h.heap.dj i j M M' b o hij (lv i hi) (lv j hj), fun p b hb j M hj => h.heap.sd p b hb j M (lv j hj),
      fun p b hb => by rw [hw.size]; exact h.heap.sb p b hb, h.heap.st, fun j hj => h.heap.fr j (by simpa using hj)⟩
    by_cases e : j = id
    · subst e
      rw [List.getElem?_set] at hy
      simp only [if_true] at hy
      split at hy
      · obtain rfl : x = y := by simpa using hy
        exact hbr
      · simp at hy
    · rw [List.getElem?_set_ne (by omega)] at hy
      have := h.heap.br j y hy
      cases y with
      | dead => trivial
      | box cells =>
        obtain ⟨M, h1, h2, h3⟩ := this
        refine ⟨M, h1, h2, h.heap.rr hl hL ⟨_, hy, by simp⟩ h1 e hw hr (fun k r o hk ho => ⟨rfl, .inr ?_⟩) h3⟩
        have hk0 : k = 0 := by
          have := (List.getElem?_eq_some_iff.1 hk).1
          simp at this
          omega
        subst hk0
        simp at hk
        subst hk
        have := h3.len cells (by simp)
        simp
        omega
      | lst n rows =>
        rcases this with this | ⟨M, h1, h2, h3, h4, h5, h6⟩
        · exact .inl this
        · exact .inr ⟨M, h1, h2, h3, h4, h.heap.rr hl hL ⟨_, hy, by simp⟩ h1 e hw hr (fun k r o hk ho => ⟨rfl, .inl h2⟩) h5, h6⟩
  · refine h.keep.trans ⟨hw.os, hw.tape, hw.output, by rw [hw.size]; exact Nat.le_refl _, fun b c e z hc => ?_, fun b y hy hn => ?_⟩
    · by_cases e1 : b = L.blk
      · subst e1
        obtain ⟨c', h', hs, hv⟩ := hw.here c e z hc
        refine ⟨c', h', hs, fun o ho => ?_⟩
        rw [hv o, if_neg]
        rintro ⟨h1, h2, h3⟩
        exact ho (h.own id L L.blk o hl hL (hr o h1 h2))
      · exact ⟨c, by rw [hw.other b e1]; exact hc, rfl, fun _ _ => rfl⟩
    · by_cases e1 : b = L.blk
      · subst e1; exact hw.obj y hy hn
      · rw [hw.other b e1]; exact hy

end
end Go.Zq
