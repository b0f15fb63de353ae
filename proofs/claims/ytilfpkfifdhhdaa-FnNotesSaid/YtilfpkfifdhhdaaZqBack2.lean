/- The caller's heap behind a call. -/
import Derived.Test.YtilfpkfifdhhdaaZqBack
set_option linter.unusedVariables false
set_option linter.unusedSimpArgs false
namespace Go.Zq
open Go

section
variable {P : Program} {w0 : World} {W : Nat → Nat → Prop} {S0 : Rds} {ρ0 : Rho} {nb N : Nat} {ρ ρ' : Rho} {S S' : Rds} {σ : St} {a : Act} {w w' : World} {e : Ent} {hp' : List Blk}

/-- What a callee may write. -/
def wOf (hp : List Blk) (ρ : Rho) (b o : Nat) : Prop := ∃ i L, live hp i ∧ ρ i = some L ∧ L.has b o

structure Cb (w0 : World) (W : Nat → Nat → Prop) (S0 : Rds) (ρ0 : Rho) (nb N : Nat) (ρ : Rho) (S : Rds) (σ : St) (a : Act) (w : World) (e : Ent) (ρ' : Rho) (S' : Rds) (hp' : List Blk) (w' : World) : Prop where
  sim : Sim w0 W S0 ρ0 nb N ρ S σ a w
  hs : srcOk σ.hp e.src = true
  hb : ∃ m, renBlks σ.hp e.src 0 e.src = some (e.hp, m)
  heap : Hp ρ' w' S' hp'
  keep : Keep (wOf e.hp (rho ρ e.src)) w w'
  own : ∀ i L b o, live hp' i → ρ' i = some L → L.has b o → wOf e.hp (rho ρ e.src) b o ∨ w.heap.size ≤ b
  sn : ∀ p b, S' p b → lentS S σ.hp ρ e.src e.bor p b ∨ w.heap.size ≤ b
  ss : ∀ p b, lentS S σ.hp ρ e.src e.bor p b → S' p b
  boxes : ∀ i, i < boxesOf e.src → ρ' i = rho ρ e.src i
  lent : e.bor = true → hp'.all blkNoLent = true

theorem Cb.ctx (c : Cb w0 W S0 ρ0 nb N ρ S σ a w e ρ' S' hp' w') : Ctx ρ w S σ.hp e.src e.bor ρ' S' (boxesOf e.src) w' := ⟨c.sim.heap.fr, c.boxes⟩

theorem Cb.wOld (c : Cb w0 W S0 ρ0 nb N ρ S σ a w e ρ' S' hp' w') {b o : Nat} (h : wOf e.hp (rho ρ e.src) b o) : ∃ k M s id L, k < e.src.length ∧ rho ρ e.src k = some M ∧ M.has b o ∧ e.src[k]? = some s ∧
    (s = .box id (M.base - L.base) M.sz ∧ L.base ≤ M.base ∧ L.whole = false ∧ M.whole = false ∧ M.base + M.sz ≤ L.base + L.sz ∨ (∃ off len, s = .lst id off len) ∧ L.whole = true ∧ M.whole = true) ∧
      live σ.hp id ∧ ρ id = some L ∧ M.blk = L.blk ∧ L.has b o := by
  obtain ⟨k, M, -, hM, hh⟩ := h
  obtain ⟨m, hb⟩ := c.hb
  obtain ⟨s, id, L, h1, h2, h3, h4, h5, h6⟩ := rho_old c.sim.heap c.hs hb hM
  exact ⟨k, M, s, id, L, (List.getElem?_eq_some_iff.1 h1).1, hM, hh, h1, h2, h3, h4, h5, h6 b o hh⟩

theorem Cb.noW (c : Cb w0 W S0 ρ0 nb N ρ S σ a w e ρ' S' hp' w') {i : Nat} {L : Loc} (hi : live σ.hp i) (hL : ρ i = some L) {b o : Nat} (hh : L.has b o)
    (h1 : ∀ (j off n : Nat), e.src[j]? = some (.box i off n) → ¬ (L.base + off ≤ o ∧ o < L.base + off + n)) (h2 : ∀ (j off len : Nat), e.src[j]? ≠ some (.lst i off len)) : ¬ wOf e.hp (rho ρ e.src) b o := by
  intro hw
  obtain ⟨k, M, s, id, L0, -, -, hM, hs, hc, hl, hL0, hbk, hh0⟩ := c.wOld hw
  by_cases e1 : id = i
  · subst e1
    obtain rfl : L0 = L := by rw [hL0] at hL; exact Option.some.inj hL
    rcases hc with ⟨rfl, g1, g2, g3, g4⟩ | ⟨⟨off, len, rfl⟩, -⟩
    · refine h1 k _ _ hs ?_
      obtain ⟨-, hm⟩ := hM
      simp only [g3, Bool.false_eq_true, false_or] at hm
      omega
    · exact h2 k off len hs
  · exact c.sim.heap.dj id i L0 L b o e1 hl hi hL0 hL hh0 hh

theorem Cb.same (c : Cb w0 W S0 ρ0 nb N ρ S σ a w e ρ' S' hp' w') : Same S w w' := fun p b hb => by
  refine c.keep.same (c.sim.heap.sb p b hb) fun o hw => ?_
  obtain ⟨k, M, s, id, L0, -, -, hM, hs, hc, hl, hL0, hbk, hh0⟩ := c.wOld hw
  exact c.sim.heap.sd p b hb id L0 hl hL0 hh0.1.symm

theorem Cb.old (c : Cb w0 W S0 ρ0 nb N ρ S σ a w e ρ' S' hp' w') : ∀ i L, ρ i = some L → rho2 ρ ρ' σ.hp.length (boxesOf e.src) i = some L := fun i L hL => by
  unfold rho2
  rw [if_pos]
  · exact hL
  · by_cases hlt : i < σ.hp.length
    · exact hlt
    · rw [c.sim.heap.fr i (by omega)] at hL; simp at hL

theorem Cb.sub (c : Cb w0 W S0 ρ0 nb N ρ S σ a w e ρ' S' hp' w') : ∀ p b, S p b → afterS S S' e.bor p b := fun p b hb => by
  unfold afterS
  split
  · exact .inl hb
  · exact c.ss p b (.inl hb)

theorem Cb.shp (c : Cb w0 W S0 ρ0 nb N ρ S σ a w e ρ' S' hp' w') : Shp ρ w w' := fun _ _ _ _ _ hs => c.keep.shape hs

theorem Cb.rt (c : Cb w0 W S0 ρ0 nb N ρ S σ a w e ρ' S' hp' w') {t : T} {v : Value} (h : RT ρ w S t v) : RT (rho2 ρ ρ' σ.hp.length (boxesOf e.src)) w' (afterS S S' e.bor) t v :=
  h.mono c.old c.sub c.same c.shp

theorem boxesOf_first {src : List Src} (h : ((src.drop (boxesOf src)).all notBox) = true) {k id o n : Nat} (hk : src[k]? = some (.box id o n)) : k < boxesOf src := by
  by_cases hlt : k < boxesOf src
  · exact hlt
  · have : (src.drop (boxesOf src))[k - boxesOf src]? = some (.box id o n) := by
      rw [List.getElem?_drop, show boxesOf src + (k - boxesOf src) = k by omega]
      exact hk
    have := List.all_eq_true.1 h _ (List.mem_of_getElem? this)
    simp [notBox] at this

theorem Cb.first (c : Cb w0 W S0 ρ0 nb N ρ S σ a w e ρ' S' hp' w') {k id o n : Nat} (hk : e.src[k]? = some (.box id o n)) : k < boxesOf e.src := by
  have := c.hs
  unfold srcOk at this
  simp only [Bool.and_eq_true] at this
  exact boxesOf_first this.2 hk

/-- A list among the sources is one. -/
theorem Cb.isLst (c : Cb w0 W S0 ρ0 nb N ρ S σ a w e ρ' S' hp' w') {k id o n : Nat} (hk : e.src[k]? = some (.lst id o n)) : ∃ sz rows, σ.hp[id]? = some (.lst sz rows) := by
  obtain ⟨m, hb⟩ := c.hb
  obtain ⟨b, -, n, rows, hsz, -, -⟩ := (renBlks_sound hb).2 _ _ hk
  simp only [szOf] at hsz
  cases hi : σ.hp[id]? with
  | none => simp [hi] at hsz
  | some x =>
    cases x with
    | lst sz rows => exact ⟨sz, rows, rfl⟩
    | _ => simp [hi] at hsz

/-- The heap on its way back: the sources ahead of k are done. -/
structure Inv (ρ : Rho) (ρ' : Rho) (S S' : Rds) (σ : St) (e : Ent) (hp' : List Blk) (w' : World) (k : Nat) (hc : List Blk) : Prop where
  len : hc.length = σ.hp.length
  gone : ∀ (i off len j : Nat), j < k → e.src[j]? = some (.lst i off len) → hc[i]? = some .dead
  box : ∀ (i : Nat) (cells : Row), hc[i]? = some (.box cells) → ∃ old, σ.hp[i]? = some (.box old) ∧ cells.length = old.length ∧ ∀ (c : Nat) (t : T), cells[c]? = some t →
    (∃ (j o n : Nat), k ≤ j ∧ e.src[j]? = some (.box i o n) ∧ o ≤ c ∧ c < o + n) ∨
    ∃ L v, ρ i = some L ∧ w'.cell? ⟨L.blk, L.base + c, none⟩ = some v ∧ RT (rho2 ρ ρ' σ.hp.length (boxesOf e.src)) w' (afterS S S' e.bor) t v
  lst : ∀ (i n : Nat) (rows : List Row), hc[i]? = some (.lst n rows) → σ.hp[i]? = some (.lst n rows)
  there : ∀ (j i o n : Nat), j < k → e.src[j]? = some (.box i o n) → ∃ new, hp'[j]? = some (.box new)

theorem Cb.inv (c : Cb w0 W S0 ρ0 nb N ρ S σ a w e ρ' S' hp' w') : Inv ρ ρ' S S' σ e hp' w' 0 σ.hp := by
  refine ⟨rfl, fun _ _ _ j hj => absurd hj (Nat.not_lt_zero _), fun i cells hi => ⟨cells, hi, rfl, fun k t hk => ?_⟩, fun _ _ _ h => h, fun j _ _ _ hj => absurd hj (Nat.not_lt_zero _)⟩
  by_cases hcov : ∃ (j o n : Nat), e.src[j]? = some (.box i o n) ∧ o ≤ k ∧ k < o + n
  · obtain ⟨j, o, n, h1, h2, h3⟩ := hcov
    exact .inl ⟨j, o, n, Nat.zero_le _, h1, h2, h3⟩
  · right
    obtain ⟨L, hL, hw, hl, hrr⟩ := c.sim.heap.locB hi
    obtain ⟨v, hv, hrv⟩ := hrr.cell 0 k t (by simpa using hk)
    have hkl := (List.getElem?_eq_some_iff.1 hk).1
    simp only [Nat.zero_mul, Nat.add_zero] at hv
    refine ⟨L, v, hL, c.keep.cell hv (c.noW ⟨_, hi, by simp⟩ hL ⟨rfl, .inr ⟨by omega, by omega⟩⟩ (fun j off n hj hcc => hcov ⟨j, off, n, hj, by omega, by omega⟩) (fun j off len hj => ?_)), c.rt hrv⟩
    obtain ⟨sz, rows, hr⟩ := c.isLst hj
    rw [hi] at hr
    simp at hr

theorem Cb.step (c : Cb w0 W S0 ρ0 nb N ρ S σ a w e ρ' S' hp' w') : ∀ (r : List Src) (k : Nat) (hc hp1 : List Blk), e.src.drop k = r → backBoxes e.src (boxesOf e.src) σ.hp.length hp' k r hc = some hp1 →
    Inv ρ ρ' S S' σ e hp' w' k hc → ∃ k', e.src.length ≤ k' ∧ Inv ρ ρ' S S' σ e hp' w' k' hp1 := by
  intro r
  induction r with
  | nil =>
    intro k hc hp1 hd hb hi
    simp only [backBoxes, Option.some.injEq] at hb
    subst hb
    refine ⟨k, ?_, hi⟩
    have := congrArg List.length hd
    simp at this
    omega
  | cons s r ih =>
    intro k hc hp1 hd hb hi
    have hsk : e.src[k]? = some s := by
      have : (e.src.drop k)[0]? = some s := by rw [hd]; rfl
      simpa [List.getElem?_drop] using this
    have hd' : e.src.drop (k + 1) = r := by rw [← List.drop_drop, hd]; rfl
    cases s with
    | nil n =>
      simp only [backBoxes] at hb
      refine ih (k + 1) hc hp1 hd' hb ⟨hi.len, fun i off len j hj hs => ?_, fun i cells hic => ?_, hi.lst, fun j i o n hj hs => ?_⟩
      · by_cases e1 : j = k
        · subst e1; rw [hsk] at hs; simp at hs
        · exact hi.gone i off len j (by omega) hs
      · obtain ⟨old, h1, h2, h3⟩ := hi.box i cells hic
        refine ⟨old, h1, h2, fun x t hx => ?_⟩
        rcases h3 x t hx with ⟨j, o, n, hj, hs, hr⟩ | h
        · refine .inl ⟨j, o, n, ?_, hs, hr⟩
          by_cases e1 : j = k
          · subst e1; rw [hsk] at hs; simp at hs
          · omega
        · exact .inr h
      · by_cases e1 : j = k
        · subst e1; rw [hsk] at hs; simp at hs
        · exact hi.there j i o n (by omega) hs
    | lst id off len =>
      simp only [backBoxes] at hb
      obtain ⟨sz, rows, hrows⟩ := c.isLst hsk
      have hlt : id < hc.length := by rw [hi.len]; exact (List.getElem?_eq_some_iff.1 hrows).1
      refine ih (k + 1) _ hp1 hd' hb ⟨by simp [hi.len], fun i off' len' j hj hs => ?_, fun i cells hic => ?_, fun i n rows hic => ?_, fun j i o n hj hs => ?_⟩
      · rw [List.getElem?_set]
        by_cases e2 : id = i
        · subst e2; simp [hlt]
        · rw [if_neg e2]
          by_cases e1 : j = k
          · subst e1; rw [hsk] at hs; simp at hs; exact absurd hs.1 e2
          · exact hi.gone i off' len' j (by omega) hs
      · rw [List.getElem?_set] at hic
        split at hic
        · simp at hic
        · obtain ⟨old, h1, h2, h3⟩ := hi.box i cells hic
          refine ⟨old, h1, h2, fun x t hx => ?_⟩
          rcases h3 x t hx with ⟨j, o, n, hj, hs, hr⟩ | h
          · refine .inl ⟨j, o, n, ?_, hs, hr⟩
            by_cases e1 : j = k
            · subst e1; rw [hsk] at hs; simp at hs
            · omega
          · exact .inr h
      · rw [List.getElem?_set] at hic
        split at hic
        · simp at hic
        · exact hi.lst i n rows hic
      · by_cases e1 : j = k
        · subst e1; rw [hsk] at hs; simp at hs
        · exact hi.there j i o n (by omega) hs
    | box id off n =>
      simp only [backBoxes] at hb
      split at hb
      · rename_i new cells hnew hcells
        obtain ⟨hn, hb1⟩ := of_ite hb
        simp only [Option.bind_eq_some_iff] at hb1
        obtain ⟨new2, hin, hb2⟩ := hb1
        obtain ⟨g1, g2⟩ := instRow_sound hin
        obtain ⟨old, ho1, ho2, ho3⟩ := hi.box id cells hcells
        obtain ⟨old', ho', hle, hpos⟩ := srcOk_box c.hs hsk
        obtain rfl : old = old' := by rw [ho1] at ho'; simpa using ho'
        have hkb := c.first hsk
        obtain ⟨L', hL', -, hl', hrr'⟩ := c.heap.locB hnew
        obtain ⟨L, hL, -, hlL, -⟩ := c.sim.heap.locB ho1
        rw [c.boxes k hkb] at hL'
        simp only [rho, hsk, hL, Option.map_some, Option.some.injEq] at hL'
        subst hL'
        have hidlt : id < hc.length := (List.getElem?_eq_some_iff.1 hcells).1
        refine ih (k + 1) _ hp1 hd' hb2 ⟨by simp [hi.len], fun i off' len' j hj hs => ?_, fun i cells' hic => ?_, fun i n' rows hic => ?_, fun j i o n' hj hs => ?_⟩
        · by_cases e1 : j = k
          · subst e1; rw [hsk] at hs; simp at hs
          · have := hi.gone i off' len' j (by omega) hs
            rw [List.getElem?_set]
            split
            · rename_i e2; subst e2; rw [hcells] at this; simp at this
            · exact this
        · rw [List.getElem?_set] at hic
          by_cases e2 : id = i
          · subst e2
            rw [if_pos rfl, if_pos hidlt] at hic
            simp only [Option.some.injEq, Blk.box.injEq] at hic
            subst hic
            have hwl : off + new2.length ≤ cells.length := by omega
            refine ⟨old, ho1, by rw [wr_length hwl, ho2], fun x t hx => ?_⟩
            rw [wr_get hwl] at hx
            split at hx
            · rename_i hxc
              right
              obtain ⟨t0, ht0, hit⟩ := g2 _ t hx
              obtain ⟨v, hv, hrv⟩ := hrr'.cell 0 (x - off) t0 (by simpa using ht0)
              refine ⟨L, v, hL, ?_, inst_rt c.ctx hrv hit (fun hbor => ?_)⟩
              · rw [← hv]
                congr 2
                simp only [Nat.zero_mul, Nat.add_zero]
                omega
              · have := List.all_eq_true.1 (c.lent hbor) _ (List.mem_of_getElem? hnew)
                exact List.all_eq_true.1 this t0 (List.mem_of_getElem? ht0)
            · rename_i hxc
              rcases ho3 x t hx with ⟨j, o, n', hj, hs, hr⟩ | h
              · refine .inl ⟨j, o, n', ?_, hs, hr⟩
                by_cases e1 : j = k
                · subst e1
                  rw [hsk] at hs
                  simp only [Option.some.injEq, Src.box.injEq, true_and] at hs
                  omega
                · omega
              · exact .inr h
          · rw [if_neg e2] at hic
            obtain ⟨old2, h1, h2, h3⟩ := hi.box i cells' hic
            refine ⟨old2, h1, h2, fun x t hx => ?_⟩
            rcases h3 x t hx with ⟨j, o, n', hj, hs, hr⟩ | h
            · refine .inl ⟨j, o, n', ?_, hs, hr⟩
              by_cases e1 : j = k
              · subst e1; rw [hsk] at hs; simp at hs; exact absurd hs.1 e2
              · omega
            · exact .inr h
        · rw [List.getElem?_set] at hic
          split at hic
          · simp at hic
          · exact hi.lst i n' rows hic
        · by_cases e1 : j = k
          · subst e1; exact ⟨new, hnew⟩
          · exact hi.there j i o n' (by omega) hs
      · simp at hb

end
end Go.Zq
