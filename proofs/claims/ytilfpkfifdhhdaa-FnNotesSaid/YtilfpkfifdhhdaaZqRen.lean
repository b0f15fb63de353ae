/- A part of the heap numbered anew. -/
import Derived.Test.YtilfpkfifdhhdaaZqStep
set_option linter.unusedVariables false
set_option linter.unusedSimpArgs false
namespace Go.Zq
open Go

section
variable {P : Program} {ρ : Rho} {S Se : Rds} {w : World} {hp hp' : List Blk} {src : List Src}

/-- Where the new numbers lead. -/
def rho (ρ : Rho) (src : List Src) : Rho := fun j =>
  match src[j]? with
  | some (.box id off n) => (ρ id).map fun L => ⟨L.blk, L.base + off, n, false⟩
  | some (.lst id off _) => (ρ id).map fun L => ⟨L.blk, L.base + off * L.sz, L.sz, true⟩
  | _ => none

theorem findB_sound : ∀ {l : List Src} {k j off i d : Nat}, findB l k j off = some (i, d) → ∃ o n, k ≤ i ∧ l[i - k]? = some (.box j o n) ∧ o ≤ off ∧ off < o + n ∧ d = off - o
  | [], _, _, _, _, _, h => by simp [findB] at h
  | .box id o n :: r, k, j, off, i, d, h => by
    simp only [findB] at h
    split at h
    · rename_i hc
      simp only [Option.some.injEq, Prod.mk.injEq] at h
      obtain ⟨rfl, rfl⟩ := h
      exact ⟨o, n, Nat.le_refl _, by simp [hc.1], hc.2.1, hc.2.2, rfl⟩
    · obtain ⟨o', n', h1, h2, h3⟩ := findB_sound h
      exact ⟨o', n', by omega, by rw [show i - k = (i - (k + 1)) + 1 by omega, List.getElem?_cons_succ]; exact h2, h3⟩
  | .lst .. :: r, k, j, off, i, d, h => by
    simp only [findB] at h
    obtain ⟨o', n', h1, h2, h3⟩ := findB_sound h
    exact ⟨o', n', by omega, by rw [show i - k = (i - (k + 1)) + 1 by omega, List.getElem?_cons_succ]; exact h2, h3⟩
  | .nil _ :: r, k, j, off, i, d, h => by
    simp only [findB] at h
    obtain ⟨o', n', h1, h2, h3⟩ := findB_sound h
    exact ⟨o', n', by omega, by rw [show i - k = (i - (k + 1)) + 1 by omega, List.getElem?_cons_succ]; exact h2, h3⟩

theorem findL_sound : ∀ {l : List Src} {k id off len i : Nat}, findL l k id off len = some i → k ≤ i ∧ l[i - k]? = some (.lst id off len)
  | [], _, _, _, _, _, h => by simp [findL] at h
  | .lst id' o n :: r, k, id, off, len, i, h => by
    simp only [findL] at h
    split at h
    · rename_i hc
      obtain rfl := Option.some.inj h
      obtain ⟨rfl, rfl, rfl⟩ := hc
      exact ⟨Nat.le_refl _, by simp⟩
    · obtain ⟨h1, h2⟩ := findL_sound h
      exact ⟨by omega, by rw [show i - k = (i - (k + 1)) + 1 by omega, List.getElem?_cons_succ]; exact h2⟩
  | .box .. :: r, k, id, off, len, i, h => by
    simp only [findL] at h
    obtain ⟨h1, h2⟩ := findL_sound h
    exact ⟨by omega, by rw [show i - k = (i - (k + 1)) + 1 by omega, List.getElem?_cons_succ]; exact h2⟩
  | .nil _ :: r, k, id, off, len, i, h => by
    simp only [findL] at h
    obtain ⟨h1, h2⟩ := findL_sound h
    exact ⟨by omega, by rw [show i - k = (i - (k + 1)) + 1 by omega, List.getElem?_cons_succ]; exact h2⟩

/-- A pointer. -/
theorem renP_sound {t t' : T} (hr : renP src t = some t') : ∃ id off k o n, t = .ptr id 0 off ∧ t' = .ptr k 0 (off - o) ∧ src[k]? = some (.box id o n) ∧ o ≤ off := by
  unfold renP at hr
  split at hr
  · obtain ⟨rfl, hr1⟩ := of_ite hr
    simp only [Option.bind_eq_some_iff, Option.some.injEq] at hr1
    obtain ⟨⟨k, d⟩, hf, rfl⟩ := hr1
    obtain ⟨o, n, -, h2, h3, -, rfl⟩ := findB_sound hf
    exact ⟨_, _, k, o, n, rfl, rfl, by simpa using h2, h3⟩
  · simp at hr

theorem renPs_sound : ∀ {l l' : List T}, renPs src l = some l' → l'.length = l.length ∧ ∀ (k : Nat) (t' : T), l'[k]? = some t' → ∃ t, l[k]? = some t ∧ renP src t = some t'
  | [], l', h => by
    simp only [renPs, Option.some.injEq] at h
    subst h
    exact ⟨rfl, fun k t h => by simp at h⟩
  | t :: r, l', h => by
    simp only [renPs, Option.bind_eq_some_iff, Option.some.injEq] at h
    obtain ⟨t1, h1, r1, h2, rfl⟩ := h
    obtain ⟨h3, h4⟩ := renPs_sound h2
    refine ⟨by simp [h3], fun k t' ht' => ?_⟩
    cases k with
    | zero =>
      simp only [List.getElem?_cons_zero, Option.some.injEq] at ht'
      subst ht'
      exact ⟨t, rfl, h1⟩
    | succ k => exact h4 k t' (by simpa using ht')

theorem renP_rt {t t' : T} {v : Value} (h : RT ρ w S t v) (hr : renP src t = some t') : RT (rho ρ src) w Se t' v := by
  obtain ⟨id, off, k, o, n, rfl, rfl, hs, hle⟩ := renP_sound hr
  cases h with
  | ri h => cases h
  | ptr hL =>
    rename_i L
    have := RT.ptr (w := w) (S := Se) (ρ := rho ρ src) (id := k) (row := 0) (off := off - o) (L := ⟨L.blk, L.base + o, n, false⟩) (by simp [rho, hs, hL])
    simpa [show L.base + o + (off - o) = L.base + off by omega] using this

theorem renPs_clo {f : FuncId} {caps caps' : List T} {v : Value} (h : RT ρ w S (.clo f caps) v) (hr : renPs src caps = some caps') : RT (rho ρ src) w Se (.clo f caps') v := by
  cases h with
  | ri h => cases h
  | clo hn h =>
    rename_i vs
    obtain ⟨h1, h2⟩ := renPs_sound hr
    refine .clo (by omega) fun k t' ht' => ?_
    obtain ⟨t, ht, hrt⟩ := h2 k t' ht'
    obtain ⟨id, off, i, o, n, rfl, rfl, hs, hle⟩ := renP_sound hrt
    obtain ⟨id', row', off', L, e, hL, hv⟩ := h k _ ht
    simp only [T.ptr.injEq] at e
    obtain ⟨rfl, rfl, rfl⟩ := e
    refine ⟨i, 0, off - o, ⟨L.blk, L.base + o, n, false⟩, rfl, by simp [rho, hs, hL], ?_⟩
    rw [hv]
    simp [show L.base + o + (off - o) = L.base + off by omega]

/-- A cell keeps its meaning. -/
theorem ren_rt (hS : ∀ p b, S p b → Se p b) {t t' : T} {m m' : Nat} {v : Value} (h : RT ρ w S t v) (hr : ren src m t = some (t', m')) : RT (rho ρ src) w Se t' v := by
  cases t with
  | lit x =>
    simp only [ren, Option.some.injEq, Prod.mk.injEq] at hr
    obtain ⟨rfl, -⟩ := hr
    cases h with
    | ri h => exact .ri (h.mono hS (fun _ _ _ => rfl))
  | imm p n rows =>
    simp only [ren, Option.some.injEq, Prod.mk.injEq] at hr
    obtain ⟨rfl, -⟩ := hr
    cases h with
    | ri h => exact .ri (h.mono hS (fun _ _ _ => rfl))
  | nls n =>
    simp only [ren, Option.bind_eq_some_iff, Option.some.injEq, Prod.mk.injEq] at hr
    obtain ⟨k, -, rfl, -⟩ := hr
    cases h with
    | ri h => cases h; exact .nil
  | sl id off len =>
    simp only [ren, Option.bind_eq_some_iff, Option.some.injEq, Prod.mk.injEq] at hr
    obtain ⟨k, hk, rfl, -⟩ := hr
    obtain ⟨-, hk⟩ := findL_sound hk
    simp only [Nat.sub_zero] at hk
    cases h with
    | ri h => cases h
    | nil => exact .nil
    | sl hL hc hs ha =>
      rename_i L e n
      refine .sl (L := ⟨L.blk, L.base + off * L.sz, L.sz, true⟩) (by simp [rho, hk, hL]) hc hs ?_
      rcases ha with ha | ⟨rfl, ha⟩
      · exact .inl ha
      · refine .inr ⟨by simp, ?_⟩
        simp only [Nat.zero_add]
        rw [Nat.add_mul] at ha
        omega
  | clo f caps =>
    simp only [ren, Option.bind_eq_some_iff, Option.some.injEq, Prod.mk.injEq] at hr
    obtain ⟨caps', hc, rfl, -⟩ := hr
    exact renPs_clo h hc
  | ptr id row off =>
    simp only [ren, Option.bind_eq_some_iff, Option.some.injEq, Prod.mk.injEq] at hr
    obtain ⟨t1, ht, rfl, -⟩ := hr
    exact renP_rt h ht
  | ip cells => simp [ren] at hr

theorem renRow_sound : ∀ {l l' : Row} {m m' : Nat}, renRow src m l = some (l', m') → l'.length = l.length ∧ ∀ (k : Nat) (t' : T), l'[k]? = some t' → ∃ t m1 m2, l[k]? = some t ∧ ren src m1 t = some (t', m2)
  | [], l', m, m', h => by
    simp only [renRow, Option.some.injEq, Prod.mk.injEq] at h
    obtain ⟨rfl, -⟩ := h
    exact ⟨rfl, fun k t h => by simp at h⟩
  | t :: r, l', m, m', h => by
    simp only [renRow, Option.bind_eq_some_iff, Option.some.injEq, Prod.mk.injEq] at h
    obtain ⟨⟨t1, m1⟩, h1, ⟨r1, m2⟩, h2, rfl, -⟩ := h
    obtain ⟨h3, h4⟩ := renRow_sound h2
    refine ⟨by simp [h3], fun k t' ht' => ?_⟩
    cases k with
    | zero =>
      simp only [List.getElem?_cons_zero, Option.some.injEq] at ht'
      subst ht'
      exact ⟨t, m, m1, rfl, h1⟩
    | succ k => exact h4 k t' (by simpa using ht')

/-- What each new block is. -/
def NewBlk (hp : List Blk) (src : List Src) (s : Src) (b : Blk) : Prop :=
  match s with
  | .box _ _ _ => ∃ m1 m2 row, renRow src m1 (srcCells hp s) = some (row, m2) ∧ b = .box row
  | .lst id off len => ∃ n rows, szOf hp (.sl id off len) = some n ∧ rowsOf hp (.sl id off len) = some rows ∧ b = .lst n rows
  | .nil n => b = .lst n []

theorem renBlks_sound : ∀ {l : List Src} {m m' : Nat} {bs : List Blk}, renBlks hp src m l = some (bs, m') → bs.length = l.length ∧ ∀ (k : Nat) (s : Src), l[k]? = some s → ∃ b, bs[k]? = some b ∧ NewBlk hp src s b
  | [], m, m', bs, h => by
    simp only [renBlks, Option.some.injEq, Prod.mk.injEq] at h
    obtain ⟨rfl, -⟩ := h
    exact ⟨rfl, fun k t h => by simp at h⟩
  | s :: r, m, m', bs, h => by
    have cons : ∀ (b : Blk) (m1 m2 : Nat) (r' : List Blk), NewBlk hp src s b → renBlks hp src m1 r = some (r', m2) → bs = b :: r' → bs.length = (s :: r).length ∧ ∀ (k : Nat) (s' : Src), (s :: r)[k]? = some s' → ∃ b, bs[k]? = some b ∧ NewBlk hp src s' b := by
      intro b m1 m2 r' hb hr e
      subst e
      obtain ⟨h3, h4⟩ := renBlks_sound hr
      refine ⟨by simp [h3], fun k s' hs' => ?_⟩
      cases k with
      | zero =>
        simp only [List.getElem?_cons_zero, Option.some.injEq] at hs'
        subst hs'
        exact ⟨b, rfl, hb⟩
      | succ k => exact h4 k s' (by simpa using hs')
    cases s with
    | box id off n =>
      simp only [renBlks, Option.bind_eq_some_iff, Option.some.injEq, Prod.mk.injEq] at h
      obtain ⟨⟨row, m1⟩, h1, ⟨r', m2⟩, h2, rfl, -⟩ := h
      exact cons _ _ _ _ ⟨m, m1, row, h1, rfl⟩ h2 rfl
    | lst id off len =>
      simp only [renBlks, Option.bind_eq_some_iff, Option.some.injEq, Prod.mk.injEq] at h
      obtain ⟨n, h1, rows, h2, ⟨r', m2⟩, h3, rfl, -⟩ := h
      exact cons _ _ _ _ ⟨n, rows, h1, h2, rfl⟩ h3 rfl
    | nil n =>
      simp only [renBlks, Option.bind_eq_some_iff, Option.some.injEq, Prod.mk.injEq] at h
      obtain ⟨⟨r', m2⟩, h2, rfl, -⟩ := h
      exact cons _ _ _ _ rfl h2 rfl

theorem isBox_sound {id off n : Nat} (h : isBox hp id off n = true) : ∃ cells, hp[id]? = some (.box cells) ∧ off + n ≤ cells.length ∧ 0 < n := by
  unfold isBox at h
  split at h
  · rename_i cells hc
    simp only [Bool.and_eq_true, decide_eq_true_eq] at h
    exact ⟨cells, hc, h.1, h.2⟩
  · simp at h

theorem allApart_sound : ∀ {l : List Src}, allApart l = true → ∀ (i j : Nat) (s s' : Src), i < j → l[i]? = some s → l[j]? = some s' → apart s s' = true
  | [], _, i, j, s, s', _, h, _ => by simp at h
  | x :: r, h, i, j, s, s', hij, hi, hj => by
    simp only [allApart, Bool.and_eq_true] at h
    obtain ⟨j, rfl⟩ : ∃ k, j = k + 1 := ⟨j - 1, by omega⟩
    simp only [List.getElem?_cons_succ] at hj
    cases i with
    | zero =>
      simp only [List.getElem?_cons_zero, Option.some.injEq] at hi
      subst hi
      exact List.all_eq_true.1 h.1 s' (List.mem_of_getElem? hj)
    | succ i => exact allApart_sound h.2 i j s s' (by omega) (by simpa using hi) hj

theorem srcOk_box (h : srcOk hp src = true) {k id off n : Nat} (hk : src[k]? = some (.box id off n)) : ∃ cells, hp[id]? = some (.box cells) ∧ off + n ≤ cells.length ∧ 0 < n := by
  unfold srcOk at h
  simp only [Bool.and_eq_true] at h
  have := List.all_eq_true.1 h.1.2 _ (List.mem_of_getElem? hk)
  exact isBox_sound this

theorem Hp.locB (h : Hp ρ w S hp) {id : Nat} {cells : Row} (hc : hp[id]? = some (.box cells)) : ∃ L, ρ id = some L ∧ L.whole = false ∧ cells.length = L.sz ∧ RR ρ w S L [cells] := by
  obtain ⟨L, h1, h2, h3⟩ := h.br id _ hc
  exact ⟨L, h1, h2.1, h3.len cells (by simp), h3⟩

/-- What lies behind a new number. -/
theorem rho_old (h : Hp ρ w S hp) (hs : srcOk hp src = true) {m m' : Nat} (hb : renBlks hp src m src = some (hp', m')) {j : Nat} {M : Loc} (hM : rho ρ src j = some M) :
    ∃ s id L, src[j]? = some s ∧ (s = .box id (M.base - L.base) M.sz ∧ L.base ≤ M.base ∧ L.whole = false ∧ M.whole = false ∧ M.base + M.sz ≤ L.base + L.sz ∨ (∃ off len, s = .lst id off len) ∧ L.whole = true ∧ M.whole = true) ∧
      live hp id ∧ ρ id = some L ∧ M.blk = L.blk ∧ ∀ b o, M.has b o → L.has b o := by
  unfold rho at hM
  split at hM
  · rename_i id off n hk
    simp only [Option.map_eq_some_iff] at hM
    obtain ⟨L, hL, rfl⟩ := hM
    obtain ⟨cells, hc, hle, hpos⟩ := srcOk_box hs hk
    obtain ⟨L', hL', hw, hlen, -⟩ := h.locB hc
    obtain rfl : L = L' := by rw [hL] at hL'; exact Option.some.inj hL'
    refine ⟨_, id, L, hk, .inl ⟨by rw [Nat.add_sub_cancel_left], Nat.le_add_right _ _, hw, rfl, ?_⟩, ⟨_, hc, by simp⟩, hL, rfl, fun b o hb => ?_⟩
    · show L.base + off + n ≤ L.base + L.sz
      omega
    · obtain ⟨h1, h2⟩ := hb
      refine ⟨h1, .inr ?_⟩
      simp only [Bool.false_eq_true, false_or] at h2
      omega
  · rename_i id off len hk
    simp only [Option.map_eq_some_iff] at hM
    obtain ⟨L, hL, rfl⟩ := hM
    obtain ⟨-, hall⟩ := renBlks_sound hb
    obtain ⟨b, -, n, rows, hsz, -, -⟩ := hall _ _ hk
    obtain ⟨-, hw, hl⟩ := szOf_loc h hL hsz
    exact ⟨_, id, L, hk, .inr ⟨⟨off, len, rfl⟩, hw, rfl⟩, hl, hL, rfl, fun b o hb => ⟨hb.1, .inl hw⟩⟩
  · simp at hM

theorem Hp.ren (h : Hp ρ w S hp) (hs : srcOk hp src = true) {m m' : Nat} (hb : renBlks hp src m src = some (hp', m')) (hS : ∀ p b, S p b → Se p b) (hsb : ∀ p b, Se p b → b < w.heap.size) (hst : ∀ b, Se true b → Se false b)
    (hsd : ∀ p b, Se p b → ∀ j L, rho ρ src j = some L → L.blk ≠ b) : Hp (rho ρ src) w Se hp' := by
  obtain ⟨hlen, hall⟩ := renBlks_sound hb
  have hrt : ∀ {t t' : T} {m m' : Nat} {v : Value}, RT ρ w S t v → Zq.ren src m t = some (t', m') → RT (rho ρ src) w Se t' v := fun ht hr => ren_rt hS ht hr
  refine ⟨fun id x hx => ?_, ?_, fun p b hb j L _ hL => hsd p b hb j L hL, hsb, hst, fun j hj => ?_⟩
  · have hlt : id < src.length := by rw [← hlen]; exact (List.getElem?_eq_some_iff.1 hx).1
    have hsid : src[id]? = some src[id] := List.getElem?_eq_getElem hlt
    obtain ⟨b, hb', hnew⟩ := hall id _ hsid
    rw [hx] at hb'
    obtain rfl := Option.some.inj hb'
    generalize hsrc : src[id] = s at hsid hnew
    cases s with
    | box i off n =>
      obtain ⟨m1, m2, row, hr, rfl⟩ := hnew
      obtain ⟨cells, hc, hle, hpos⟩ := srcOk_box hs hsid
      obtain ⟨L, hL, hw, hcl, hrr⟩ := h.locB hc
      obtain ⟨h1, h2⟩ := renRow_sound hr
      have hsc : srcCells hp (.box i off n) = (cells.drop off).take n := by simp [srcCells, boxCells, hc]
      rw [hsc] at h1 h2
      have hrl : row.length = n := by rw [h1]; simp; omega
      obtain ⟨c, e, hob, hsz⟩ := hrr.obj
      refine ⟨⟨L.blk, L.base + off, n, false⟩, by simp [rho, hsid, hL], ⟨rfl, hpos⟩, ⟨c, e, hob, ?_⟩, fun r hr => ?_, fun j k t ht => ?_⟩
      · simp at hsz ⊢; omega
      · obtain rfl := by simpa using hr
        exact hrl
      · cases j with
        | succ j => simp at ht
        | zero =>
          simp only [List.getElem?_cons_zero, Option.bind_some] at ht
          obtain ⟨t0, m3, m4, ht0, hren⟩ := h2 k t ht
          have hk : k < n := by rw [← hrl]; exact (List.getElem?_eq_some_iff.1 ht).1
          rw [List.getElem?_take_of_lt hk, List.getElem?_drop] at ht0
          obtain ⟨v, hv, hrv⟩ := hrr.cell 0 (off + k) t0 (by simpa using ht0)
          exact ⟨v, by simpa [Nat.add_assoc] using hv, hrt hrv hren⟩
    | nil n =>
      obtain rfl := hnew
      exact .inl ⟨by simp [rho, hsid], rfl⟩
    | lst i off len =>
      obtain ⟨n, rows, hsz, hrows, rfl⟩ := hnew
      simp only [szOf] at hsz
      simp only [rowsOf] at hrows
      cases hi : hp[i]? with
      | none => simp [hi] at hsz
      | some y =>
        cases y with
        | lst n' rs =>
          simp only [hi, Option.some.injEq] at hsz hrows
          subst hsz
          obtain ⟨hle, hrows1⟩ := of_ite hrows
          obtain rfl := Option.some.inj hrows1
          rcases h.br i _ hi with ⟨hn, hrs⟩ | ⟨L, hL, hw, hLs, hpos, hrr, hin⟩
          · refine .inl ⟨by simp [rho, hsid, hn], ?_⟩
            simp [hrs]
          · obtain ⟨c, e, hob, hsz⟩ := hrr.obj
            refine .inr ⟨⟨L.blk, L.base + off * L.sz, L.sz, true⟩, by simp [rho, hsid, hL], rfl, hLs, hpos, ⟨⟨c, e, hob, ?_⟩, fun r hr => ?_, fun j k t ht => ?_⟩, fun r hr => ?_⟩
            · have hm : (off + ((rs.drop off).take len).length) * L.sz ≤ rs.length * L.sz := Nat.mul_le_mul_right _ (by simp; omega)
              rw [Nat.add_mul] at hm
              simp only
              omega
            · exact hrr.len r (List.mem_of_mem_drop (List.mem_of_mem_take hr))
            · obtain ⟨r, hr, hk⟩ := bind_get ht
              have hj : j < len := by have := (List.getElem?_eq_some_iff.1 hr).1; simp at this; omega
              rw [List.getElem?_take_of_lt hj, List.getElem?_drop] at hr
              obtain ⟨v, hv, hrv⟩ := hrr.cell (off + j) k t (by simp [hr, hk])
              refine ⟨v, ?_, .ri ((hrv.inList (List.all_eq_true.1 (hin r (List.mem_of_getElem? hr)) t (List.mem_of_getElem? hk))).mono hS (fun _ _ _ => rfl))⟩
              rw [← hv]
              congr 2
              rw [Nat.add_mul]
              show L.base + off * L.sz + j * L.sz + k = _
              omega
            · exact hin r (List.mem_of_mem_drop (List.mem_of_mem_take hr))
        | _ => simp [hi] at hsz
  · intro i j L M b o hij _ _ hL hM hLb hMb
    obtain ⟨s, id, L0, hs1, hc1, hl1, hL0, hb1, hh1⟩ := rho_old h hs hb hL
    obtain ⟨s', id', M0, hs2, hc2, hl2, hM0, hb2, hh2⟩ := rho_old h hs hb hM
    have hap : allApart src = true := by unfold srcOk at hs; simp only [Bool.and_eq_true] at hs; exact hs.1.1
    have hk1 := hh1 b o hLb
    have hk2 := hh2 b o hMb
    by_cases hid : id = id'
    · subst hid
      obtain rfl : L0 = M0 := by rw [hL0] at hM0; exact Option.some.inj hM0
      have hapart : apart s s' = true ∨ apart s' s = true := by
        rcases Nat.lt_or_gt_of_ne hij with hlt | hlt
        · exact .inl (allApart_sound hap i j s s' hlt hs1 hs2)
        · exact .inr (allApart_sound hap j i s' s hlt hs2 hs1)
      rcases hc1 with ⟨rfl, g1, g2, g3, g4⟩ | ⟨⟨o1, l1, rfl⟩, g2, g3⟩
      · rcases hc2 with ⟨rfl, k1, k2, k3, k4⟩ | ⟨⟨o2, l2, rfl⟩, k2, k3⟩
        · simp only [apart, bne_self_eq_false, Bool.false_or, Bool.or_eq_true, decide_eq_true_eq] at hapart
          obtain ⟨-, e1⟩ := hLb
          obtain ⟨-, e2⟩ := hMb
          simp only [g3, k3, Bool.false_eq_true, false_or] at e1 e2
          omega
        · rw [g2] at k2; simp at k2
      · rcases hc2 with ⟨rfl, k1, k2, k3, k4⟩ | ⟨⟨o2, l2, rfl⟩, k2, k3⟩
        · rw [g2] at k2; simp at k2
        · simp [apart] at hapart
    · exact h.dj id id' L0 M0 b o hid hl1 hl2 hL0 hM0 hk1 hk2
  · unfold rho
    rw [List.getElem?_eq_none (by omega)]

end
end Go.Zq
