/- The caller behind a call. -/
import Derived.Test.YtilfpkfifdhhdaaZqBack2
set_option linter.unusedVariables false
set_option linter.unusedSimpArgs false
namespace Go.Zq
open Go

section
variable {P : Program} {w0 : World} {W : Nat → Nat → Prop} {S0 : Rds} {ρ0 : Rho} {nb N : Nat} {ρ ρ' : Rho} {S S' : Rds} {σ : St} {a : Act} {w w' : World} {e : Ent} {hp' hp1 new : List Blk}

theorem Cb.wIn (c : Cb w0 W S0 ρ0 nb N ρ S σ a w e ρ' S' hp' w') {b o : Nat} (h : wOf e.hp (rho ρ e.src) b o) : W b o ∨ w0.heap.size ≤ b := by
  obtain ⟨k, M, s, id, L, -, -, -, -, -, hl, hL, -, hh⟩ := c.wOld h
  exact c.sim.own id L b o hl hL hh

theorem Cb.after (c : Cb w0 W S0 ρ0 nb N ρ S σ a w e ρ' S' hp' w') {p : Bool} {b : Nat} (h : afterS S S' e.bor p b) : S p b ∨ (S' p b ∨ S' true b) ∧ w.heap.size ≤ b := by
  unfold afterS at h
  split at h
  · rcases h with h | h
    · exact .inl h
    · rcases c.sn true b h with h1 | h1
      · left
        have := lentS_true h1
        cases p
        · exact c.sim.heap.st b this
        · exact this
      · exact .inr ⟨.inr h, h1⟩
  · rename_i hb
    have hb' : e.bor = false := by simpa using hb
    rcases c.sn p b h with h1 | h1
    · rw [hb'] at h1
      exact .inl (lentS_false h1)
    · exact .inr ⟨.inl h, h1⟩

theorem Cb.rr (c : Cb w0 W S0 ρ0 nb N ρ S σ a w e ρ' S' hp' w') {L : Loc} {rows : List Row} (h : RR ρ w S L rows) (hn : ∀ j k, (∃ t : T, (rows[j]?).bind (·[k]?) = some t) → ¬ wOf e.hp (rho ρ e.src) L.blk (L.base + j * L.sz + k)) :
    RR (rho2 ρ ρ' σ.hp.length (boxesOf e.src)) w' (afterS S S' e.bor) L rows := by
  obtain ⟨cs, ty, hc, hs⟩ := h.obj
  obtain ⟨c', h1, h2, -⟩ := c.keep.cells _ cs ty _ hc
  refine ⟨⟨c', ty, h1, by omega⟩, h.len, fun j k t ht => ?_⟩
  obtain ⟨v, hv, hr⟩ := h.cell j k t ht
  exact ⟨v, c.keep.cell hv (hn j k ⟨t, ht⟩), c.rt hr⟩

theorem Cb.sim' (c : Cb w0 W S0 ρ0 nb N ρ S σ a w e ρ' S' hp' w') (hback : backBoxes e.src (boxesOf e.src) σ.hp.length hp' 0 e.src σ.hp = some hp1) (hnew : instBlks e.src (boxesOf e.src) σ.hp.length (hp'.drop (boxesOf e.src)) = some new) :
    Sim w0 W S0 ρ0 nb N (rho2 ρ ρ' σ.hp.length (boxesOf e.src)) (afterS S S' e.bor) ⟨σ.sl, hp1 ++ new⟩ a w' := by
  obtain ⟨k, hk, inv⟩ := c.step e.src 0 σ.hp hp1 rfl hback c.inv
  obtain ⟨n1, n2⟩ := instBlks_sound hnew
  simp only [List.length_drop] at n1
  -- old numbers
  have oldLive : ∀ i, live hp1 i → live σ.hp i ∧ i < σ.hp.length ∧ ∀ (j off len : Nat), e.src[j]? ≠ some (.lst i off len) := by
    rintro i ⟨x, hx, hd⟩
    have hlt : i < σ.hp.length := by rw [← inv.len]; exact (List.getElem?_eq_some_iff.1 hx).1
    refine ⟨?_, hlt, fun j off len hj => ?_⟩
    · cases x with
      | dead => exact absurd rfl hd
      | box cells => obtain ⟨old, h1, -, -⟩ := inv.box i cells hx; exact ⟨_, h1, by simp⟩
      | lst n rows => exact ⟨_, inv.lst i n rows hx, by simp⟩
    · have := inv.gone i off len j (by have := (List.getElem?_eq_some_iff.1 hj).1; omega) hj
      rw [hx] at this
      obtain rfl := Option.some.inj this
      exact hd rfl
  have oldRho : ∀ i, i < σ.hp.length → rho2 ρ ρ' σ.hp.length (boxesOf e.src) i = ρ i := fun i hi => by unfold rho2; rw [if_pos hi]
  have newRho : ∀ i, rho2 ρ ρ' σ.hp.length (boxesOf e.src) (σ.hp.length + i) = ρ' (boxesOf e.src + i) := fun i => by
    unfold rho2
    rw [if_neg (by omega)]
    congr 1
    omega
  have spl : ∀ (i : Nat) (x : Blk), (hp1 ++ new)[i]? = some x → (i < σ.hp.length ∧ hp1[i]? = some x) ∨ ∃ (i' : Nat) (y : Blk), i = σ.hp.length + i' ∧ new[i']? = some x ∧ hp'[boxesOf e.src + i']? = some y ∧ instBlk e.src (boxesOf e.src) σ.hp.length y = some x := by
    intro i x hx
    rw [List.getElem?_append] at hx
    split at hx
    · rename_i hlt
      exact .inl ⟨by rw [← inv.len]; exact hlt, hx⟩
    · rename_i hge
      rw [inv.len] at hx hge
      obtain ⟨y, hy, hi⟩ := n2 _ x hx
      rw [List.getElem?_drop] at hy
      exact .inr ⟨i - σ.hp.length, y, by omega, hx, hy, hi⟩
  have spl' : ∀ i, live (hp1 ++ new) i → (i < σ.hp.length ∧ live hp1 i) ∨ ∃ i', i = σ.hp.length + i' ∧ live hp' (boxesOf e.src + i') := by
    rintro i ⟨x, hx, hd⟩
    rcases spl i x hx with ⟨h1, h2⟩ | ⟨i', y, rfl, -, hy, hi⟩
    · exact .inl ⟨h1, x, h2, hd⟩
    · refine .inr ⟨i', rfl, y, hy, ?_⟩
      rintro rfl
      simp only [instBlk, Option.some.injEq] at hi
      exact hd hi.symm
  have boxLive : ∀ (j i o n : Nat), e.src[j]? = some (.box i o n) → live hp' j := fun j i o n hj => by
    obtain ⟨nw, h1⟩ := inv.there j i o n (by have := (List.getElem?_eq_some_iff.1 hj).1; omega) hj
    exact ⟨_, h1, by simp⟩
  -- a new number's place is no old number's
  have apart : ∀ i j' L M b o, live hp1 i → live hp' (boxesOf e.src + j') → ρ i = some L → ρ' (boxesOf e.src + j') = some M → L.has b o → ¬ M.has b o := by
    intro i j' L M b o hi hj hL hM hLb hMb
    obtain ⟨hli, hlt, hno⟩ := oldLive i hi
    have hblk := c.sim.heap.lt hli hL
    rcases c.own _ M b o hj hM hMb with hw | hw
    · obtain ⟨k', M', s, id, L0, -, hM', hh, hs, hcc, hl0, hL0, -, hh0⟩ := c.wOld hw
      rcases hcc with ⟨rfl, -⟩ | ⟨⟨off, len, rfl⟩, hwh, -⟩
      · have hkb := c.first hs
        exact c.heap.dj k' (boxesOf e.src + j') M' M b o (by omega) (boxLive _ _ _ _ hs) hj (by rw [c.boxes k' hkb]; exact hM') hM hh hMb
      · have hne : i ≠ id := fun e1 => hno k' off len (by rw [e1]; exact hs)
        exact c.sim.heap.alone hl0 hL0 hwh hli hL hne (hLb.1.symm.trans hh0.1)
    · rw [hLb.1] at hw
      omega
  have hri := fun {t : T} {v : Value} (h : RT ρ w S t v) => c.rt h
  refine ⟨fun n v hv => ?_, c.sim.size, c.sim.defers, ⟨fun i x hx => ?_, ?_, ?_, ?_, ?_, ?_⟩, ?_, ?_, ?_, ?_, fun i hi => ?_, ?_⟩
  · obtain ⟨h1, h2⟩ := c.sim.slots n v hv
    exact ⟨h1, h2.mono c.old c.sub c.same c.shp⟩
  · -- each block
    rcases spl i x hx with ⟨hlt, h1⟩ | ⟨i', y, rfl, -, hy, hi⟩
    · cases x with
      | dead => trivial
      | box cells =>
        obtain ⟨old, ho1, ho2, ho3⟩ := inv.box i cells h1
        obtain ⟨L, hL, hw, hl, hrr⟩ := c.sim.heap.locB ho1
        obtain ⟨L', hL', ⟨-, hpos⟩, -⟩ := c.sim.heap.br i _ ho1
        obtain rfl : L = L' := by rw [hL] at hL'; exact Option.some.inj hL'
        obtain ⟨cs, ty, hc, hs⟩ := hrr.obj
        obtain ⟨c', g1, g2, -⟩ := c.keep.cells _ cs ty _ hc
        refine ⟨L, by rw [oldRho i hlt]; exact hL, ⟨hw, hpos⟩, ⟨c', ty, g1, by simp at hs ⊢; omega⟩, fun r hr => ?_, fun j k' t ht => ?_⟩
        · obtain rfl := by simpa using hr
          omega
        · cases j with
          | succ j => simp at ht
          | zero =>
            simp only [List.getElem?_cons_zero, Option.bind_some] at ht
            rcases ho3 k' t ht with ⟨j, o, n, hj, hs', -⟩ | ⟨L2, v, hL2, hv, hrv⟩
            · have := (List.getElem?_eq_some_iff.1 hs').1
              omega
            · obtain rfl : L = L2 := by rw [hL] at hL2; exact Option.some.inj hL2
              exact ⟨v, by simpa using hv, hrv⟩
      | lst n rows =>
        have hold := inv.lst i n rows h1
        rcases c.sim.heap.br i _ hold with ⟨hn, hr⟩ | ⟨L, hL, hw, hls, hpos, hrr, hin⟩
        · exact .inl ⟨by rw [oldRho i hlt]; exact hn, hr⟩
        · refine .inr ⟨L, by rw [oldRho i hlt]; exact hL, hw, hls, hpos, c.rr hrr (fun j k' _ => ?_), hin⟩
          obtain ⟨hli, -, hno⟩ := oldLive i ⟨_, h1, by simp⟩
          refine c.noW hli hL ⟨rfl, .inl hw⟩ (fun j off n hj => ?_) hno
          obtain ⟨cells, hcells, -, -⟩ := srcOk_box c.hs hj
          rw [hold] at hcells
          simp at hcells
    · have hb := c.heap.br _ y hy
      cases y with
      | dead =>
        simp only [instBlk, Option.some.injEq] at hi
        subst hi
        trivial
      | box cells =>
        simp only [instBlk, Option.bind_eq_some_iff, Option.some.injEq] at hi
        obtain ⟨cells', hc', rfl⟩ := hi
        obtain ⟨L, hL, hw, hrr⟩ := hb
        obtain ⟨g1, g2⟩ := instRow_sound hc'
        refine ⟨L, by rw [newRho]; exact hL, hw, ⟨?_, fun r hr => ?_, fun j k' t ht => ?_⟩⟩
        · simpa using hrr.obj
        · obtain rfl := by simpa using hr
          rw [g1]
          exact hrr.len cells (by simp)
        · cases j with
          | succ j => simp at ht
          | zero =>
            simp only [List.getElem?_cons_zero, Option.bind_some] at ht
            obtain ⟨t0, ht0, hit⟩ := g2 k' t ht
            obtain ⟨v, hv, hrv⟩ := hrr.cell 0 k' t0 (by simpa using ht0)
            refine ⟨v, hv, inst_rt c.ctx hrv hit (fun hbor => ?_)⟩
            have := List.all_eq_true.1 (c.lent hbor) _ (List.mem_of_getElem? hy)
            exact List.all_eq_true.1 this t0 (List.mem_of_getElem? ht0)
      | lst n rows =>
        simp only [instBlk, Option.some.injEq] at hi
        subst hi
        rcases hb with ⟨hn, hr⟩ | ⟨L, hL, hw, hls, hpos, hrr, hin⟩
        · exact .inl ⟨by rw [newRho]; exact hn, hr⟩
        · refine .inr ⟨L, by rw [newRho]; exact hL, hw, hls, hpos, ⟨hrr.obj, hrr.len, fun j k' t ht => ?_⟩, hin⟩
          obtain ⟨v, hv, hrv⟩ := hrr.cell j k' t ht
          obtain ⟨r, hr, hkk⟩ := bind_get ht
          have hil := List.all_eq_true.1 (hin r (List.mem_of_getElem? hr)) t (List.mem_of_getElem? hkk)
          have hri := hrv.inList hil
          refine ⟨v, hv, .ri ?_⟩
          cases hbor : e.bor with
          | true => exact hri.perm (fun b hb => by simp [afterS, hb]) (noLent_in hil)
          | false => exact hri.mono (fun p b hb => by simpa [afterS] using hb) (fun _ _ _ => rfl)
  · intro i j L M b o hij hi hj hL hM hLb hMb
    rcases spl' i hi with ⟨hi1, hi2⟩ | ⟨i', rfl, hi2⟩
    · rw [oldRho i hi1] at hL
      rcases spl' j hj with ⟨hj1, hj2⟩ | ⟨j', rfl, hj2⟩
      · rw [oldRho j hj1] at hM
        exact c.sim.heap.dj i j L M b o hij (oldLive i hi2).1 (oldLive j hj2).1 hL hM hLb hMb
      · rw [newRho] at hM
        exact apart i j' L M b o hi2 hj2 hL hM hLb hMb
    · rw [newRho] at hL
      rcases spl' j hj with ⟨hj1, hj2⟩ | ⟨j', rfl, hj2⟩
      · rw [oldRho j hj1] at hM
        exact apart j i' M L b o hj2 hi2 hM hL hMb hLb
      · rw [newRho] at hM
        exact c.heap.dj _ _ L M b o (by omega) hi2 hj2 hL hM hLb hMb
  · intro p b hb j L hj hL
    rcases spl' j hj with ⟨hj1, hj2⟩ | ⟨j', rfl, hj2⟩
    · rw [oldRho j hj1] at hL
      have hli := (oldLive j hj2).1
      rcases c.after hb with h | ⟨-, h⟩
      · exact c.sim.heap.sd p b h j L hli hL
      · have := c.sim.heap.lt hli hL
        omega
    · rw [newRho] at hL
      rcases c.after hb with h | ⟨h, -⟩
      · exact c.heap.sd p b (c.ss p b (.inl h)) _ L hj2 hL
      · rcases h with h | h
        · exact c.heap.sd p b h _ L hj2 hL
        · exact c.heap.sd true b h _ L hj2 hL
  · intro p b hb
    rcases c.after hb with h | ⟨h, -⟩
    · have := c.sim.heap.sb p b h
      have := c.keep.size
      omega
    · rcases h with h | h
      · exact c.heap.sb p b h
      · exact c.heap.sb true b h
  · intro b hb
    unfold afterS at hb ⊢
    split at hb
    · rename_i h1
      rw [if_pos h1]
      rcases hb with hb | hb
      · exact .inl (c.sim.heap.st b hb)
      · exact .inr hb
    · rename_i h1
      rw [if_neg h1]
      exact c.heap.st b hb
  · intro j hj
    simp only [List.length_append, inv.len, n1] at hj
    unfold rho2
    rw [if_neg (by omega)]
    exact c.heap.fr _ (by omega)
  · exact c.sim.keep.trans (c.keep.weaken fun b o h => c.wIn h)
  · intro i L b o hi hL hb
    rcases spl' i hi with ⟨hi1, hi2⟩ | ⟨i', rfl, hi2⟩
    · rw [oldRho i hi1] at hL
      exact c.sim.own i L b o (oldLive i hi2).1 hL hb
    · rw [newRho] at hL
      rcases c.own _ L b o hi2 hL hb with h | h
      · exact c.wIn h
      · have := c.sim.keep.size
        exact .inr (by omega)
  · intro p b hb
    have := c.sim.keep.size
    rcases c.after hb with h | ⟨-, h⟩
    · exact c.sim.sn p b h
    · exact .inr (by omega)
  · intro p b hb
    exact c.sub p b (c.sim.ss p b hb)
  · rw [oldRho i (by have := c.sim.nbl; omega)]
    exact c.sim.boxes i hi
  · simp [inv.len]
    have := c.sim.nbl
    omega

theorem instFlat_sound {bor : Bool} {nbe : Nat} {src : List Src} {hp : List Blk} (c : Ctx ρ w S hp src bor ρ' S' nbe w') {v v' : SV} {u : Value} (h : RS ρ' w' S' v u) (hi : instFlat src nbe hp.length v = some v') (hl : bor = true → (svCells v).all noLent = true) :
    RS (rho2 ρ ρ' hp.length nbe) w' (afterS S S' bor) v' u := by
  cases v with
  | one t =>
    simp only [instFlat, Option.bind_eq_some_iff, Option.some.injEq] at hi
    obtain ⟨t', ht, rfl⟩ := hi
    cases h with
    | one h => exact .one (inst_rt c h ht (fun hb => by simpa [svCells] using hl hb))
  | agg ts =>
    simp only [instFlat, Option.bind_eq_some_iff, Option.some.injEq] at hi
    obtain ⟨ts', ht, rfl⟩ := hi
    obtain ⟨g1, g2⟩ := instRow_sound ht
    cases h with
    | agg hn h =>
      refine .agg (by omega) fun k t' ht' => ?_
      obtain ⟨t, ht, hit⟩ := g2 k t' ht'
      exact inst_rt c (h k t ht) hit (fun hb => List.all_eq_true.1 (hl hb) t (List.mem_of_getElem? ht))
  | _ => simp [instFlat] at hi

theorem instSVs_sound {nbe base : Nat} {src : List Src} : ∀ {l l' : List SV}, instSVs src nbe base l = some l' → l'.length = l.length ∧ ∀ (k : Nat) (t' : SV), l'[k]? = some t' → ∃ t, l[k]? = some t ∧ instFlat src nbe base t = some t'
  | [], l', h => by
    simp only [instSVs, Option.some.injEq] at h
    subst h
    exact ⟨rfl, fun k t h => by simp at h⟩
  | t :: r, l', h => by
    simp only [instSVs, Option.bind_eq_some_iff, Option.some.injEq] at h
    obtain ⟨t1, h1, r1, h2, rfl⟩ := h
    obtain ⟨h3, h4⟩ := instSVs_sound h2
    refine ⟨by simp [h3], fun k t' ht' => ?_⟩
    cases k with
    | zero =>
      simp only [List.getElem?_cons_zero, Option.some.injEq] at ht'
      subst ht'
      exact ⟨t, rfl, h1⟩
    | succ k => exact h4 k t' (by simpa using ht')

theorem instSV_sound {bor : Bool} {nbe : Nat} {src : List Src} {hp : List Blk} (c : Ctx ρ w S hp src bor ρ' S' nbe w') {v v' : SV} {u : Value} (h : RS ρ' w' S' v u) (hi : instSV src nbe hp.length v = some v') (hl : bor = true → svNoLent v = true) :
    RS (rho2 ρ ρ' hp.length nbe) w' (afterS S S' bor) v' u := by
  cases v with
  | tup vs =>
    simp only [instSV, Option.bind_eq_some_iff, Option.some.injEq] at hi
    obtain ⟨vs', ht, rfl⟩ := hi
    obtain ⟨g1, g2⟩ := instSVs_sound ht
    cases h with
    | tup hn h =>
      refine .tup (by omega) fun k t' ht' => ?_
      obtain ⟨t, ht, hit⟩ := g2 k t' ht'
      exact instFlat_sound c (h k t ht) hit (fun hb => List.all_eq_true.1 (hl hb) t (List.mem_of_getElem? ht))
  | one t => exact instFlat_sound c h hi (fun hb => hl hb)
  | agg t => exact instFlat_sound c h hi (fun hb => hl hb)
  | und => exact instFlat_sound c h hi (fun hb => hl hb)

end
end Go.Zq
