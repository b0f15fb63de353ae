/- Calls in the compact code. -/
import Derived.Test.YtilfpkfifdhhdaaZqBack3
set_option linter.unusedVariables false
set_option linter.unusedSimpArgs false
namespace Go.Zq
open Go

section
variable {P : Program} {w0 : World} {W : Nat → Nat → Prop} {S0 : Rds} {ρ0 : Rho} {nb N : Nat} {ρ : Rho} {S : Rds} {σ : St} {a : Act} {w : World} {R : Rt}

/-- What the compact meaning of a function says of the model's. -/
def TC (P : Program) (f : FuncId) (args : List SV) (hp : List Blk) (res : SV) (hp' : List Blk) : Prop :=
  ∀ (w : World) (ρ : Rho) (S : Rds) (us : List Value), Entry P w ρ S args hp us →
    Calls P f us.toArray w fun
      | .returned u, w' => Exit w (wOf hp ρ) S ρ (hpBoxes hp) res hp' u w'
      | _, _ => False

/-- A function that has a body. -/
def HasBody (P : Program) (f : FuncId) : Prop := ∃ fn c, P.funcs[f]? = some fn ∧ fn.body = some c ∧ (fn.name == "runtime.NumGoroutine") = false

def Sound (P : Program) (R : Rt) : Prop := ∀ f args hp res hp', R f args hp = some (res, hp') → HasBody P f ∧ TC P f args hp res hp'

theorem run_enter {f : FuncId} (h : HasBody P f) (args : Array Value) (w : World) : (callFunc f args).run P w = .ok (.enter f args) w := by
  obtain ⟨fn, c, hf, hb, hn⟩ := h
  simp only [callFunc, Sem.run_bind, run_program, Result.andThen_ok, hf, hn, hb]
  simp

theorem renBlks_boxes {hp : List Blk} {src0 : List Src} : ∀ {l : List Src} {m m' : Nat} {bs : List Blk}, renBlks hp src0 m l = some (bs, m') → hpBoxes bs = boxesOf l
  | [], m, m', bs, h => by
    simp only [renBlks, Option.some.injEq, Prod.mk.injEq] at h
    obtain ⟨rfl, -⟩ := h
    rfl
  | .box id off n :: r, m, m', bs, h => by
    simp only [renBlks, Option.bind_eq_some_iff, Option.some.injEq, Prod.mk.injEq] at h
    obtain ⟨⟨row, m1⟩, h1, ⟨r', m2⟩, h2, rfl, -⟩ := h
    simp [hpBoxes, boxesOf, renBlks_boxes h2]
  | .lst id off len :: r, m, m', bs, h => by
    simp only [renBlks, Option.bind_eq_some_iff, Option.some.injEq, Prod.mk.injEq] at h
    obtain ⟨n, h1, rows, h2, ⟨r', m2⟩, h3, rfl, -⟩ := h
    simp [hpBoxes, boxesOf]
  | .nil n :: r, m, m', bs, h => by
    simp only [renBlks, Option.bind_eq_some_iff, Option.some.injEq, Prod.mk.injEq] at h
    obtain ⟨⟨r', m2⟩, h2, rfl, -⟩ := h
    simp [hpBoxes, boxesOf]

theorem closed_one {t : T} (h : closed t = true) {src : List Src} {nb base : Nat} : inst src nb base t = some t := by
  cases t <;> simp_all [closed, inst]

theorem closed_row {src : List Src} {nb base : Nat} : ∀ {ts : Row}, ts.all closed = true → instRow src nb base ts = some ts
  | [], _ => rfl
  | t :: r, h => by
    simp only [List.all_cons, Bool.and_eq_true] at h
    simp [instRow, closed_one h.1, closed_row h.2]

theorem closed_svs {src : List Src} {nb base : Nat} : ∀ {vs : List SV}, (vs.all fun
    | .one t => closed t
    | .agg ts => ts.all closed
    | _ => false) = true → instSVs src nb base vs = some vs
  | [], _ => rfl
  | v :: r, h => by
    rw [List.all_cons, Bool.and_eq_true] at h
    have hr := closed_svs (src := src) (nb := nb) (base := base) h.2
    cases v with
    | one t => simp [instSVs, instFlat, closed_one h.1, hr]
    | agg ts => simp [instSVs, instFlat, closed_row h.1, hr]
    | _ => simp at h

theorem closed_inst {v : SV} (h : svClosed v = true) {src : List Src} {nb base : Nat} : instSV src nb base v = some v := by
  cases v with
  | und => simp [svClosed] at h
  | one t => simp [instSV, instFlat, closed_one (show closed t = true from h)]
  | agg ts => simp [instSV, instFlat, closed_row (show ts.all closed = true from h)]
  | tup vs => simp [instSV, closed_svs (show _ = true from h)]

/-! What is told for good. -/
theorem sl_sound {hp : List Blk} (hh : Hp ρ w S hp) {id off len : Nat} {v : Value} (h : RT ρ w S (.sl id off len) v) {rows : List Row} (hr : rowsOf hp (.sl id off len) = some rows) {sz : Nat} (hz : szOf hp (.sl id off len) = some sz) :
    ∃ ad cap, v = .slice ad rows.length cap ∧ rows.length ≤ cap ∧ (rows = [] ∨ ∃ b o, ad = some ⟨b, o, none⟩ ∧ (∀ r ∈ rows, r.length = sz) ∧ (∀ r ∈ rows, r.all inList = true) ∧
      (∀ (j k : Nat) (t : T), (rows[j]?).bind (·[k]?) = some t → ∃ u, w.cell? ⟨b, o + j * sz + k, none⟩ = some u ∧ RI w S t u) ∧ ∃ L, ρ id = some L ∧ live hp id ∧ L.whole = true ∧ b = L.blk) := by
  cases h with
  | ri h => cases h
  | nil =>
    simp only [rowsOf] at hr
    cases hb : hp[id]? with
    | none => simp [hb] at hr
    | some x =>
      cases x with
      | lst n rows' =>
        simp only [hb] at hr
        obtain ⟨-, hr1⟩ := of_ite hr
        obtain rfl := Option.some.inj hr1
        exact ⟨none, 0, by simp, by simp, .inl (by simp)⟩
      | _ => simp [hb] at hr
  | sl hL hc hs ha =>
    rename_i cap ad L e n
    simp only [rowsOf] at hr
    cases hb : hp[id]? with
    | none => simp [hb] at hr
    | some x =>
      have hbr := hh.br id x hb
      cases x with
      | lst n' rows' =>
        simp only [hb] at hr
        obtain ⟨hle, hr1⟩ := of_ite hr
        obtain rfl := Option.some.inj hr1
        have hn' : n' = sz := by simpa [szOf, hb] using hz
        have hlen : ((rows'.drop off).take len).length = len := by simp; omega
        refine ⟨some ad, cap, by rw [hlen], by omega, ?_⟩
        rcases hbr with ⟨hnone, rfl⟩ | ⟨M, hM, hwh, hsz, hpos, hrr, hall⟩
        · left
          simp
        obtain rfl : L = M := by rw [hL] at hM; simpa using hM
        by_cases h0 : len = 0
        · left
          subst h0
          simp
        · right
          rcases ha with ha | ⟨rfl, hfit⟩
          · omega
          refine ⟨L.blk, L.base + off * L.sz, rfl, fun r hr => ?_, fun r hr => ?_, fun j k t ht => ?_, ⟨L, hL, ⟨_, hb, by simp⟩, hwh, rfl⟩⟩
          · rw [hrr.len r (List.mem_of_mem_drop (List.mem_of_mem_take hr)), hsz, hn']
          · exact hall r (List.mem_of_mem_drop (List.mem_of_mem_take hr))
          · obtain ⟨r, hr, hk⟩ := bind_get ht
            have hj : j < len := by
              have := (List.getElem?_eq_some_iff.1 hr).1
              omega
            rw [List.getElem?_take_of_lt hj, List.getElem?_drop] at hr
            obtain ⟨u, hu, hru⟩ := hrr.cell (off + j) k t (by simp [hr, hk])
            refine ⟨u, ?_, hru.inList (List.all_eq_true.1 (hall r (List.mem_of_getElem? hr)) t (List.mem_of_getElem? hk))⟩
            rw [← hn', ← hsz]
            rw [show L.base + off * L.sz + j * L.sz + k = L.base + (off + j) * L.sz + k by rw [Nat.add_mul]; omega]
            exact hu
      | _ => simp [hb] at hr

def frzS (S : Rds) (hp : List Blk) (ρ : Rho) : Rds := fun p b => S p b ∨ ∃ id L, live hp id ∧ ρ id = some L ∧ L.whole = true ∧ b = L.blk
theorem frz_rt {hp : List Blk} (h : Hp ρ w S hp) {ρ2 : Rho} {t t' : T} {v : Value} (ht : RT ρ w S t v) (hr : frzT hp t = some t') : RT ρ2 w (frzS S hp ρ) t' v ∧ closed t' = true := by
  have hS : ∀ p b, S p b → frzS S hp ρ p b := fun _ _ h => .inl h
  cases t with
  | lit x =>
    simp only [frzT, Option.some.injEq] at hr
    subst hr
    cases ht with
    | ri h => exact ⟨.ri (h.mono hS (fun _ _ _ => rfl)), rfl⟩
  | nls n =>
    simp only [frzT, Option.some.injEq] at hr
    subst hr
    cases ht with
    | ri h => exact ⟨.ri (h.mono hS (fun _ _ _ => rfl)), rfl⟩
  | imm p n rows =>
    simp only [frzT, Option.some.injEq] at hr
    subst hr
    cases ht with
    | ri h' => exact ⟨.ri (h'.mono hS (fun _ _ _ => rfl)), rfl⟩
  | sl id off len =>
    simp only [frzT, Option.bind_eq_some_iff, Option.some.injEq] at hr
    obtain ⟨n, hn, rows, hrows, rfl⟩ := hr
    obtain ⟨ad, cap, rfl, hcap, hrd⟩ := sl_sound h ht hrows hn
    rcases hrd with rfl | ⟨b, o, rfl, hsz, hin, hc, L, hL, hl, hw, rfl⟩
    · exact ⟨.ri .nil, rfl⟩
    · refine ⟨.ri (.imm (p := true) (g := fun j k => (w.cell? ⟨L.blk, o + j * n + k, none⟩).getD undef) (.inr ⟨id, L, hl, hL, hw, rfl⟩) hcap hsz hin (fun j k t ht => ?_) (fun j k t ht => ?_)), rfl⟩
      · obtain ⟨u, hu, -⟩ := hc j k t ht
        simp only [hu, Option.getD_some]
      · obtain ⟨u, hu, hru⟩ := hc j k t ht
        simp only [hu, Option.getD_some]
        exact hru.mono hS (fun _ _ _ => rfl)
  | clo f caps => simp [frzT] at hr
  | ptr id row off => simp [frzT] at hr
  | ip cells => simp [frzT] at hr
theorem frzRow_sound {hp : List Blk} : ∀ {l l' : Row}, frzRow hp l = some l' → l'.length = l.length ∧ ∀ (k : Nat) (t' : T), l'[k]? = some t' → ∃ t, l[k]? = some t ∧ frzT hp t = some t'
  | [], l', h => by
    simp only [frzRow, Option.some.injEq] at h
    subst h
    exact ⟨rfl, fun k t h => by simp at h⟩
  | t :: r, l', h => by
    simp only [frzRow, Option.bind_eq_some_iff, Option.some.injEq] at h
    obtain ⟨t1, h1, r1, h2, rfl⟩ := h
    obtain ⟨h3, h4⟩ := frzRow_sound h2
    refine ⟨by simp [h3], fun k t' ht' => ?_⟩
    cases k with
    | zero =>
      simp only [List.getElem?_cons_zero, Option.some.injEq] at ht'
      subst ht'
      exact ⟨t, rfl, h1⟩
    | succ k => exact h4 k t' (by simpa using ht')
theorem frz_fl {hp : List Blk} (h : Hp ρ w S hp) {ρ2 : Rho} {v v' : SV} {u : Value} (hv : RS ρ w S v u) (hr : frzFl hp v = some v') : RS ρ2 w (frzS S hp ρ) v' u ∧ (match v' with | .one t => closed t = true | .agg ts => ts.all closed = true | _ => False) := by
  cases v with
  | one t =>
    simp only [frzFl, Option.bind_eq_some_iff, Option.some.injEq] at hr
    obtain ⟨t', h1, rfl⟩ := hr
    cases hv with
    | one ht =>
      obtain ⟨k1, k2⟩ := frz_rt h (ρ2 := ρ2) ht h1
      exact ⟨.one k1, k2⟩
  | agg ts =>
    simp only [frzFl, Option.bind_eq_some_iff, Option.some.injEq] at hr
    obtain ⟨ts', h1, rfl⟩ := hr
    obtain ⟨h2, h3⟩ := frzRow_sound h1
    cases hv with
    | agg hn ht =>
      refine ⟨.agg (by rw [h2, hn]) fun k t' hk => ?_, ?_⟩
      · obtain ⟨t, e1, e2⟩ := h3 k t' hk
        exact (frz_rt h (ρ2 := ρ2) (ht k t e1) e2).1
      · show ts'.all closed = true
        rw [List.all_eq_true]
        intro t' hk
        obtain ⟨k, hk1⟩ := List.mem_iff_getElem?.1 hk
        obtain ⟨t, e1, e2⟩ := h3 k t' hk1
        exact (frz_rt h (ρ2 := ρ2) (ht k t e1) e2).2
  | und => simp [frzFl] at hr
  | tup vs => simp [frzFl] at hr
theorem frzFls_sound {hp : List Blk} : ∀ {l l' : List SV}, frzFls hp l = some l' → l'.length = l.length ∧ ∀ (k : Nat) (t' : SV), l'[k]? = some t' → ∃ t, l[k]? = some t ∧ frzFl hp t = some t'
  | [], l', h => by
    simp only [frzFls, Option.some.injEq] at h
    subst h
    exact ⟨rfl, fun k t h => by simp at h⟩
  | t :: r, l', h => by
    simp only [frzFls, Option.bind_eq_some_iff, Option.some.injEq] at h
    obtain ⟨t1, h1, r1, h2, rfl⟩ := h
    obtain ⟨h3, h4⟩ := frzFls_sound h2
    refine ⟨by simp [h3], fun k t' ht' => ?_⟩
    cases k with
    | zero =>
      simp only [List.getElem?_cons_zero, Option.some.injEq] at ht'
      subst ht'
      exact ⟨t, rfl, h1⟩
    | succ k => exact h4 k t' (by simpa using ht')
theorem frz_sv {hp : List Blk} (h : Hp ρ w S hp) {ρ2 : Rho} {v v' : SV} {u : Value} (hv : RS ρ w S v u) (hr : frzSV hp v = some v') : RS ρ2 w (frzS S hp ρ) v' u ∧ svClosed v' = true := by
  have flat : ∀ {v v' : SV} {u : Value}, RS ρ w S v u → frzFl hp v = some v' → RS ρ2 w (frzS S hp ρ) v' u ∧ svClosed v' = true := fun {v v' u} hv hr => by
    obtain ⟨k1, k2⟩ := frz_fl h (ρ2 := ρ2) hv hr
    refine ⟨k1, ?_⟩
    cases v' with
    | one t => exact k2
    | agg ts => exact k2
    | und => exact k2.elim
    | tup vs => exact k2.elim
  cases v with
  | tup vs =>
    simp only [frzSV, Option.bind_eq_some_iff, Option.some.injEq] at hr
    obtain ⟨vs', h1, rfl⟩ := hr
    obtain ⟨h2, h3⟩ := frzFls_sound h1
    cases hv with
    | tup hn ht =>
      refine ⟨.tup (by rw [h2, hn]) fun k t' hk => ?_, ?_⟩
      · obtain ⟨t, e1, e2⟩ := h3 k t' hk
        exact (frz_fl h (ρ2 := ρ2) (ht k t e1) e2).1
      · simp only [svClosed, List.all_eq_true]
        intro t' hk
        obtain ⟨k, hk1⟩ := List.mem_iff_getElem?.1 hk
        obtain ⟨t, e1, e2⟩ := h3 k t' hk1
        have := (frz_fl h (ρ2 := ρ2) (ht k t e1) e2).2
        cases t' with
        | one t => exact this
        | agg ts => exact this
        | und => exact this.elim
        | tup vs => exact this.elim
  | one t => exact flat hv hr
  | agg ts => exact flat hv hr
  | und => exact flat hv hr

/-- A call is done, and the caller's state is as told. -/
theorem call_sound (hR : Sound P R) (h : Sim w0 W S0 ρ0 nb N ρ S σ a w) {pu : Bool} {f : FuncId} {vs : List (SV × Nat × Bool)} {us : List Value} (hn : us.length = vs.length)
    (hv : ∀ (k : Nat) (v : SV × Nat × Bool) (u : Value), vs[k]? = some v → us[k]? = some u → RS ρ w S v.1 u) {r : SV} {hp2 : List Blk} (hd : doCall R σ.hp pu f vs = some (r, hp2)) :
    HasBody P f ∧ Calls P f us.toArray w fun
      | .returned u, w' => ∃ ρ2 S2, Sim w0 W S0 ρ0 nb N ρ2 S2 ⟨σ.sl, hp2⟩ a w' ∧ RS ρ2 w' S2 r u
      | _, _ => False := by
  unfold doCall at hd
  split at hd
  · simp only [Option.bind_eq_some_iff] at hd
    obtain ⟨args, hargs, ⟨res0, hp'⟩, hr, res, hfr, hd⟩ := hd
    obtain ⟨hnl, hd1⟩ := of_ite hd
    simp only [Option.some.injEq, Prod.mk.injEq] at hd1
    obtain ⟨rfl, rfl⟩ := hd1
    obtain ⟨g1, g2⟩ := renArgs_sound h.heap hargs hn (fun hh => hh) hv
    have hent : Entry P w (rho ρ []) (lentS S σ.hp ρ [] (vs.any lentSl)) args [] us := ⟨lentS_hp h.heap (src := []) rfl (m := 0) rfl _, by omega, g2⟩
    obtain ⟨hbody, htc⟩ := hR f _ _ _ _ hr
    refine ⟨hbody, (htc w _ _ us hent).mono fun x w' hx => ?_⟩
    cases x with
    | returned u =>
      obtain ⟨ρ', S', hrs0, hheap, hkeep, hown, hsn, hss, hboxes⟩ := hx
      obtain ⟨hrs, hcl⟩ := frz_sv hheap (ρ2 := fun _ => none) hrs0 hfr
      have hnone : ∀ i, rho ρ [] i = none := fun i => by simp [rho]
      have c : Cb w0 W S0 ρ0 nb N ρ S σ a w ⟨args, [], [], vs.any lentSl⟩ (fun _ => none) (frzS S' hp' ρ') [] w' := by
        refine ⟨h, rfl, ⟨0, rfl⟩, ⟨fun id x hx => by simp at hx, fun i j L M b o _ hi => by obtain ⟨_, hi, _⟩ := hi; simp at hi, fun p b _ j L hj => by obtain ⟨_, hj, _⟩ := hj; simp at hj, fun p b hb => ?_, fun b hb => ?_, fun j _ => rfl⟩, hkeep, fun i L b o hi => by obtain ⟨_, hi, _⟩ := hi; simp at hi, fun p b hb => ?_, fun p b hb => .inl (hss p b hb), fun i hi => by simp [boxesOf] at hi, fun _ => rfl⟩
        · rcases hb with hb | ⟨id, L, hl, hL, -, rfl⟩
          · exact hheap.sb p b hb
          · exact hheap.lt hl hL
        · rcases hb with hb | hb
          · exact .inl (hheap.st b hb)
          · exact .inr hb
        · rcases hb with hb | ⟨id, L, hl, hL, hw, rfl⟩
          · exact hsn p b hb
          · rcases hown id L L.blk 0 hl hL ⟨rfl, .inl hw⟩ with ho | ho
            · obtain ⟨i, M, hi, -⟩ := ho
              obtain ⟨_, hi, _⟩ := hi
              simp at hi
            · exact .inr ho
      have hs := c.sim' (hp1 := σ.hp) (new := []) rfl rfl
      rw [List.append_nil] at hs
      refine ⟨_, _, hs, instSV_sound c.ctx hrs (closed_inst hcl) (fun hb => ?_)⟩
      rcases hnl with hnl | hnl
      · simp only at hb
        rw [hnl] at hb
        simp at hb
      · exact hnl
    | panicked _ => exact hx.elim
    | outgrown => exact hx.elim
  simp only [Option.bind_eq_some_iff] at hd
  obtain ⟨e, he, hd⟩ := hd
  obtain ⟨⟨res, hp'⟩, hr, hb⟩ := hd
  obtain ⟨hs, ⟨m, hren⟩, hent⟩ := enter_sound (P := P) h.heap he hn hv
  obtain ⟨hbody, htc⟩ := hR f _ _ _ _ hr
  refine ⟨hbody, (htc w _ _ us hent).mono fun x w' hx => ?_⟩
  cases x with
  | returned u =>
    obtain ⟨ρ', S', hrs, hheap, hkeep, hown, hsn, hss, hboxes⟩ := hx
    rw [renBlks_boxes hren] at hboxes
    unfold back at hb
    simp only at hb
    split at hb
    · simp at hb
    rename_i hlent
    simp only [Option.bind_eq_some_iff, Option.some.injEq, Prod.mk.injEq] at hb
    obtain ⟨hp1, h1, res', h2, new, h3, rfl, rfl⟩ := hb
    have hl : e.bor = true → svNoLent res = true ∧ hp'.all blkNoLent = true := fun hbor => by
      have : ¬ ((svNoLent res && hp'.all blkNoLent) = false) := fun hf => hlent ⟨hbor, hf⟩
      simpa using this
    have c : Cb w0 W S0 ρ0 nb N ρ S σ a w e ρ' S' hp' w' := ⟨h, hs, ⟨m, hren⟩, hheap, hkeep, hown, hsn, hss, hboxes, fun hbor => (hl hbor).2⟩
    exact ⟨_, _, c.sim' h1 h3, instSV_sound c.ctx hrs h2 (fun hbor => (hl hbor).1)⟩
  | panicked _ => exact hx.elim
  | outgrown => exact hx.elim

theorem callArgs_sound (h : Sim w0 W S0 ρ0 nb N ρ S σ a w) {md : Nat → Bool} : ∀ (xs : List Operand) (ts : List TypeId) (k : Nat) (ys : List (Opd × Nat × Bool)), callArgs P N md k xs ts = some ys → ∀ vs, argCells σ.ev ys = some vs →
    vs.length = xs.length ∧ ∀ (i : Nat) (v : SV × Nat × Bool) (u : Value), vs[i]? = some v → (xs.map a.eval)[i]? = some u → RS ρ w S v.1 u := by
  intro xs
  induction xs with
  | nil =>
    intro ts k ys hys vs hvs
    cases ts with
    | nil =>
      simp only [callArgs, Option.some.injEq] at hys
      subst hys
      simp only [argCells, Option.some.injEq] at hvs
      subst hvs
      exact ⟨rfl, fun i v u hv => by simp at hv⟩
    | cons => simp [callArgs] at hys
  | cons x xs ih =>
    intro ts k ys hys vs hvs
    cases ts with
    | nil => simp [callArgs] at hys
    | cons t ts =>
      simp only [callArgs, Option.bind_eq_some_iff, Option.some.injEq] at hys
      obtain ⟨y, hy, n, hn, r, hr, rfl⟩ := hys
      simp only [argCells, Option.bind_eq_some_iff, Option.some.injEq] at hvs
      obtain ⟨v, hv, r', hr', rfl⟩ := hvs
      obtain ⟨h1, h2⟩ := ih ts (k + 1) r hr r' hr'
      refine ⟨by simp [h1], fun i v' u hv' hu => ?_⟩
      cases i with
      | zero =>
        simp only [List.getElem?_cons_zero, List.map_cons, Option.some.injEq] at hv' hu
        subst hv' hu
        exact ev_sound h hy hv
      | succ i => exact h2 i v' u (by simpa using hv') (by simpa using hu)

/-- What an operation of the region has to show. -/
def OpDone (P : Program) (w0 : World) (W : Nat → Nat → Prop) (S0 : Rds) (ρ0 : Rho) (nb N : Nat) (σ' : St) (o : Oper) (a : Act) (w : World) : Prop :=
  ∀ (next : Act → World → Prop) (Q : Go.Exit → Act → World → Prop), (∀ ρ S a w, Sim w0 W S0 ρ0 nb N ρ S σ' a w → next a w) → o.wp P a w next Q

theorem OpDone.of_does (h : Sim w0 W S0 ρ0 nb N ρ S σ a w) {o : Oper} {d : Option Nat} (hd : o.dst = d) (hok : dstOk N d = true) {r : SV} {hp' : List Blk} (hdo : Does P w0 W S0 ρ0 nb N σ a w o r hp') :
    OpDone P w0 W S0 ρ0 nb N (setD ⟨σ.sl, hp'⟩ d r) o a w := by
  intro next Q hn
  obtain ⟨u, w', ρ', S', hrun, hsim, hrs⟩ := hdo
  unfold Oper.wp
  rw [hrun, Oper.upon_value, hd]
  exact hn ρ' S' _ _ (hsim.set hok hrs)

theorem OpDone.of_call (hR : Sound P R) (h : Sim w0 W S0 ρ0 nb N ρ S σ a w) {o : Oper} {d : Option Nat} (hd : o.dst = d) (hok : dstOk N d = true) {pu : Bool} {f : FuncId} {vs : List (SV × Nat × Bool)} {us : List Value}
    (hexec : execOp a.eval o = callFunc f us.toArray ∨ (execOp a.eval o).run P w = (callFunc f us.toArray).run P w) (hn : us.length = vs.length)
    (hv : ∀ (k : Nat) (v : SV × Nat × Bool) (u : Value), vs[k]? = some v → us[k]? = some u → RS ρ w S v.1 u) {r : SV} {hp2 : List Blk} (hc : doCall R σ.hp pu f vs = some (r, hp2)) :
    OpDone P w0 W S0 ρ0 nb N (setD ⟨σ.sl, hp2⟩ d r) o a w := by
  intro next Q hnx
  obtain ⟨hb, hcalls⟩ := call_sound hR h hn hv hc
  have hrun : (execOp a.eval o).run P w = .ok (.enter f us.toArray) w := by
    rcases hexec with e | e
    · rw [e, run_enter hb]
    · rw [e, run_enter hb]
  unfold Oper.wp
  rw [hrun, Oper.upon_enter]
  refine hcalls.mono fun x w' hx => ?_
  cases x with
  | returned u =>
    obtain ⟨ρ2, S2, hsim, hrs⟩ := hx
    simp only [hd]
    exact hnx ρ2 S2 _ _ (hsim.set hok hrs)
  | panicked _ => exact hx.elim
  | outgrown => exact hx.elim

set_option maxHeartbeats 1000000 in
theorem callK_sound (hR : Sound P R) (h : Sim w0 W S0 ρ0 nb N ρ S σ a w) {md : FuncId → Nat → Bool} {dr : Bool} {o : Oper} {c : Call} (ho : o.op = .call c) (hok : dstOk N o.dst = true) {k : K} (hk : compCall P N md dr o c = some k) {r : SV} {hp' : List Blk}
    (hx : k.exec R σ.ev σ.hp = some (r, hp')) : OpDone P w0 W S0 ρ0 nb N (setD ⟨σ.sl, hp'⟩ k.dst r) o a w := by
  unfold compCall at hk
  split at hk
  · -- a function
    rename_i f hcal
    simp only [Option.bind_eq_some_iff] at hk
    obtain ⟨xs, hxs, hk⟩ := hk
    split at hk
    · obtain ⟨-, hk1⟩ := of_ite hk
      obtain rfl := Option.some.inj hk1
      simp only [K.exec, Option.bind_eq_some_iff] at hx
      obtain ⟨vs, hvs, hx⟩ := hx
      obtain ⟨h1, h2⟩ := callArgs_sound h _ _ 0 xs hxs vs hvs
      refine OpDone.of_call hR h rfl hok (us := c.args.toList.map a.eval) (.inl ?_) (by simp [h1]) h2 hx
      have : (c.args.toList.map a.eval).toArray = c.args.map a.eval := by apply Array.toList_inj.1; simp
      rw [this]
      simp only [execOp, ho, resolve, hcal]
      show callFunc f ((#[] ++ c.args.map a.eval) ++ #[]) = _
      simp
    · simp at hk
  · -- a function value
    rename_i n hcal
    obtain ⟨hn, hk1⟩ := of_ite hk
    simp only [Option.bind_eq_some_iff, Option.some.injEq] at hk1
    obtain ⟨xs, hxs, rfl⟩ := hk1
    simp only [K.exec, Option.bind_eq_some_iff] at hx
    obtain ⟨g, hg, hx⟩ := hx
    split at hx
    · rename_i f caps
      simp only [Option.bind_eq_some_iff] at hx
      obtain ⟨vs, hvs, hx⟩ := hx
      obtain ⟨h1, h2⟩ := callArgs_sound h _ _ 0 xs hxs vs hvs
      have hrs := slot_sound h hg
      generalize hfv : a.eval (.tmp n) = fv at hrs
      cases hrs with
      | one hrs =>
      cases hrs with
      | ri hrs => cases hrs
      | clo hcn hch =>
      rename_i cv
      refine OpDone.of_call hR h rfl hok (us := c.args.toList.map a.eval ++ cv.toList) (.inr ?_) (by simp [h1, hcn]) (fun k v u hv hu => ?_) hx
      · have : (c.args.toList.map a.eval ++ cv.toList).toArray = c.args.map a.eval ++ cv := by apply Array.toList_inj.1; simp
        rw [this]
        simp only [execOp, ho, resolve, hcal, hfv, Deferred.ofValue, Sem.run_bind, Sem.run_pure, Result.andThen_ok, invoke]
        simp
      · by_cases hlt : k < vs.length
        · rw [List.getElem?_append_left hlt] at hv
          rw [List.getElem?_append_left (by rw [List.length_map]; omega)] at hu
          exact h2 k v u hv hu
        · rw [List.getElem?_append_right (by omega)] at hv
          rw [List.getElem?_append_right (by rw [List.length_map]; omega)] at hu
          simp only [List.getElem?_map, Option.map_eq_some_iff] at hv
          obtain ⟨t, ht, rfl⟩ := hv
          obtain ⟨id, row, off, L, rfl, hL, hval⟩ := hch _ t ht
          simp only [List.length_map] at hu
          rw [show k - c.args.toList.length = k - vs.length by omega] at hu
          have : cv.getD (k - vs.length) undef = u := by
            rw [Array.getD_eq_getD_getElem?]
            simp only [Array.getElem?_toList] at hu
            rw [hu]
            rfl
          rw [this] at hval
          rw [hval]
          exact .one (.ptr hL)
    · simp at hx
  · -- len
    rename_i hcal
    split at hk
    · rename_i x t d hargs htys hdst
      rw [hdst] at hok
      split at hk
      · rename_i hu
        simp only [Option.bind_eq_some_iff, Option.some.injEq] at hk
        obtain ⟨y, hy, rfl⟩ := hk
        simp only [K.exec, Option.bind_eq_some_iff] at hx
        obtain ⟨v, hv, s, hs, hx⟩ := hx
        split at hx
        · simp only [Option.some.injEq, Prod.mk.injEq] at hx
          obtain ⟨rfl, rfl⟩ := hx
          exact OpDone.of_does h hdst hok (does_lens h ho hcal hargs htys hu (asLit_sound (ev_sound h hy hv) hs).1)
        · simp at hx
      · rename_i e hu
        simp only [Option.bind_eq_some_iff, Option.some.injEq] at hk
        obtain ⟨y, hy, rfl⟩ := hk
        simp only [K.exec, Option.bind_eq_some_iff, Option.some.injEq, Prod.mk.injEq] at hx
        obtain ⟨v, hv, tx, htx, rows, hrows, rfl, rfl⟩ := hx
        exact OpDone.of_does h hdst hok (does_len h ho hcal hargs htys hu (asOne_sound (ev_sound h hy hv) htx) hrows)
      · simp at hk
    · simp at hk
  · -- append
    rename_i hcal
    split at hk
    · rename_i x y t u d hargs htys hdst
      rw [hdst] at hok
      obtain ⟨rfl, hk1⟩ := of_ite hk
      simp only [Option.bind_eq_some_iff] at hk1
      obtain ⟨el, hel, i, hi, z, hz, x', hx', y', hy', hk2⟩ := hk1
      obtain ⟨hpos, hk3⟩ := of_ite hk2
      obtain rfl := Option.some.inj hk3
      simp only [K.exec, Option.bind_eq_some_iff] at hx
      obtain ⟨v, hv, tx, htx, v', hv', ty, hty, xs, hxs, ys, hys, hx⟩ := hx
      obtain ⟨⟨g1, g2, g3, g4, g5⟩, hx1⟩ := of_ite hx
      simp only [Option.some.injEq, Prod.mk.injEq] at hx1
      obtain ⟨rfl, rfl⟩ := hx1
      exact OpDone.of_does h hdst hok (does_app h ho hcal hargs htys (k_sound.elem_und hel) hi hz hpos (asOne_sound (ev_sound h hx' hv) htx) (asOne_sound (ev_sound h hy' hv') hty) hxs hys g1 g2 g3 g4 g5)
    · simp at hk
  · -- copy
    rename_i hcal
    split at hk
    · rename_i x y t u d hargs htys hdst
      rw [hdst] at hok
      obtain ⟨rfl, hk1⟩ := of_ite hk
      simp only [Option.bind_eq_some_iff] at hk1
      obtain ⟨el, hel, n, hn, x', hx', y', hy', hk2⟩ := hk1
      obtain ⟨hpos, hk3⟩ := of_ite hk2
      obtain rfl := Option.some.inj hk3
      simp only [K.exec, Option.bind_eq_some_iff] at hx
      obtain ⟨v, hv, tx, htx, v', hv', ty, hty, xs, hxs, ys, hys, hx⟩ := hx
      split at hx
      · rename_i id off len
        split at hx
        · rename_i n' rows hb
          obtain ⟨⟨rfl, g2⟩, hx1⟩ := of_ite hx
          simp only [Option.some.injEq, Prod.mk.injEq] at hx1
          obtain ⟨rfl, rfl⟩ := hx1
          obtain ⟨i, hi, hin⟩ : ∃ i, P.info? el = some i ∧ i.size = n' := by simpa [sizeT] using hn
          subst hin
          exact OpDone.of_does h hdst hok (does_cpy h ho hcal hargs htys (k_sound.elem_und hel) hi hpos (asOne_sound (ev_sound h hx' hv) htx) (asOne_sound (ev_sound h hy' hv') hty) hxs hys hb g2)
        · simp at hx
      · simp at hx
    · simp at hk
  · -- min
    rename_i hcal
    split at hk
    · rename_i x y d hargs hdst
      rw [hdst] at hok
      simp only [Option.bind_eq_some_iff, Option.some.injEq] at hk
      obtain ⟨x', hx', y', hy', rfl⟩ := hk
      simp only [K.exec, Option.bind_eq_some_iff] at hx
      obtain ⟨v, hv, m, hm, v', hv', n, hn, hx⟩ := hx
      obtain ⟨g, hx1⟩ := of_ite hx
      simp only [Option.some.injEq, Prod.mk.injEq] at hx1
      obtain ⟨rfl, rfl⟩ := hx1
      exact OpDone.of_does h hdst hok (does_mm h (isMax := false) ho hcal hargs (asInt_sound (evI_sound h hx' hv) hm) (by rw [g]; exact asInt_sound (evI_sound h hy' hv') hn))
    · simp at hk
  · rename_i hcal
    split at hk
    · rename_i x y d hargs hdst
      rw [hdst] at hok
      simp only [Option.bind_eq_some_iff, Option.some.injEq] at hk
      obtain ⟨x', hx', y', hy', rfl⟩ := hk
      simp only [K.exec, Option.bind_eq_some_iff] at hx
      obtain ⟨v, hv, m, hm, v', hv', n, hn, hx⟩ := hx
      obtain ⟨g, hx1⟩ := of_ite hx
      simp only [Option.some.injEq, Prod.mk.injEq] at hx1
      obtain ⟨rfl, rfl⟩ := hx1
      exact OpDone.of_does h hdst hok (does_mm h (isMax := true) ho hcal hargs (asInt_sound (evI_sound h hx' hv) hm) (by rw [g]; exact asInt_sound (evI_sound h hy' hv') hn))
    · simp at hk
  · simp at hk

end
end Go.Zq
