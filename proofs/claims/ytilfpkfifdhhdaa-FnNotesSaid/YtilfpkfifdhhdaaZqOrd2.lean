/- A region whose order is open, order by order: each order leads to the same. -/
import Derived.Test.YtilfpkfifdhhdaaZqDraw2
set_option linter.unusedVariables false
set_option linter.unusedSimpArgs false
namespace Go.Zq
open Go

theorem capsOf_like {σ τ : St} : ∀ {cs : List Opd}, Like (cs.flatMap fun x => x.rd) σ τ → capsOf σ.ev cs = capsOf τ.ev cs
  | [], _ => rfl
  | x :: r, h => by
    simp only [List.flatMap_cons] at h
    simp only [capsOf]
    rw [ev_like h.l, capsOf_like h.r]
theorem fill_like {σ τ : St} : ∀ {ps : List (Nat × Nat × Opd)} {cs : Row}, Like (ps.flatMap fun x => x.2.2.rd) σ τ → fill σ.ev cs ps = fill τ.ev cs ps
  | [], _, _ => rfl
  | (o, n, x) :: r, cs, h => by
    simp only [List.flatMap_cons] at h
    simp only [fill]
    rw [ev_like h.l]
    simp only [fill_like h.r]
theorem fillRows_like {σ τ : St} : ∀ {ps : List (Nat × Opd)} {cs : List Row}, Like (ps.flatMap fun x => x.2.rd) σ τ → fillRows σ.ev cs ps = fillRows τ.ev cs ps
  | [], _, _ => rfl
  | (o, x) :: r, cs, h => by
    simp only [List.flatMap_cons] at h
    simp only [fillRows]
    rw [ev_like h.l]
    simp only [fillRows_like h.r]

theorem exec_likeA (R : Rt) {σ τ : St} {k : K} (h : Like k.rdA σ τ) (hp : List Blk) : k.exec R σ.ev hp = k.exec R τ.ev hp := by
  cases k with
  | call d pu f xs =>
    simp only [K.exec]
    rw [args_like h]
  | calv d pu f xs =>
    simp only [K.exec]
    rw [ev_like h.l, args_like h.r]
  | pick d c x y =>
    simp only [K.exec]
    rw [ev_like h.l, ev_like h.r.l, ev_like h.r.r]
  | slc d sz x lo hi =>
    simp only [K.exec]
    rw [ev_like h.l, bound_like h.r.l]
    simp only [bound_like h.r.r]
  | sls d x lo hi =>
    simp only [K.exec]
    rw [ev_like h.l, bound_like h.r.l]
    simp only [bound_like h.r.r]
  | alc d z => rfl
  | bld d z ps =>
    simp only [K.exec]
    rw [fill_like h]
  | bsl d n z ps =>
    simp only [K.exec]
    rw [fillRows_like h]
  | mkf d f cs =>
    simp only [K.exec]
    rw [capsOf_like h]
  | mv | ld | nilc | un | cv | fa | fld | ext | len | lens | box =>
    simp only [K.exec]
    rw [ev_like h]
  | bin | bb | eqs | ia | ix | mm | st | app | cpy | mks =>
    simp only [K.exec]
    rw [ev_like h.l]
    simp only [ev_like h.r]

theorem exec_still (R : Rt) {ev : Ev} {k : K} (hk : k.still = true) (hp hp' : List Blk) : k.exec R ev hp' = (k.exec R ev hp).map fun r => (r.1, hp') := by
  cases k with
  | mv | un | cv | fa | bin | bb | bld =>
    simp only [K.exec, Option.map_bind, Option.map_some, Function.comp_def]
  | pick d c x y =>
    simp only [K.exec, Option.map_bind, Function.comp_def]
    congr 1
    funext v
    congr 1
    funext b
    cases b <;> simp [Option.map_bind, Function.comp_def]
  | nilc d x =>
    simp only [K.exec, Option.map_bind, Function.comp_def]
    congr 1
    funext v
    split <;> rfl
  | eqs d neg gs x y =>
    simp only [K.exec, Option.map_bind, Function.comp_def]
    congr 1
    funext v
    congr 1
    funext u
    split
    · simp only [Option.map_bind, Option.map_some, Function.comp_def]
    · rfl
  | fld d x off n =>
    simp only [K.exec, Option.map_bind, Function.comp_def]
    congr 1
    funext v
    split
    · simp only [Option.map_bind, Option.map_some, Function.comp_def]
    · rfl
  | ext d x j =>
    simp only [K.exec, Option.map_bind, Function.comp_def]
    congr 1
    funext v
    split
    · simp only [Option.map_bind, Option.map_some, Function.comp_def]
    · rfl
  | sls d x lo hi =>
    simp only [K.exec, Option.map_bind, Function.comp_def]
    congr 1
    funext v
    congr 1
    funext u
    split
    · simp only [Option.map_bind, Function.comp_def]
      congr 1
      funext l
      congr 1
      funext h
      split <;> rfl
    · rfl
  | ix d x j =>
    simp only [K.exec, Option.map_bind, Function.comp_def]
    congr 1
    funext v
    congr 1
    funext u
    congr 1
    funext v'
    congr 1
    funext u'
    split
    · split
      · split <;> rfl
      · rfl
    · rfl
  | lens d x =>
    simp only [K.exec, Option.map_bind, Function.comp_def]
    congr 1
    funext v
    congr 1
    funext u
    split <;> rfl
  | mm d m x y =>
    simp only [K.exec, Option.map_bind, Function.comp_def]
    congr 1
    funext v
    congr 1
    funext u
    congr 1
    funext v'
    congr 1
    funext u'
    split <;> rfl
  | _ => simp [K.still] at hk

/-- What an operation with its guard gives. -/
def gex (R : Rt) (σ : St) (g : G) : Option (SV × List Blk) :=
  match g.1 with
  | none => g.2.exec R σ.ev σ.hp
  | some (s, want) => match lookup s σ.sl with
    | some (.one (.lit (.bool x))) => if x = want then g.2.exec R σ.ev σ.hp else some (.und, σ.hp)
    | some .und => some (.und, σ.hp)
    | _ => none
theorem runG_gex (R : Rt) (σ : St) (g : G) : runG R σ g = (gex R σ g).bind fun r => some (setD ⟨σ.sl, r.2⟩ g.2.dst r.1) := by
  obtain ⟨gd, k⟩ := g
  cases gd with
  | none => rfl
  | some sw =>
    obtain ⟨s, want⟩ := sw
    simp only [runG, gex]
    generalize lookup s σ.sl = o
    match o with
    | some (.one (.lit (.bool x))) => by_cases e : x = want <;> simp only [e, if_true, if_false] <;> rfl
    | some .und => rfl
    | none => rfl
    | some (.agg _) => rfl
    | some (.tup _) => rfl
    | some (.one (.ptr ..)) => rfl
    | some (.one (.sl ..)) => rfl
    | some (.one (.nls ..)) => rfl
    | some (.one (.imm ..)) => rfl
    | some (.one (.ip ..)) => rfl
    | some (.one (.clo ..)) => rfl
    | some (.one (.lit v)) => cases v <;> try rfl
                              rename_i b; by_cases e : b = want <;> simp only [e, if_true, if_false] <;> rfl
theorem gex_like (R : Rt) {σ τ : St} {g : G} (h : Like (grdA g) σ τ) (hh : σ.hp = τ.hp) : gex R σ g = gex R τ g := by
  unfold gex
  have he : g.2.exec R σ.ev τ.hp = g.2.exec R τ.ev τ.hp := exec_likeA R (Like.r (rs := gsl g) h) _
  cases hg : g.1 with
  | none => simp only [hh, he]
  | some sw =>
    have hs : lookup sw.1 σ.sl = lookup sw.1 τ.sl := h sw.1 (List.mem_append_left _ (by simp [gsl, hg]))
    simp only [hs, hh, he]
theorem gex_still (R : Rt) {σ : St} {g : G} (hk : g.2.still = true) (hp : List Blk) : gex R ⟨σ.sl, hp⟩ g = (gex R σ g).map fun r => (r.1, hp) := by
  unfold gex
  cases hg : g.1 with
  | none => exact exec_still R hk _ _
  | some sw =>
    simp only
    split
    · split
      · exact exec_still R hk _ _
      · rfl
    · rfl
    · rfl
theorem gex_still_hp (R : Rt) {σ : St} {g : G} (hk : g.2.still = true) {r : SV × List Blk} (h : gex R σ g = some r) : r.2 = σ.hp := by
  have := gex_still R (σ := σ) hk σ.hp
  have e : gex R ⟨σ.sl, σ.hp⟩ g = gex R σ g := rfl
  rw [e, h] at this
  exact congrArg Prod.snd (Option.some.inj this)
theorem run_gex {R : Rt} {σ σ' : St} {g : G} : runG R σ g = some σ' ↔ ∃ r, gex R σ g = some r ∧ σ' = setD ⟨σ.sl, r.2⟩ g.2.dst r.1 := by
  rw [runG_gex]
  simp only [Option.bind_eq_some_iff, Option.some.injEq]
  exact ⟨fun ⟨r, h, e⟩ => ⟨r, h, e.symm⟩, fun ⟨r, h, e⟩ => ⟨r, h, e.symm⟩⟩

theorem lookup_setD' {sl : List (Nat × SV)} {hp : List Blk} {d : Option Nat} {v : SV} (n : Nat) : lookup n (setD ⟨sl, hp⟩ d v).sl = if d = some n then some v else lookup n sl := lookup_setD (σ := ⟨sl, hp⟩) n

theorem two_sets {sl : List (Nat × SV)} {hp hp' : List Blk} {d e : Option Nat} {u v : SV} (h : (d.isNone || d != e) = true) (hh : hp = hp') :
    Eqv (setD ⟨(setD ⟨sl, hp⟩ d u).sl, hp⟩ e v) (setD ⟨(setD ⟨sl, hp'⟩ e v).sl, hp'⟩ d u) := by
  subst hh
  refine ⟨by simp [setD_hp], fun n => ?_⟩
  rw [lookup_setD', lookup_setD', lookup_setD', lookup_setD']
  by_cases e1 : d = some n
  · by_cases e2 : e = some n
    · subst e1; subst e2; simp at h
    · simp [e1, e2]
  · simp [e1]

theorem runG_swapG (R : Rt) {x y : G} (hs : swapG x y = true) {σ σ1 σ2 : St} (h1 : runG R σ x = some σ1) (h2 : runG R σ1 y = some σ2) : ∃ τ1 τ2, runG R σ y = some τ1 ∧ runG R τ1 x = some τ2 ∧ Eqv σ2 τ2 := by
  unfold swapG at hs
  simp only [Bool.and_eq_true, Bool.or_eq_true] at hs
  obtain ⟨⟨⟨c1, c2⟩, c3⟩, c4⟩ := hs
  have dx : ∀ n, x.2.dst = some n → n ∉ grdA y := fun n hn => by rw [hn] at c1; simpa using c1
  have dy : ∀ n, y.2.dst = some n → n ∉ grdA x := fun n hn => by rw [hn] at c2; simpa using c2
  have c3' : (x.2.dst.isNone || x.2.dst != y.2.dst) = true := by simpa using c3
  rcases c4 with (c4 | c4) | c4
  · obtain ⟨r, hr, rfl⟩ := run_gex.1 h1
    obtain ⟨q, hq, rfl⟩ := run_gex.1 h2
    have hrh := gex_still_hp R c4 hr
    have l1 : Like (grdA y) (setD ⟨σ.sl, r.2⟩ x.2.dst r.1) σ := fun n hn => by
      rw [lookup_setD', if_neg]; intro e; exact dx n e hn
    rw [gex_like R l1 (by rw [setD_hp, hrh])] at hq
    refine ⟨_, _, run_gex.2 ⟨q, hq, rfl⟩, run_gex.2 ⟨(r.1, q.2), ?_, rfl⟩, ?_⟩
    · have l2 : Like (grdA x) (setD ⟨σ.sl, q.2⟩ y.2.dst q.1) ⟨σ.sl, q.2⟩ := fun n hn => by
        rw [lookup_setD', if_neg]; intro e; exact dy n e hn
      rw [gex_like R l2 (by rw [setD_hp]), gex_still R c4, hr]; rfl
    · rw [hrh]
      refine Eqv.trans ?_ (two_sets c3' rfl)
      exact ⟨by simp [setD_hp], fun n => by simp only [lookup_setD']⟩
  · obtain ⟨r, hr, rfl⟩ := run_gex.1 h1
    obtain ⟨q, hq, rfl⟩ := run_gex.1 h2
    have hqh := gex_still_hp R c4 hq
    rw [setD_hp] at hqh
    have l1 : Like (grdA y) (setD ⟨σ.sl, r.2⟩ x.2.dst r.1) ⟨σ.sl, r.2⟩ := fun n hn => by
      rw [lookup_setD', if_neg]; intro e; exact dx n e hn
    rw [gex_like R l1 (by rw [setD_hp]), gex_still R c4] at hq
    simp only [Option.map_eq_some_iff] at hq
    obtain ⟨q', hq', rfl⟩ := hq
    have hq'h := gex_still_hp R c4 hq'
    refine ⟨_, _, run_gex.2 ⟨q', hq', rfl⟩, run_gex.2 ⟨r, ?_, rfl⟩, ?_⟩
    · have l2 : Like (grdA x) (setD ⟨σ.sl, q'.2⟩ y.2.dst q'.1) σ := fun n hn => by
        rw [lookup_setD', if_neg]; intro e; exact dy n e hn
      rw [gex_like R l2 (by rw [setD_hp, hq'h]), hr]
    · refine ⟨by simp [setD_hp], fun n => ?_⟩
      have := (two_sets (sl := σ.sl) (hp := r.2) (u := r.1) (v := q'.1) c3' rfl).2 n
      simp only [lookup_setD'] at this ⊢
      exact this
  · obtain ⟨r, hr, rfl⟩ := run_gex.1 h1
    obtain ⟨q, hq, rfl⟩ := run_gex.1 h2
    have hsx : swap? x y = true := by
      unfold swap?
      obtain ⟨rx, hx⟩ := Option.isSome_iff_exists.1 c4.1
      obtain ⟨ry, hy⟩ := Option.isSome_iff_exists.1 c4.2
      have sub : ∀ {g : G} {rs : List Nat}, grd g = some rs → rs = grdA g := fun {g rs} hg => by
        simp only [grd, Option.map_eq_some_iff] at hg
        obtain ⟨rs', hk, rfl⟩ := hg
        unfold grdA
        congr 1
        revert hk
        cases g.2 <;> simp [K.rd, K.rdA] <;> (try (intro h; exact h.symm))
        all_goals (rename_i pu f xs; cases pu <;> simp (config := { contextual := true }) [K.rd])
      rw [hx, hy, sub hx, sub hy]
      simp only [Bool.and_eq_true]
      exact ⟨⟨by revert c1; cases x.2.dst <;> simp, by revert c2; cases y.2.dst <;> simp⟩, c3'⟩
    exact runG_swap R hsx h1 h2

theorem runG_eqv (R : Rt) {σ τ σ' : St} {g : G} (h : Eqv σ τ) (hr : runG R σ g = some σ') : ∃ τ', runG R τ g = some τ' ∧ Eqv σ' τ' := by
  obtain ⟨r, h1, rfl⟩ := run_gex.1 hr
  rw [gex_like R (fun n _ => h.2 n) h.1] at h1
  exact ⟨_, run_gex.2 ⟨r, h1, rfl⟩, by simp [setD_hp], fun n => by simp only [lookup_setD', h.2 n]⟩
theorem runGs_eqvA (R : Rt) : ∀ {l : List G} {σ τ σ' : St}, Eqv σ τ → runGs R l σ = some σ' → ∃ τ', runGs R l τ = some τ' ∧ Eqv σ' τ'
  | [], σ, τ, σ', h, hr => by
    simp only [runGs, Option.some.injEq] at hr
    subst hr
    exact ⟨τ, rfl, h⟩
  | g :: r, σ, τ, σ', h, hr => by
    simp only [runGs, Option.bind_eq_some_iff] at hr ⊢
    obtain ⟨σ1, h1, h2⟩ := hr
    obtain ⟨τ1, k1, e1⟩ := runG_eqv R h h1
    obtain ⟨τ', k2, e2⟩ := runGs_eqvA R e1 h2
    exact ⟨τ', ⟨_, k1, k2⟩, e2⟩

/-! Orders enough. -/
inductive Cov (ops : Array Oper) : List (Nat × G) → List (List G) → Prop
  | nil : Cov ops [] [[]]
  | one {rem : List (Nat × G)} {x : Nat × G} {L : List (List G)} (hx : x ∈ rem) (hr : readyIn ops rem x.1 = true) (hs : ∀ y ∈ without rem x.1, swapG x.2 y.2 = true ∨ dep ops 40 y.1 x.1 = true) (h : Cov ops (without rem x.1) L) : Cov ops rem (L.map (x.2 :: ·))
  | br {rem : List (Nat × G)} {LL : List (List G)} {F : Nat × G → List (List G)} (hne : rem ≠ []) (h1 : ∀ x ∈ rem, readyIn ops rem x.1 = true → F x ≠ []) (h : ∀ x ∈ rem, readyIn ops rem x.1 = true → Cov ops (without rem x.1) (F x))
      (h3 : ∀ x ∈ rem, readyIn ops rem x.1 = true → ∀ l ∈ F x, x.2 :: l ∈ LL) : Cov ops rem LL

structure TopP (ops : Array Oper) (rem : List (Nat × G)) : Prop where
  irr : ∀ x ∈ rem, after? ops x.1 x.1 = false
  pw : rem.Pairwise fun x y => after? ops x.1 y.1 = false
  nd : (rem.map (·.1)).Nodup

theorem mem_without {rem : List (Nat × G)} {j : Nat} {x : Nat × G} : x ∈ without rem j ↔ x ∈ rem ∧ x.1 ≠ j := by simp [without]
theorem TopP.without {ops : Array Oper} {rem : List (Nat × G)} (h : TopP ops rem) (j : Nat) : TopP ops (without rem j) :=
  ⟨fun x hx => h.irr x (mem_without.1 hx).1, h.pw.sublist List.filter_sublist, (List.Sublist.map _ List.filter_sublist).nodup h.nd⟩
theorem TopP.ready {ops : Array Oper} {x : Nat × G} {r : List (Nat × G)} (h : TopP ops (x :: r)) : readyIn ops (x :: r) x.1 = true := by
  simp only [readyIn, List.all_eq_true, Bool.not_eq_true']
  intro y hy
  rcases List.mem_cons.1 hy with rfl | hy
  · exact h.irr y (List.mem_cons_self ..)
  · exact List.rel_of_pairwise_cons h.pw hy
theorem without_len {rem : List (Nat × G)} {x : Nat × G} (hx : x ∈ rem) : (without rem x.1).length < rem.length := by
  unfold without
  exact List.length_filter_lt_length_iff_exists.2 ⟨x, hx, by simp⟩

theorem orders_ne {ops : Array Oper} : ∀ {n : Nat} {rem : List (Nat × G)}, rem.length < n → TopP ops rem → ordersOf ops n rem ≠ []
  | 0, _, h, _ => by omega
  | n + 1, [], _, _ => by simp [ordersOf]
  | n + 1, x :: r, hl, ht => by
    unfold ordersOf
    simp only
    split
    · rename_i y hy
      have hm := List.mem_of_find?_eq_some hy
      have := without_len hm
      have := orders_ne (n := n) (rem := without (x :: r) y.1) (by omega) (ht.without _)
      simpa using this
    · intro e
      have hm : x ∈ (x :: r).filter fun z => readyIn ops (x :: r) z.1 := List.mem_filter.2 ⟨List.mem_cons_self .., ht.ready⟩
      have := without_len (List.mem_cons_self (a := x) (l := r))
      have h2 := orders_ne (n := n) (rem := without (x :: r) x.1) (by omega) (ht.without _)
      obtain ⟨l, hl2⟩ := List.exists_mem_of_ne_nil _ h2
      have : x.2 :: l ∈ ([] : List (List G)) := by
        rw [← e]
        exact List.mem_flatMap.2 ⟨x, hm, List.mem_map.2 ⟨l, hl2, rfl⟩⟩
      simp at this

theorem orders_cov {ops : Array Oper} : ∀ {n : Nat} {rem : List (Nat × G)}, rem.length < n → TopP ops rem → Cov ops rem (ordersOf ops n rem)
  | 0, _, h, _ => by omega
  | n + 1, [], _, _ => by
    simp only [ordersOf]
    exact .nil
  | n + 1, x :: r, hl, ht => by
    unfold ordersOf
    simp only
    split
    · rename_i y hy
      have hm := List.mem_of_find?_eq_some hy
      have hf := List.find?_some hy
      simp only [first?, Bool.and_eq_true, List.all_eq_true, Bool.or_eq_true] at hf
      have := without_len hm
      exact .one hm hf.1 hf.2 (orders_cov (by omega) (ht.without _))
    · refine .br (F := fun y => ordersOf ops n (Zq.without (x :: r) y.1)) (by simp) (fun y hm hr => ?_) (fun y hm hr => ?_) (fun y hm hr l hl => ?_)
      · have := without_len hm
        exact orders_ne (by omega) (ht.without _)
      · have := without_len hm
        exact orders_cov (by omega) (ht.without _)
      · exact List.mem_flatMap.2 ⟨y, List.mem_filter.2 ⟨hm, hr⟩, List.mem_map.2 ⟨l, hl, rfl⟩⟩

theorem cov_ne {ops : Array Oper} {rem : List (Nat × G)} {L : List (List G)} (h : Cov ops rem L) (ht : TopP ops rem) : L ≠ [] := by
  induction h with
  | nil => simp
  | one hx hr hs h ih =>
    have := ih (ht.without _)
    simpa using this
  | @br rem LL F hne h1 h h3 _ =>
    match rem, hne with
    | [], hne => exact absurd rfl hne
    | x :: r, _ =>
      obtain ⟨l, hl⟩ := List.exists_mem_of_ne_nil _ (h1 x (List.mem_cons_self ..) ht.ready)
      exact List.ne_nil_of_mem (h3 x (List.mem_cons_self ..) ht.ready l hl)

/-- What is done was bound to nothing that is still to be done. -/
def Closed (ops : Array Oper) (rem : List (Nat × G)) : Prop := ∀ z, z ∉ rem.map (·.1) → ∀ y ∈ rem, after? ops z y.1 = false
theorem not_dep {ops : Array Oper} {rem : List (Nat × G)} (hc : Closed ops rem) {x : Nat × G} (hx : x ∈ rem) : ∀ {n j : Nat}, (∀ y ∈ rem, after? ops j y.1 = false) → dep ops n j x.1 = false
  | 0, _, _ => rfl
  | n + 1, j, h => by
    unfold dep
    cases ho : ops[j]? with
    | none => rfl
    | some o =>
      simp only
      rw [Array.any_eq_false]
      intro i hi
      have hed : o.after[i] ∈ o.after := Array.getElem_mem hi
      generalize o.after[i] = e at hed
      cases hb : Region.binds .any e with
      | false => simp
      | true =>
        have hon : e.on ∉ rem.map (·.1) := by
          intro hm
          obtain ⟨y, hy, hye⟩ := List.mem_map.1 hm
          have := h y hy
          simp only [after?, ho] at this
          rw [Array.any_eq_false'] at this
          exact this e hed (by simp [hb, hye])
        have h1 : (e.on == x.1) = false := by
          simp only [beq_eq_false_iff_ne]
          intro e1
          exact hon (e1 ▸ List.mem_map_of_mem hx)
        have h2 := not_dep hc hx (n := n) (j := e.on) (hc e.on hon)
        simp [h1, h2]
theorem ready_after {ops : Array Oper} {rem : List (Nat × G)} {j : Nat} (h : readyIn ops rem j = true) : ∀ y ∈ rem, after? ops j y.1 = false := by
  simpa [readyIn] using h
theorem Closed.without {ops : Array Oper} {rem : List (Nat × G)} (hc : Closed ops rem) {j : Nat} (hr : readyIn ops rem j = true) : Closed ops (without rem j) := fun z hz y hy => by
  have hy' := (mem_without.1 hy).1
  by_cases e : z ∈ rem.map (·.1)
  · obtain ⟨x, hx, rfl⟩ := List.mem_map.1 e
    have : x.1 = j := by
      refine Decidable.byContradiction fun hne => ?_
      exact hz (List.mem_map_of_mem (mem_without.2 ⟨hx, hne⟩))
    rw [this]
    exact ready_after hr y hy'
  · exact hc z e y hy'
theorem ready_without {ops : Array Oper} {rem : List (Nat × G)} {i j : Nat} (h : readyIn ops rem i = true) : readyIn ops (without rem j) i = true := by
  simp only [readyIn, List.all_eq_true, Bool.not_eq_true'] at h ⊢
  exact fun y hy => h y (mem_without.1 hy).1
theorem without_comm {rem : List (Nat × G)} {i j : Nat} : without (without rem i) j = without (without rem j) i := by
  unfold without
  rw [List.filter_filter, List.filter_filter]
  congr 1
  funext x
  exact Bool.and_comm _ _

theorem front {ops : Array Oper} (R : Rt) {rem : List (Nat × G)} {L : List (List G)} (h : Cov ops rem L) : Closed ops rem → TopP ops rem → ∀ x0 ∈ rem, readyIn ops rem x0.1 = true →
    ∃ L', Cov ops (without rem x0.1) L' ∧ ∀ l' ∈ L', ∃ l ∈ L, ∀ σ σ', runGs R l σ = some σ' → ∃ σ1 τ', runG R σ x0.2 = some σ1 ∧ runGs R l' σ1 = some τ' ∧ Eqv σ' τ' := by
  induction h with
  | nil => intro _ _ x0 hx; simp at hx
  | one hx hr hs h ih =>
    rename_i rem x L
    intro hc ht x0 hx0 hr0
    have tail : ∀ l ∈ L, ∀ σ σ', runGs R (x.2 :: l) σ = some σ' → ∃ σ1, runG R σ x.2 = some σ1 ∧ runGs R l σ1 = some σ' := fun l _ σ σ' hl => by
      simp only [runGs, Option.bind_eq_some_iff] at hl
      exact hl
    by_cases e : x0.1 = x.1
    · have : x0 = x := by
        obtain ⟨i, hi, hi'⟩ := List.mem_iff_getElem.1 hx0
        obtain ⟨j, hj, hj'⟩ := List.mem_iff_getElem.1 hx
        have hij : i = j := (List.getElem_inj (xs := rem.map (·.1)) (h₀ := by simpa using hi) (h₁ := by simpa using hj) ht.nd).1 (by simp [hi', hj', e])
        subst hij
        rw [← hi', ← hj']
      subst this
      refine ⟨L, h, fun l' hl' => ⟨x0.2 :: l', List.mem_map.2 ⟨l', hl', rfl⟩, fun σ σ' hrun => ?_⟩⟩
      obtain ⟨σ1, h1, h2⟩ := tail l' hl' σ σ' hrun
      exact ⟨σ1, σ', h1, h2, Eqv.refl _⟩
    · have hx0' : x0 ∈ without rem x.1 := mem_without.2 ⟨hx0, e⟩
      have hsw : swapG x.2 x0.2 = true := by
        rcases hs x0 hx0' with h1 | h1
        · exact h1
        · rw [not_dep hc hx (ready_after hr0)] at h1
          simp at h1
      obtain ⟨L'', k1, k2⟩ := ih (hc.without hr) (ht.without _) x0 hx0' (ready_without hr0)
      refine ⟨L''.map (x.2 :: ·), .one (mem_without.2 ⟨hx, fun e' => e e'.symm⟩) (ready_without hr) (fun y hy => hs y ?_) (by rw [without_comm]; exact k1), fun l' hl' => ?_⟩
      · rw [without_comm] at hy
        exact (mem_without.1 hy).1
      · obtain ⟨l'', hl'', rfl⟩ := List.mem_map.1 hl'
        obtain ⟨l, hl, hrun⟩ := k2 l'' hl''
        refine ⟨x.2 :: l, List.mem_map.2 ⟨l, hl, rfl⟩, fun σ σ' hr1 => ?_⟩
        obtain ⟨σa, h1, h2⟩ := tail l hl σ σ' hr1
        obtain ⟨σb, τ', h3, h4, h5⟩ := hrun σa σ' h2
        obtain ⟨τ1, τ2, m1, m2, m3⟩ := runG_swapG R hsw h1 h3
        obtain ⟨υ, n1, n2⟩ := runGs_eqvA R m3 h4
        refine ⟨τ1, υ, m1, ?_, h5.trans n2⟩
        simp only [runGs, Option.bind_eq_some_iff]
        exact ⟨τ2, m2, n1⟩
  | br hne h1 h h3 _ =>
    intro hc ht x0 hx0 hr0
    refine ⟨_, h x0 hx0 hr0, fun l' hl' => ⟨x0.2 :: l', h3 x0 hx0 hr0 l' hl', fun σ σ' hrun => ?_⟩⟩
    simp only [runGs, Option.bind_eq_some_iff] at hrun
    obtain ⟨σ1, k1, k2⟩ := hrun
    exact ⟨σ1, σ', k1, k2, Eqv.refl _⟩

theorem keep_eqv {σ τ : St} (h : Eqv σ τ) : ∀ l, keep σ.sl l = keep τ.sl l
  | [] => rfl
  | n :: r => by simp only [keep, h.2 n, keep_eqv h r]
theorem liveSl_eqv {σ τ : St} (h : Eqv σ τ) {src : List Src} : ∀ {l : List Nat} {m : Nat}, liveSl σ src m l = liveSl τ src m l
  | [], _ => rfl
  | s :: r, m => by
    simp only [liveSl, h.2 s]
    congr 1
    funext v
    cases v <;> simp only [liveSl_eqv h (l := r)]
theorem fixSt_eqv {σ τ : St} (h : Eqv σ τ) {nb : Nat} {kp : List Nat} {cn : Bool} : fixSt nb kp cn σ = fixSt nb kp cn τ := by
  unfold fixSt
  split
  · have e2 : ∀ lv, liveCells σ lv = liveCells τ lv := fun lv => by
      unfold liveCells; simp only [h.2]
    unfold canon
    simp only [e2, h.1, liveSl_eqv h]
  · unfold trim
    simp only [keep_eqv h, h.1, h.2]

theorem drwSt_all {R : Rt} {nb : Nat} {kp : List Nat} {cn : Bool} : ∀ {ls : List (List G)} {σ c : St}, drwSt R nb kp cn ls σ = some c → ∀ l ∈ ls, (runGs R l σ).bind (fixSt nb kp cn) = some c
  | [], _, _, h => by simp [drwSt] at h
  | [l], σ, c, h => by
    simp only [drwSt, Option.bind_eq_some_iff, Option.some.injEq] at h
    obtain ⟨x, h1, rfl⟩ := h
    intro l' hl'
    obtain rfl := by simpa using hl'
    simpa only [Option.bind_eq_some_iff] using h1
  | l :: m :: r, σ, c, h => by
    unfold drwSt at h
    rw [Option.bind_eq_some_iff] at h
    obtain ⟨x, h1, h⟩ := h
    simp only at h
    rw [Option.bind_eq_some_iff] at h
    obtain ⟨y, h2, h3⟩ := h
    split at h3
    case isFalse => simp at h3
    rename_i e
    subst e
    obtain rfl := Option.some.inj h3
    intro l' hl'
    rcases List.mem_cons.1 hl' with rfl | hl'
    · exact h1
    · exact drwSt_all h2 l' hl'

section
variable {P : Program} {w0 : World} {W : Nat → Nat → Prop} {S0 : Rds} {ρ0 : Rho} {nb N : Nat} {ρ : Rho} {S : Rds} {σ τ : St} {a : Act} {w : World} {R : Rt}

theorem fix_sound (h : Sim w0 W S0 ρ0 nb N ρ S σ a w) {kp : List Nat} {cn : Bool} {c : St} (hc : fixSt nb kp cn σ = some c) : ∃ ρ', Sim w0 W S0 ρ0 nb N ρ' S c a w := by
  unfold fixSt at hc
  split at hc
  · exact h.canon hc
  · split at hc
    · obtain rfl := Option.some.inj hc
      exact ⟨ρ, h.trim _⟩
    · simp at hc

theorem ord_any (hR : Sound P R) {md : FuncId → Nat → Bool} {ops : Array Oper} {Q : Go.Exit → Act → World → Prop} {pm : List (Nat × G)} (htop : TopP ops pm) (hc : ∀ x ∈ pm, ∃ o, ops[x.1]? = some o ∧ compO P N md true ops o = some x.2)
    (hon : ∀ x ∈ pm, ∀ o, ops[x.1]? = some o → ∀ ed ∈ o.after, Region.binds .any ed = true → ed.on < ops.size) (hall : ∀ i, i < ops.size → i ∈ pm.map (·.1)) {kp : List Nat} {cn : Bool} {c : St} (hQ : ∀ ρ S a w, Sim w0 W S0 ρ0 nb N ρ S c a w → Q .normal a w) : ∀ (fuel : Nat) (listed : Array Bool) (ρ : Rho) (S : Rds) (σ : St) (a : Act) (w : World) (L : List (List G)), listed.size = ops.size → Sim w0 W S0 ρ0 nb N ρ S σ a w →
      Cov ops (rem pm listed) L → Closed ops (rem pm listed) → (∀ l ∈ L, (runGs R l σ).bind (fixSt nb kp cn) = some c) → (rem pm listed).length ≤ fuel → wpAny P .any ops Q fuel listed a w := by
  have lt : ∀ x ∈ pm, x.1 < ops.size := fun x hx => by
    obtain ⟨o, ho, -⟩ := hc x hx
    exact (Array.getElem?_eq_some_iff.1 ho).1
  have topR : ∀ listed, TopP ops (rem pm listed) := fun listed => ⟨fun x hx => htop.irr x (List.mem_filter.1 hx).1, htop.pw.sublist List.filter_sublist, (List.Sublist.map _ List.filter_sublist).nodup htop.nd⟩
  have inRem : ∀ listed : Array Bool, listed.size = ops.size → ∀ i, i ∈ Region.ready .any ops listed → ∃ g, (i, g) ∈ rem pm listed ∧ readyIn ops (rem pm listed) i = true := fun listed hsz i hi => by
    unfold Region.ready at hi
    rw [List.mem_filter] at hi
    obtain ⟨h1, h2⟩ := hi
    simp only [Bool.and_eq_true] at h2
    obtain ⟨x, hx, rfl⟩ := List.mem_map.1 (hall i (by simpa using h1))
    refine ⟨x.2, List.mem_filter.2 ⟨hx, h2.1⟩, ?_⟩
    obtain ⟨o, ho, -⟩ := hc x hx
    simp only [readyIn, List.all_eq_true, Bool.not_eq_true']
    intro y hy
    simp only [after?, ho]
    rw [Array.any_eq_false']
    intro ed hed hb
    simp only [Bool.and_eq_true, beq_iff_eq] at hb
    obtain ⟨hb1, hb2⟩ := hb
    have h3 := h2.2
    rw [ho] at h3
    simp only [Option.map_some, Option.getD_some] at h3
    have := Array.all_eq_true'.1 h3 ed hed
    rw [hb1, hb2] at this
    have hny := (List.mem_filter.1 hy).2
    have hyl := lt y (List.mem_filter.1 hy).1
    rw [← hsz] at hyl
    simp only [Array.getD_eq_getD_getElem?, hyl, Array.getElem?_eq_getElem, Option.getD_some, Bool.not_true, Bool.false_or] at hny this
    rw [this] at hny
    simp at hny
  have noReady : ∀ listed : Array Bool, listed.size = ops.size → Region.ready .any ops listed = [] → rem pm listed = [] := fun listed hsz hr => by
    cases hrem : rem pm listed with
    | nil => rfl
    | cons x r =>
      exfalso
      have hx : x ∈ rem pm listed := by rw [hrem]; simp
      have hxm := (List.mem_filter.1 hx).1
      have ht := topR listed
      rw [hrem] at ht
      have hrd := ht.ready
      obtain ⟨o, ho, -⟩ := hc x hxm
      have : x.1 ∈ Region.ready .any ops listed := by
        unfold Region.ready
        rw [List.mem_filter]
        refine ⟨by simpa using lt x hxm, ?_⟩
        simp only [Bool.and_eq_true]
        refine ⟨(List.mem_filter.1 hx).2, ?_⟩
        rw [ho]
        simp only [Option.map_some, Option.getD_some]
        rw [Array.all_eq_true']
        intro ed hed
        cases hb : Region.binds .any ed with
        | false => rfl
        | true =>
          simp only [Bool.not_true, Bool.false_or]
          cases hl : listed.getD ed.on false with
          | true => rfl
          | false =>
            exfalso
            by_cases hlt : ed.on < ops.size
            · obtain ⟨y, hy, hye⟩ := List.mem_map.1 (hall ed.on hlt)
              have hyr : y ∈ rem pm listed := by
                refine List.mem_filter.2 ⟨hy, ?_⟩
                rw [hye]
                rw [← hsz] at hlt
                simp only [Array.getD_eq_getD_getElem?, hlt, Array.getElem?_eq_getElem, Option.getD_some] at hl ⊢
                simp [hl]
              rw [hrem] at hyr
              have := ready_after hrd y hyr
              simp only [after?, ho] at this
              rw [Array.any_eq_false'] at this
              exact this ed hed (by simp [hb, hye])
            · exact hlt (hon x hxm o ho ed hed hb)
      rw [hr] at this
      simp at this
  have fin : ∀ (L : List (List G)) (ρ : Rho) (S : Rds) (σ : St) (a : Act) (w : World), Cov ops [] L → Sim w0 W S0 ρ0 nb N ρ S σ a w → (∀ l ∈ L, (runGs R l σ).bind (fixSt nb kp cn) = some c) → Q .normal a w := fun L ρ S σ a w hcov hs hrun => by
    have : ([] : List G) ∈ L := by
      generalize e : ([] : List (Nat × G)) = z at hcov
      cases hcov with
      | nil => simp
      | one hx => subst e; simp at hx
      | br hne => exact absurd e.symm hne
    have h1 := hrun [] this
    simp only [runGs, Option.bind_some] at h1
    obtain ⟨ρ', h2⟩ := fix_sound hs h1
    exact hQ _ _ _ _ h2
  intro fuel
  induction fuel with
  | zero =>
    intro listed ρ S σ a w L hsz hs hcov hcl hrun hlen
    have hrem : rem pm listed = [] := List.eq_nil_of_length_eq_zero (by omega)
    refine ⟨?_, ?_⟩
    · cases hrd : Region.ready .any ops listed with
      | nil => rfl
      | cons i r =>
        obtain ⟨g, hg, -⟩ := inRem listed hsz i (by rw [hrd]; simp)
        rw [hrem] at hg
        simp at hg
    · rw [hrem] at hcov
      exact fin L ρ S σ a w hcov hs hrun
  | succ fuel ih =>
    intro listed ρ S σ a w L hsz hs hcov hcl hrun hlen
    refine ⟨fun hr => ?_, fun i hi => ?_⟩
    · rw [noReady listed hsz hr] at hcov
      exact fin L ρ S σ a w hcov hs hrun
    · obtain ⟨g, hg, hrd⟩ := inRem listed hsz i hi
      obtain ⟨L', k1, k2⟩ := front R hcov hcl (topR listed) (i, g) hg hrd
      obtain ⟨l0, hl0⟩ := List.exists_mem_of_ne_nil _ (cov_ne k1 ((topR listed).without _))
      have each : ∀ l' ∈ L', ∃ σ1 τ', runG R σ g = some σ1 ∧ runGs R l' σ1 = some τ' ∧ fixSt nb kp cn τ' = some c := fun l' hl' => by
        obtain ⟨l, hl, h1⟩ := k2 l' hl'
        have h2 := hrun l hl
        rw [Option.bind_eq_some_iff] at h2
        obtain ⟨σ', h3, h4⟩ := h2
        obtain ⟨σ1, τ', m1, m2, m3⟩ := h1 σ σ' h3
        exact ⟨σ1, τ', m1, m2, by rw [← fixSt_eqv m3]; exact h4⟩
      obtain ⟨σ1, -, h1, -, -⟩ := each l0 hl0
      have hrem' : rem pm (listed.setIfInBounds i true) = without (rem pm listed) i := by
        unfold rem without
        rw [List.filter_filter]
        apply List.filter_congr
        intro x hx
        have hxl := lt x hx
        rw [← hsz] at hxl
        by_cases e : x.1 = i
        · subst e
          simp [Array.getD_eq_getD_getElem?, hxl]
        · have e' : ¬ i = x.1 := fun h => e h.symm
          simp [Array.getD_eq_getD_getElem?, e, e', hxl, Array.getElem_setIfInBounds]
      obtain ⟨o, ho, hco⟩ := hc (i, g) (List.mem_filter.1 hg).1
      simp only at ho hco
      unfold wpOp
      rw [ho]
      simp only
      refine g_sound hR hs hco h1 fun ρ1 S1 a1 w1 hs1 => ?_
      refine ih (listed.setIfInBounds i true) ρ1 S1 σ1 a1 w1 L' (by simpa using hsz) hs1 (by rw [hrem']; exact k1) (by rw [hrem']; exact hcl.without hrd) (fun l' hl' => ?_) ?_
      · obtain ⟨σ1', τ', m1, m2, m3⟩ := each l' hl'
        rw [h1] at m1
        obtain rfl := Option.some.inj m1
        rw [m2]
        exact m3
      · rw [hrem']
        have := without_len hg
        simp only at this
        omega

theorem topo_of {ops : Array Oper} : ∀ {r seen : List Nat}, topo ops seen r = true → (∀ x ∈ r, x ∉ seen) ∧ r.Nodup ∧ r.Pairwise (fun x y => after? ops x y = false) ∧ (∀ x ∈ r, after? ops x x = false) ∧
    (∀ x ∈ r, ∀ o, ops[x]? = some o → ∀ ed ∈ o.after, Region.binds .any ed = true → ed.on ∈ seen ++ r)
  | [], seen, _ => by simp
  | x :: r, seen, h => by
    simp only [topo, Bool.and_eq_true, decide_eq_true_eq] at h
    obtain ⟨⟨h1, h2⟩, h3⟩ := h
    obtain ⟨a1, a2, a3, a4, a5⟩ := topo_of h3
    have key : ∀ y, y ∉ seen → after? ops x y = false := fun y hy => by
      unfold after?
      cases ho : ops[x]? with
      | none => rfl
      | some o =>
        rw [ho] at h2
        simp only at h2 ⊢
        rw [Array.any_eq_false']
        intro ed hed hb
        simp only [Bool.and_eq_true, beq_iff_eq] at hb
        have := Array.all_eq_true'.1 h2 ed hed
        rw [hb.1, hb.2] at this
        simp [hy] at this
    refine ⟨fun y hy => ?_, ?_, ?_, fun y hy => ?_, fun y hy o ho ed hed hb => ?_⟩
    · rcases List.mem_cons.1 hy with rfl | hy
      · exact h1
      · exact fun hs => a1 y hy (List.mem_append_left _ hs)
    · refine List.nodup_cons.2 ⟨fun hx => a1 x hx (by simp), a2⟩
    · refine List.pairwise_cons.2 ⟨fun y hy => key y fun hs => a1 y hy (List.mem_append_left _ hs), a3⟩
    · rcases List.mem_cons.1 hy with rfl | hy
      · exact key y h1
      · exact a4 y hy
    · rcases List.mem_cons.1 hy with rfl | hy
      · rw [ho] at h2
        have := Array.all_eq_true'.1 h2 ed hed
        rw [hb] at this
        have hm : ed.on ∈ seen := by simpa using this
        exact List.mem_append_left _ hm
      · have := a5 y hy o ho ed hed hb
        rwa [List.append_assoc, List.singleton_append] at this

theorem ord_sound (hm : P.follows .mixedOrders = true) : OrdSound P := by
  intro N md ops pm l hl hok R hR w0 W S0 ρ0 nb ρ S σ c a w hs kp cn hdr t Q hQ
  unfold ordOk at hok
  simp only [Bool.and_eq_true, decide_eq_true_eq] at hok
  obtain ⟨⟨c1, c2⟩, c3⟩ := hok
  obtain ⟨z1, z2⟩ := comp_zip hl
  have hfst : (pm.zip l).map (·.1) = pm := by rw [← List.unzip_fst, List.unzip_zip (by omega)]
  obtain ⟨t1, t2, t3, t4, t5⟩ := topo_of c3
  have hin : ∀ x ∈ pm.zip l, x.1 ∈ pm := fun x hx => by rw [← hfst]; exact List.mem_map_of_mem hx
  have htop : TopP ops (pm.zip l) := by
    refine ⟨fun x hx => t4 _ (hin x hx), ?_, by rw [hfst]; exact t2⟩
    have := t3
    rw [← hfst, List.pairwise_map] at this
    exact this
  have hon : ∀ x ∈ pm.zip l, ∀ o, ops[x.1]? = some o → ∀ ed ∈ o.after, Region.binds .any ed = true → ed.on < ops.size := fun x hx o ho ed hed hb => by
    have h1 := t5 x.1 (hin x hx) o ho ed hed hb
    rw [List.nil_append, ← hfst] at h1
    obtain ⟨y, hy, hye⟩ := List.mem_map.1 h1
    obtain ⟨o', ho', -⟩ := z2 y hy
    rw [← hye]
    exact (Array.getElem?_eq_some_iff.1 ho').1
  have hall : ∀ i, i < ops.size → i ∈ (pm.zip l).map (·.1) := fun i hi => by
    rw [hfst]
    have := List.all_eq_true.1 c2 i (by simpa using hi)
    simpa using this
  have hrem : rem (pm.zip l) (Array.replicate ops.size false) = pm.zip l := by
    unfold rem
    rw [List.filter_eq_self]
    intro x hx
    obtain ⟨o, ho, -⟩ := z2 x hx
    have hlt := (Array.getElem?_eq_some_iff.1 ho).1
    simp [Array.getD_eq_getD_getElem?, hlt]
  have hlen : (pm.zip l).length = ops.size := by rw [List.length_zip]; omega
  simp only [Region.schedule, hm, Bool.true_or, if_true]
  refine wpAny_sound ops.size t _ a _ (ord_any hR htop z2 hon hall (kp := kp) (cn := cn) (c := c) (fun ρ S a w h => hQ ρ S a w h) ops.size _ ρ S σ a _ _ (by simp) (hs.drawn rfl rfl rfl rfl) (by rw [hrem]; exact orders_cov (by omega) htop) ?_ (drwSt_all hdr) (by rw [hrem]; omega))
  rw [hrem]
  intro z hz y hy
  unfold after?
  cases ho : ops[z]? with
  | none => rfl
  | some o => exact absurd (hall z (Array.getElem?_eq_some_iff.1 ho).1) hz

theorem drawSound_quiet (hm : P.follows .mixedOrders = true) : DrawSound P quiet? := ⟨drawSound_quiet1 hm, ord_sound hm⟩

end
end Go.Zq
