/- A region of reads and pure calls is done in any order that its edges leave open. -/
import Derived.Test.YtilfpkfifdhhdaaZqDraw
set_option linter.unusedVariables false
set_option linter.unusedSimpArgs false
namespace Go.Zq
open Go

def chk (ops : Array Oper) : List (Nat × G) → List (Nat × G) → Bool
  | _, [] => true
  | seen, x :: r =>
    decide (x.1 ∉ seen.map (·.1)) && (grd x.2).isSome && (match ops[x.1]? with
      | some o => o.after.all fun e => !Region.binds .any e || decide (e.on ∈ seen.map (·.1))
      | none => false) && (seen.all fun y => swap? y.2 x.2 || after? ops x.1 y.1) && chk ops (seen ++ [x]) r
/-- The region's operations may be done in any order. -/
def quiet? (ops : Array Oper) (pm : List Nat) (l : List G) : Bool :=
  decide (pm.length = ops.size) && (List.range ops.size).all (fun i => decide (i ∈ pm)) && pm.all (fun i => decide (i < ops.size)) && chk ops [] (pm.zip l)

section
variable {P : Program} {w0 : World} {W : Nat → Nat → Prop} {S0 : Rds} {ρ0 : Rho} {nb N : Nat} {ρ : Rho} {S : Rds} {σ τ : St} {a : Act} {w : World} {R : Rt}

theorem Sim.eqv (h : Sim w0 W S0 ρ0 nb N ρ S σ a w) (e : Eqv σ τ) : Sim w0 W S0 ρ0 nb N ρ S τ a w := by
  obtain ⟨sl, hp⟩ := σ
  obtain ⟨sl', hp'⟩ := τ
  obtain ⟨e1, e2⟩ := e
  simp only at e1 e2
  subst e1
  exact { h with slots := fun n v hv => h.slots n v (by rw [e2]; exact hv), heap := h.heap, own := h.own, nbl := h.nbl }

structure Plan (ops : Array Oper) (pm : List (Nat × G)) : Prop where
  quiet : ∀ x ∈ pm, (grd x.2).isSome = true
  nodup : (pm.map (·.1)).Nodup
  pw : pm.Pairwise fun x y => swap? x.2 y.2 = true ∨ after? ops y.1 x.1 = true
  top : ∀ u x v, pm = u ++ x :: v → ∀ o, ops[x.1]? = some o → ∀ e ∈ o.after, Region.binds .any e = true → e.on ∈ u.map (·.1)

theorem plan_of {ops : Array Oper} : ∀ {r seen : List (Nat × G)}, chk ops seen r = true → Plan ops seen → Plan ops (seen ++ r)
  | [], seen, _, h => by rw [List.append_nil]; exact h
  | x :: r, seen, hc, h => by
    simp only [chk, Bool.and_eq_true, decide_eq_true_eq] at hc
    obtain ⟨⟨⟨⟨c1, c2⟩, c3⟩, c4⟩, c5⟩ := hc
    have hp : Plan ops (seen ++ [x]) := by
      refine ⟨fun y hy => ?_, ?_, ?_, fun u y v e o ho ed hed hb => ?_⟩
      · rcases List.mem_append.1 hy with hy | hy
        · exact h.quiet y hy
        · obtain rfl := by simpa using hy
          exact c2
      · rw [List.map_append, List.nodup_append]
        refine ⟨h.nodup, by simp, fun i hi j hj => ?_⟩
        simp only [List.map_cons, List.map_nil, List.mem_singleton] at hj
        subst hj
        intro e
        subst e
        exact c1 hi
      · rw [List.pairwise_append]
        refine ⟨h.pw, by simp, fun y hy z hz => ?_⟩
        obtain rfl := by simpa using hz
        have := List.all_eq_true.1 c4 y hy
        simpa using this
      · rcases List.eq_nil_or_concat v with rfl | ⟨v', z, rfl⟩
        · have e' : seen ++ [x] = u ++ [y] := e
          have := List.append_inj' e' rfl
          obtain ⟨rfl, h2⟩ := this
          obtain rfl : x = y := by simpa using h2
          rw [ho] at c3
          simp only at c3
          have := Array.all_eq_true'.1 c3 ed hed
          simpa [hb] using this
        · have e' : seen ++ [x] = (u ++ y :: v') ++ [z] := by rw [e]; simp
          have := (List.append_inj' e' rfl).1
          exact h.top u y v' this o ho ed hed hb
    have := plan_of c5 hp
    rwa [List.append_assoc, List.singleton_append] at this

/-- What is still to be done. -/
def rem (pm : List (Nat × G)) (listed : Array Bool) : List (Nat × G) := pm.filter fun x => !listed.getD x.1 true

theorem any_sound (hR : Sound P R) {md : FuncId → Nat → Bool} {ops : Array Oper} {Q : Go.Exit → Act → World → Prop} {pm : List (Nat × G)} (hpl : Plan ops pm) (hc : ∀ x ∈ pm, ∃ o, ops[x.1]? = some o ∧ compO P N md true ops o = some x.2)
    (hall : ∀ i, i < ops.size → i ∈ pm.map (·.1)) : ∀ (fuel : Nat) (listed : Array Bool) (ρ : Rho) (S : Rds) (σ σ' : St) (a : Act) (w : World), listed.size = ops.size → Sim w0 W S0 ρ0 nb N ρ S σ a w →
      runGs R ((rem pm listed).map (·.2)) σ = some σ' → (rem pm listed).length ≤ fuel → (∀ ρ S σ2 a w, Eqv σ' σ2 → Sim w0 W S0 ρ0 nb N ρ S σ2 a w → Q .normal a w) → wpAny P .any ops Q fuel listed a w := by
  have lt : ∀ x ∈ pm, x.1 < ops.size := fun x hx => by
    obtain ⟨o, ho, -⟩ := hc x hx
    exact (Array.getElem?_eq_some_iff.1 ho).1
  have inRem : ∀ listed : Array Bool, listed.size = ops.size → ∀ i, i ∈ Region.ready .any ops listed → ∃ g, (i, g) ∈ rem pm listed := fun listed hsz i hi => by
    unfold Region.ready at hi
    rw [List.mem_filter] at hi
    obtain ⟨h1, h2⟩ := hi
    simp only [Bool.and_eq_true] at h2
    obtain ⟨x, hx, rfl⟩ := List.mem_map.1 (hall i (by simpa using h1))
    exact ⟨x.2, List.mem_filter.2 ⟨hx, h2.1⟩⟩
  have noReady : ∀ listed : Array Bool, listed.size = ops.size → Region.ready .any ops listed = [] → rem pm listed = [] := fun listed hsz hr => by
    cases hrem : rem pm listed with
    | nil => rfl
    | cons x r =>
      exfalso
      obtain ⟨u, v, e, h1, h2, h3⟩ := List.filter_eq_cons_iff.1 hrem
      have hxm : x ∈ pm := by rw [e]; simp
      obtain ⟨o, ho, -⟩ := hc x hxm
      have : x.1 ∈ Region.ready .any ops listed := by
        unfold Region.ready
        rw [List.mem_filter]
        refine ⟨by simpa using lt x hxm, ?_⟩
        simp only [Bool.and_eq_true]
        refine ⟨h2, ?_⟩
        rw [ho]
        simp only [Option.map_some, Option.getD_some]
        rw [Array.all_eq_true']
        intro ed hed
        cases hb : Region.binds .any ed with
        | false => rfl
        | true =>
          obtain ⟨y, hy, hye⟩ := List.mem_map.1 (hpl.top u x v e o ho ed hed hb)
          have hny := h1 y hy
          have hym : y ∈ pm := by rw [e]; exact List.mem_append_left _ hy
          have hyl := lt y hym
          rw [← hsz] at hyl
          rw [← hye]
          simp only [Array.getD_eq_getD_getElem?, hyl, Array.getElem?_eq_getElem, Option.getD_some] at hny ⊢
          simpa using hny
      rw [hr] at this
      simp at this
  intro fuel
  induction fuel with
  | zero =>
    intro listed ρ S σ σ' a w hsz hs hrun hlen hQ
    have hrem : rem pm listed = [] := List.eq_nil_of_length_eq_zero (by omega)
    refine ⟨?_, ?_⟩
    · cases hrd : Region.ready .any ops listed with
      | nil => rfl
      | cons i r =>
        obtain ⟨g, hg⟩ := inRem listed hsz i (by rw [hrd]; simp)
        rw [hrem] at hg
        simp at hg
    · rw [hrem] at hrun
      simp only [List.map_nil, runGs, Option.some.injEq] at hrun
      subst hrun
      exact hQ _ _ _ _ _ (Eqv.refl _) hs
  | succ fuel ih =>
    intro listed ρ S σ σ' a w hsz hs hrun hlen hQ
    refine ⟨fun hr => ?_, fun i hi => ?_⟩
    · have hrem := noReady listed hsz hr
      rw [hrem] at hrun
      simp only [List.map_nil, runGs, Option.some.injEq] at hrun
      subst hrun
      exact hQ _ _ _ _ _ (Eqv.refl _) hs
    · obtain ⟨g, hg⟩ := inRem listed hsz i hi
      obtain ⟨u, v, huv⟩ := List.append_of_mem hg
      have hsub : ∀ y ∈ rem pm listed, y ∈ pm := fun y hy => (List.mem_filter.1 hy).1
      have hndr : ((rem pm listed).map (·.1)).Nodup := (List.Sublist.map _ List.filter_sublist).nodup hpl.nodup
      have hpwr : (rem pm listed).Pairwise fun x y => swap? x.2 y.2 = true ∨ after? ops y.1 x.1 = true := hpl.pw.sublist List.filter_sublist
      rw [huv] at hpwr hndr
      have hsw : ∀ y ∈ u, swap? y.2 g = true := fun y hy => by
        rcases (List.pairwise_append.1 hpwr).2.2 y hy (i, g) (by simp) with h | h
        · exact h
        · exfalso
          simp only [after?] at h
          cases ho : ops[i]? with
          | none => simp [ho] at h
          | some o =>
            simp only [ho] at h
            obtain ⟨ed, hed, hb⟩ := Array.any_eq_true'.1 h
            simp only [Bool.and_eq_true, beq_iff_eq] at hb
            obtain ⟨hb1, hb2⟩ := hb
            unfold Region.ready at hi
            rw [List.mem_filter] at hi
            obtain ⟨-, h2⟩ := hi
            simp only [Bool.and_eq_true, ho, Option.map_some, Option.getD_some] at h2
            have := Array.all_eq_true'.1 h2.2 ed hed
            rw [hb1, hb2] at this
            have hyr : y ∈ rem pm listed := by rw [huv]; exact List.mem_append_left _ hy
            have hny := (List.mem_filter.1 hyr).2
            have hyl := lt y (hsub y hyr)
            rw [← hsz] at hyl
            simp only [Array.getD_eq_getD_getElem?, hyl, Array.getElem?_eq_getElem, Option.getD_some, Bool.not_true, Bool.false_or] at hny this
            rw [this] at hny
            simp at hny
      rw [huv, List.map_append, List.map_cons] at hrun
      have hq : ∀ x ∈ u.map (·.2) ++ g :: v.map (·.2), (grd x).isSome = true := fun x hx => by
        have : x ∈ (rem pm listed).map (·.2) := by rw [huv]; simpa using hx
        obtain ⟨y, hy, rfl⟩ := List.mem_map.1 this
        exact hpl.quiet y (hsub y hy)
      obtain ⟨σ1, τ', h1, h2, h3⟩ := runGs_front R (u := u.map (·.2)) (v := v.map (·.2)) (fun x hx => by obtain ⟨y, hy, rfl⟩ := List.mem_map.1 hx; exact hsw y hy) hq hrun
      have hrem' : rem pm (listed.setIfInBounds i true) = u ++ v := by
        have e1 : rem pm (listed.setIfInBounds i true) = (rem pm listed).filter fun x => decide (x.1 ≠ i) := by
          unfold rem
          rw [List.filter_filter]
          apply List.filter_congr
          intro x hx
          have hxl := lt x hx
          rw [← hsz] at hxl
          by_cases e : x.1 = i
          · subst e
            simp [Array.getD_eq_getD_getElem?, hxl]
          · have e' : ¬ i = x.1 := fun h => e h.symm
            simp [Array.getD_eq_getD_getElem?, e, e', hxl, Array.getElem_setIfInBounds]
        rw [e1, huv, List.filter_append, List.filter_cons]
        rw [List.map_append, List.map_cons, List.nodup_append] at hndr
        obtain ⟨-, n2, n3⟩ := hndr
        rw [if_neg (by simp), List.filter_eq_self.2, List.filter_eq_self.2]
        · intro x hx
          have := (List.nodup_cons.1 n2).1
          simp only [decide_eq_true_eq]
          intro e
          exact this (List.mem_map.2 ⟨x, hx, e⟩)
        · intro x hx
          simp only [decide_eq_true_eq]
          intro e
          exact n3 x.1 (List.mem_map_of_mem hx) i (by simp) e
      obtain ⟨o, ho, hco⟩ := hc (i, g) (hsub _ hg)
      simp only at ho hco
      unfold wpOp
      rw [ho]
      simp only
      refine g_sound hR hs hco h1 fun ρ1 S1 a1 w1 hs1 => ?_
      refine ih (listed.setIfInBounds i true) ρ1 S1 σ1 τ' a1 w1 (by simpa using hsz) hs1 (by rw [hrem', List.map_append]; exact h2) ?_ (fun ρ S σ2 a w he hs2 => hQ ρ S σ2 a w (h3.trans he) hs2)
      rw [hrem']
      rw [huv] at hlen
      simp at hlen ⊢
      omega

theorem comp_zip {md : FuncId → Nat → Bool} {ops : Array Oper} : ∀ {pm : List Nat} {l : List G}, compOs P N md true ops pm = some l → pm.length = l.length ∧ ∀ x ∈ pm.zip l, ∃ o, ops[x.1]? = some o ∧ compO P N md true ops o = some x.2
  | [], l, h => by
    simp only [compOs, Option.some.injEq] at h
    subst h
    exact ⟨rfl, fun x hx => by simp at hx⟩
  | j :: r, l, h => by
    simp only [compOs, Option.bind_eq_some_iff, Option.some.injEq] at h
    obtain ⟨o, ho, g, hg, r', hr, rfl⟩ := h
    obtain ⟨h1, h2⟩ := comp_zip hr
    refine ⟨by simp [h1], fun x hx => ?_⟩
    rw [List.zip_cons_cons, List.mem_cons] at hx
    rcases hx with rfl | hx
    · exact ⟨o, ho, hg⟩
    · exact h2 x hx

theorem drawSound_quiet1 (hm : P.follows .mixedOrders = true) : DrawSound1 P quiet? := by
  intro N md ops pm l hl hok R hR w0 W S0 ρ0 nb ρ S σ σ' a w hs hrun t Q hQ
  unfold quiet? at hok
  simp only [Bool.and_eq_true, decide_eq_true_eq] at hok
  obtain ⟨⟨⟨c1, c2⟩, c3⟩, c4⟩ := hok
  obtain ⟨z1, z2⟩ := comp_zip hl
  have hpl : Plan ops (pm.zip l) := by
    have := plan_of c4 ⟨fun x hx => by simp at hx, by simp, by simp, fun u x v e => by simp at e⟩
    simpa using this
  have hfst : (pm.zip l).map (·.1) = pm := by rw [← List.unzip_fst, List.unzip_zip (by omega)]
  have hsnd : (pm.zip l).map (·.2) = l := by rw [← List.unzip_snd, List.unzip_zip (by omega)]
  have hrem : rem (pm.zip l) (Array.replicate ops.size false) = pm.zip l := by
    unfold rem
    rw [List.filter_eq_self]
    intro x hx
    have : x.1 ∈ pm := by rw [← hfst]; exact List.mem_map_of_mem hx
    have := List.all_eq_true.1 c3 x.1 this
    have hlt : x.1 < ops.size := by simpa using this
    simp [Array.getD_eq_getD_getElem?, hlt]
  simp only [Region.schedule, hm, Bool.true_or, if_true]
  refine wpAny_sound ops.size t _ a _ (any_sound hR hpl z2 (fun i hi => ?_) ops.size _ ρ S σ σ' a _ (by simp) (hs.drawn rfl rfl rfl rfl) (by rw [hrem, hsnd]; exact hrun) (by rw [hrem, List.length_zip]; omega) (fun ρ S σ2 a w he hs2 => hQ ρ S a w (hs2.eqv he.symm)))
  rw [hfst]
  have := List.all_eq_true.1 c2 i (by simpa using hi)
  simpa using this

end
end Go.Zq
