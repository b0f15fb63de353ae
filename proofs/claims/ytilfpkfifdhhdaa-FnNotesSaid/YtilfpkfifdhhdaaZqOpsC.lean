/- Structs compared. -/
import Derived.Test.YtilfpkfifdhhdaaZqOpsB
import Derived.Laws.StructEq
set_option linter.unusedVariables false
set_option linter.unusedSimpArgs false
namespace Go.Zq
open Go

section
variable {P : Program} {w0 : World} {W : Nat → Nat → Prop} {S0 : Rds} {ρ0 : Rho} {nb N : Nat} {ρ : Rho} {S : Rds} {σ : St} {a : Act} {w : World}

theorem eqRow_len : ∀ {gs : List Nat} {xs ys : Row} {r : Bool}, eqRow gs xs ys = some r → xs.length = gs.length ∧ ys.length = gs.length
  | [], [], [], _, _ => ⟨rfl, rfl⟩
  | g :: gs, x :: xs, y :: ys, r, h => by
    simp only [eqRow, Option.bind_eq_some_iff] at h
    obtain ⟨e, -, r', h2, -⟩ := h
    obtain ⟨h3, h4⟩ := eqRow_len h2
    exact ⟨by simp [h3], by simp [h4]⟩
  | [], [], _ :: _, _, h => by simp [eqRow] at h
  | [], _ :: _, _, _, h => by simp [eqRow] at h
  | _ :: _, [], _, _, h => by simp [eqRow] at h
  | _ :: _, _ :: _, [], _, h => by simp [eqRow] at h

theorem eqRow_append : ∀ {gs hs : List Nat} {xs ys : Row} {r : Bool}, eqRow (gs ++ hs) xs ys = some r →
    ∃ r1 r2, eqRow gs (xs.take gs.length) (ys.take gs.length) = some r1 ∧ eqRow hs (xs.drop gs.length) (ys.drop gs.length) = some r2 ∧ r = (r1 && r2)
  | [], hs, xs, ys, r, h => ⟨true, r, by simp [eqRow], by simpa using h, by simp⟩
  | g :: gs, hs, x :: xs, y :: ys, r, h => by
    simp only [List.cons_append, eqRow, Option.bind_eq_some_iff, Option.some.injEq] at h
    obtain ⟨e, h1, r', h2, rfl⟩ := h
    obtain ⟨r1, r2, h3, h4, rfl⟩ := eqRow_append h2
    exact ⟨e && r1, r2, by simp [eqRow, h1, h3], by simpa using h4, by simp [Bool.and_assoc]⟩
  | _ :: _, _, [], _, _, h => by simp [eqRow] at h
  | _ :: _, _, _ :: _, [], _, h => by simp [eqRow] at h

theorem RT.litv {v u : Value} (h : RT ρ w S (.lit v) u) : u = v := by
  cases h with
  | ri h => cases h; rfl

theorem flatL_shift {k : TypeId → Option (List Nat)} : ∀ {fs : List Field} {o : Nat} {gs : List Nat}, flatL P k o fs = some gs → True := fun _ => trivial

/-- Cells of an aggregate. -/
def AR (ρ : Rho) (w : World) (S : Rds) (cs : Row) (arr : Array Value) : Prop := cs.length = arr.size ∧ ∀ (k : Nat) (t : T), cs[k]? = some t → RT ρ w S t (arr.getD k undef)

theorem AR.extract {cs : Row} {arr : Array Value} (h : AR ρ w S cs arr) {o n : Nat} (hn : o + n ≤ cs.length) : AR ρ w S ((cs.drop o).take n) (arr.extract o (o + n)) := by
  obtain ⟨h1, h2⟩ := h
  refine ⟨by simp; omega, fun k t ht => ?_⟩
  have hk : k < n := by have := (List.getElem?_eq_some_iff.1 ht).1; simp at this; omega
  rw [List.getElem?_take_of_lt hk, List.getElem?_drop] at ht
  have := h2 _ t ht
  have hlt : o + k < arr.size := by omega
  simpa [Array.getD_eq_getD_getElem?, Array.getElem?_extract, hk, hlt, show min (o + n) arr.size = o + n by omega] using this

theorem isAgg_not {t : TypeId} {d : TypeDesc} (h : P.underlying t = some d) (h1 : ∀ fs, d ≠ .struct fs) (h2 : ∀ n e, d ≠ .array n e) : (isAgg t).run P w = .ok false w := by
  apply r_isAgg
  unfold isAggT
  rw [h]
  cases d <;> simp_all

theorem part_one {t : TypeId} {d : TypeDesc} (h : P.underlying t = some d) (h1 : ∀ fs, d ≠ .struct fs) (h2 : ∀ n e, d ≠ .array n e) {cs : Row} {arr : Array Value} (hr : AR ρ w S cs arr) {o : Nat} {v : Value} (hv : cs[o]? = some (.lit v)) :
    (part t arr o).run P w = .ok v w := by
  have hlt : o < arr.size := by rw [← hr.1]; exact (List.getElem?_eq_some_iff.1 hv).1
  have := (hr.2 o _ hv).litv
  simp only [Array.getD_eq_getD_getElem?, hlt, Array.getElem?_eq_getElem, Option.getD_some] at this
  simp [part, isAgg_not h h1 h2, hlt, this]

theorem part_agg {t : TypeId} {fs : Array Field} (h : P.underlying t = some (.struct fs)) {n : Nat} (hn : sizeT P t = some n) {arr : Array Value} {o : Nat} : (part t arr o).run P w = .ok (.agg (arr.extract o (o + n))) w := by
  have : isAggT P t = some true := by simp [isAggT, h]
  simp [part, r_isAgg this, r_sizeOf hn]

theorem eqFields_sound {k : TypeId → Option (List Nat)} {d : Nat} (hk : ∀ t gs, k t = some gs → ∀ (xs ys : Row) (r : Bool) (as bs : Array Value), AR ρ w S xs as → AR ρ w S ys bs → eqRow gs xs ys = some r →
      (Op.equalIn (d + 1) t (.agg as) (.agg bs)).run P w = .ok r w) {xs ys : Row} {as bs : Array Value} (hx : AR ρ w S xs as) (hy : AR ρ w S ys bs) :
    ∀ (fs : List Field) (o : Nat) (gs : List Nat), flatL P k o fs = some gs → ∀ r, eqRow gs (xs.drop o) (ys.drop o) = some r → (Op.eqFields (d + 1) as bs fs).run P w = .ok r w := by
  intro fs
  induction fs with
  | nil =>
    intro o gs hg r hr
    obtain rfl := by simpa [flatL] using hg
    obtain ⟨h1, h2⟩ := eqRow_len hr
    rw [List.eq_nil_of_length_eq_zero h1, List.eq_nil_of_length_eq_zero h2] at hr
    obtain rfl := by simpa [eqRow] using hr
    rfl
  | cons f fs ih =>
    intro o gs hg r hr
    simp only [flatL] at hg
    obtain ⟨⟨hname, rfl⟩, hg1⟩ := of_ite hg
    have one : ∀ (g : Nat) (gs' : List Nat), flatL P k (f.offset + 1) fs = some gs' → gs = g :: gs' → ∃ x y e r', xs[f.offset]? = some x ∧ ys[f.offset]? = some y ∧ eqTag g x y = some e ∧ r = (e && r') ∧
        (Op.eqFields (d + 1) as bs fs).run P w = .ok r' w := by
      intro g gs' hgs' e
      subst e
      cases hdx : xs.drop f.offset with
      | nil => simp [hdx, eqRow] at hr
      | cons x xr =>
        cases hdy : ys.drop f.offset with
        | nil => simp [hdx, hdy, eqRow] at hr
        | cons y yr =>
          simp only [hdx, hdy, eqRow, Option.bind_eq_some_iff, Option.some.injEq] at hr
          obtain ⟨e, h1, r', h2, rfl⟩ := hr
          have hx0 : xs[f.offset]? = some x := by rw [← Nat.add_zero f.offset, ← List.getElem?_drop, hdx]; rfl
          have hy0 : ys[f.offset]? = some y := by rw [← Nat.add_zero f.offset, ← List.getElem?_drop, hdy]; rfl
          have hxr : xs.drop (f.offset + 1) = xr := by rw [← List.drop_drop, hdx]; rfl
          have hyr : ys.drop (f.offset + 1) = yr := by rw [← List.drop_drop, hdy]; rfl
          exact ⟨x, y, e, r', hx0, hy0, h1, rfl, ih _ gs' hgs' r' (by rw [hxr, hyr]; exact h2)⟩
    have join : ∀ {va vb : Value} {e r' : Bool}, (part f.type as f.offset).run P w = .ok va w → (part f.type bs f.offset).run P w = .ok vb w → (Op.equalIn (d + 1) f.type va vb).run P w = .ok e w →
        (Op.eqFields (d + 1) as bs fs).run P w = .ok r' w → (Op.eqFields (d + 1) as bs (f :: fs)).run P w = .ok (e && r') w := by
      intro va vb e r' h1 h2 h3 h4
      simp only [Op.eqFields]
      rw [if_pos hname]
      cases e <;> simp [h1, h2, h3, h4]
    split at hg1
    · rename_i kk hu
      simp only [Option.map_eq_some_iff] at hg1
      obtain ⟨gs', hgs', rfl⟩ := hg1
      obtain ⟨x, y, e, r', hx0, hy0, h1, rfl, h2⟩ := one 0 gs' hgs' rfl
      unfold eqTag at h1
      split at h1
      · rename_i k1 va k2 vb _
        obtain ⟨rfl, h1'⟩ := of_ite h1
        obtain rfl := Option.some.inj h1'
        exact join (part_one hu (by simp) (by simp) hx hx0) (part_one hu (by simp) (by simp) hy hy0) (run_equalIn_int w d f.type _ kk _ _ hu) h2
      · simp at *
      · simp at *
      · simp at h1
    · rename_i hu
      simp only [Option.map_eq_some_iff] at hg1
      obtain ⟨gs', hgs', rfl⟩ := hg1
      obtain ⟨x, y, e, r', hx0, hy0, h1, rfl, h2⟩ := one 1 gs' hgs' rfl
      unfold eqTag at h1
      split at h1
      · simp at *
      · obtain rfl := Option.some.inj h1
        exact join (part_one hu (by simp) (by simp) hx hx0) (part_one hu (by simp) (by simp) hy hy0) (run_equalIn_bool' w d f.type _ _ hu) h2
      · simp at *
      · simp at h1
    · rename_i hu
      simp only [Option.map_eq_some_iff] at hg1
      obtain ⟨gs', hgs', rfl⟩ := hg1
      obtain ⟨x, y, e, r', hx0, hy0, h1, rfl, h2⟩ := one 2 gs' hgs' rfl
      unfold eqTag at h1
      split at h1
      · simp at *
      · simp at *
      · obtain rfl := Option.some.inj h1
        exact join (part_one hu (by simp) (by simp) hx hx0) (part_one hu (by simp) (by simp) hy hy0) (run_equalIn_string w d f.type _ _ hu) h2
      · simp at h1
    · rename_i fs' hu
      simp only [Option.bind_eq_some_iff] at hg1
      obtain ⟨g, hgk, hg2⟩ := hg1
      obtain ⟨⟨hsz, hg0⟩, hg3⟩ := of_ite hg2
      simp only [Option.map_eq_some_iff] at hg3
      obtain ⟨gs', hgs', rfl⟩ := hg3
      obtain ⟨hl1, hl2⟩ := eqRow_len hr
      simp only [List.length_drop, List.length_append] at hl1 hl2
      obtain ⟨r1, r2, h1, h2, rfl⟩ := eqRow_append hr
      rw [List.drop_drop, List.drop_drop] at h2
      exact join (part_agg hu hsz) (part_agg hu hsz) (hk f.type g hgk _ _ r1 _ _ (hx.extract (by omega)) (hy.extract (by omega)) h1) (ih _ gs' hgs' r2 h2)
    · simp at hg1

theorem equalIn_flat : ∀ (f : Nat) (t : TypeId) (gs : List Nat), flatC P f t = some gs → ∀ (d : Nat) (xs ys : Row) (r : Bool) (as bs : Array Value), AR ρ w S xs as → AR ρ w S ys bs → eqRow gs xs ys = some r →
    (Op.equalIn (d + f + 1) t (.agg as) (.agg bs)).run P w = .ok r w := by
  intro f
  induction f with
  | zero => intro t gs h; simp [flatC] at h
  | succ f ih =>
    intro t gs h d xs ys r as bs hx hy hr
    simp only [flatC] at h
    cases hu : P.underlying t with
    | none => simp [hu] at h
    | some td =>
      cases td with
      | struct fs =>
        simp only [hu] at h
        split at h
        · simp at h
        · rename_i hst
          have hfo : P.fieldsOf t = fs := by simp [Program.fieldsOf, hu]
          rw [show d + (f + 1) + 1 = (d + f + 1) + 1 by omega, run_equalIn_struct w (d + f + 1) t as bs (by rw [hfo]; exact hu) (by simpa using hst), hfo]
          exact eqFields_sound (k := flatC P f) (d := d + f) (fun t gs hg xs ys r as bs h1 h2 h3 => ih t gs hg d xs ys r as bs h1 h2 h3) hx hy fs.toList 0 gs h r (by simpa using hr)
      | _ => simp [hu] at h

theorem eqGuardL {k : TypeId → Option (List Nat)} {d : Nat} (hk : ∀ t gs, k t = some gs → P.eqGuardType (d + 1) t = false) : ∀ (fs : List Field) (o : Nat) (gs : List Nat), flatL P k o fs = some gs →
    ∀ f ∈ fs, (f.name != "_" && P.eqGuardType (d + 1) f.type) = false := by
  intro fs
  induction fs with
  | nil => intro o gs _ f hf; simp at hf
  | cons g fs ih =>
    intro o gs hg f hf
    simp only [flatL] at hg
    obtain ⟨⟨hname, rfl⟩, hg1⟩ := of_ite hg
    rcases List.mem_cons.1 hf with rfl | hf
    · split at hg1
      · rename_i hu; simp [Program.eqGuardType, hu]
      · rename_i hu; simp [Program.eqGuardType, hu]
      · rename_i hu; simp [Program.eqGuardType, hu]
      · simp only [Option.bind_eq_some_iff] at hg1
        obtain ⟨g', hg', -⟩ := hg1
        simp [hk _ _ hg']
      · simp at hg1
    · split at hg1
      · simp only [Option.map_eq_some_iff] at hg1; obtain ⟨gs', hgs', -⟩ := hg1; exact ih _ _ hgs' f hf
      · simp only [Option.map_eq_some_iff] at hg1; obtain ⟨gs', hgs', -⟩ := hg1; exact ih _ _ hgs' f hf
      · simp only [Option.map_eq_some_iff] at hg1; obtain ⟨gs', hgs', -⟩ := hg1; exact ih _ _ hgs' f hf
      · simp only [Option.bind_eq_some_iff] at hg1
        obtain ⟨g', hg', hg2⟩ := hg1
        have hg3 := (of_ite hg2).2
        simp only [Option.map_eq_some_iff] at hg3; obtain ⟨gs', hgs', -⟩ := hg3; exact ih _ _ hgs' f hf
      · simp at hg1

theorem eqGuard_flat : ∀ (f : Nat) (t : TypeId) (gs : List Nat), flatC P f t = some gs → ∀ d, P.eqGuardType (d + f + 1) t = false := by
  intro f
  induction f with
  | zero => intro t gs h; simp [flatC] at h
  | succ f ih =>
    intro t gs h d
    simp only [flatC] at h
    cases hu : P.underlying t with
    | none => simp [hu] at h
    | some td =>
      cases td with
      | struct fs =>
        simp only [hu] at h
        split at h
        · simp at h
        · rw [show d + (f + 1) + 1 = (d + f + 1) + 1 by omega]
          have := eqGuardL (k := flatC P f) (d := d + f) (fun t gs hg => ih t gs hg d) fs.toList 0 gs h
          rw [Program.eqGuardType, hu]
          simp only
          rw [Array.any_eq_false']
          intro x hx
          have := this x (Array.mem_def.1 hx)
          simpa using this
      | _ => simp [hu] at h

theorem does_eqs (h : Sim w0 W S0 ρ0 nb N ρ S σ a w) {o : Oper} {neg : Bool} {t u : TypeId} {x y : Operand} (ho : o.op = .binOp (if neg then .neq else .eql) t x y u) {gs : List Nat} (hg : flatC P 9 t = some gs)
    {vs us : Row} (hx : RS ρ w S (.agg vs) (a.eval x)) (hy : RS ρ w S (.agg us) (a.eval y)) {r : Bool} (hr : eqRow gs vs us = some r) :
    Does P w0 W S0 ρ0 nb N σ a w o (.one (B (if neg then !r else r))) σ.hp := by
  generalize hvx : a.eval x = vx at hx
  generalize hvy : a.eval y = vy at hy
  cases hx with
  | agg h1 h2 =>
  cases hy with
  | agg h3 h4 =>
  rename_i as bs
  have he := equalIn_flat (ρ := ρ) (w := w) (S := S) 9 t gs hg 9990 vs us r as bs ⟨h1, h2⟩ ⟨h3, h4⟩ hr
  have hd : ∃ d, P.depth = d + 9 + 1 := ⟨P.depth - 10, by simp only [Program.depth, Made.depth]; omega⟩
  obtain ⟨d, hd⟩ := hd
  have hgd := eqGuard_flat 9 t gs hg d
  refine does_same h (u := .bool (if neg then !r else r)) ?_ .bool
  simp only [execOp, ho, hvx, hvy]
  cases neg
  · simp [run_eqGuard_agg w _ t x y as bs (by rw [hd]; exact hgd), run_eql_struct, he]
  · simp [run_eqGuard_agg w _ t x y as bs (by rw [hd]; exact hgd), run_neq_struct, he]

end
end Go.Zq
