/- From the compact meaning of a law to the model's call of it. -/
import Derived.Test.YtilfpkfifdhhdaaZqOrd2
import Derived.Below
set_option linter.unusedVariables false
set_option linter.unusedSimpArgs false
namespace Go.Zq
open Go

/-- All blocks that are there may be read. -/
def allS (w : World) : Rds := fun _ b => b < w.heap.size
def noRho : Rho := fun _ => none

/-- Integers of a row. -/
def ints (k : IntKind) (zs : List Int) : T := .imm true 1 (zs.map fun z => [.lit (.int k z)])

theorem ints_ri {w : World} {k : IntKind} {x : Addr} {len cap : Nat} {zs : List Int} (hl : len ≤ cap) (hz : zs.length = cap) (hc : ∀ i, i < zs.length → w.cell? (x.add i) = some (.int k (zs.getD i 0))) :
    RI w (allS w) (ints k (zs.take len)) (.slice (some x) len cap) := by
  by_cases h0 : len = 0
  · subst h0
    simp only [List.take_zero, ints, List.map_nil]
    exact .nil
  · have hx : x.spot = none := by
      have := hc 0 (by omega)
      obtain ⟨b, o, s⟩ := x
      cases s with
      | none => rfl
      | some s =>
        exfalso
        simp only [Addr.add, World.cell?] at this
        split at this <;> simp_all
    obtain ⟨b, o, s⟩ := x
    simp only at hx
    subst hx
    have hcell : ∀ i, i < len → w.cell? ⟨b, o + i, none⟩ = some (.int k (zs.getD i 0)) := fun i hi => by
      have := hc i (by omega)
      rwa [Addr.add_at rfl] at this
    have hb : b < w.heap.size := by
      obtain ⟨c, e, z, hc, -⟩ := cell_obj (hcell 0 (by omega))
      exact objLt hc
    have hlen : ((zs.take len).map fun z => ([.lit (.int k z)] : Row)).length = len := by simp; omega
    have key : ∀ (j q : Nat) (t : T), (((zs.take len).map fun z => ([.lit (.int k z)] : Row))[j]?).bind (·[q]?) = some t → j < len ∧ q = 0 ∧ t = .lit (.int k (zs.getD j 0)) := fun j q t ht => by
      obtain ⟨r, hr, hq⟩ := bind_get ht
      have hj : j < len := by rw [← hlen]; exact (List.getElem?_eq_some_iff.1 hr).1
      rw [List.getElem?_map, List.getElem?_take_of_lt hj, List.getElem?_eq_getElem (by omega)] at hr
      simp only [Option.map_some, Option.some.injEq] at hr
      subst hr
      cases q with
      | succ q => simp at hq
      | zero =>
        simp only [List.getElem?_cons_zero, Option.some.injEq] at hq
        refine ⟨hj, rfl, ?_⟩
        rw [← hq]
        simp [List.getD_eq_getElem?_getD, show j < zs.length by omega]
    have := RI.imm (w := w) (S := allS w) (p := true) (rows := (zs.take len).map fun z => ([.lit (.int k z)] : Row)) (b := b) (off := o) (cap := cap) (sz := 1) (g := fun j _ => .int k (zs.getD j 0)) hb (by omega)
      (fun r hr => by obtain ⟨z, -, rfl⟩ := List.mem_map.1 hr; rfl) (fun r hr => by obtain ⟨z, -, rfl⟩ := List.mem_map.1 hr; rfl)
      (fun j q t ht => by obtain ⟨hj, rfl, rfl⟩ := key j q t ht; rw [← hcell j hj]; simp) (fun j q t ht => by obtain ⟨hj, rfl, rfl⟩ := key j q t ht; exact .lit rfl)
    rw [hlen] at this
    exact this

theorem entry_row (P : Program) {w : World} {args : List SV} {us : List Value} (hn : args.length = us.length) (h : ∀ (k : Nat) (v : SV) (u : Value), args[k]? = some v → us[k]? = some u → RS noRho w (allS w) v u) :
    Entry P w noRho (allS w) args [] us :=
  ⟨⟨fun id x hx => by simp at hx, fun _ _ _ _ _ _ _ hi => by obtain ⟨x, hx, -⟩ := hi; simp at hx, fun _ _ _ _ _ hj => by obtain ⟨x, hx, -⟩ := hj; simp at hx, fun p b h => h, fun b h => h, fun _ _ => rfl⟩, hn, h⟩

/-- A law that gives true gives true in the model, and leaves all that was there alone. -/
theorem law_calls {P : Program} {R : Rt} (hR : Sound P R) {f : FuncId} {args : List SV} {us : List Value} {w : World} (he : Entry P w noRho (allS w) args [] us) (h : R f args [] = some (.one (B true), [])) :
    Calls P f us.toArray w fun e w' => e = .returned (.bool true) ∧ RowKit.Below w.heap.size w w' := by
  refine ((hR f args [] _ _ h).2 w _ _ us he).mono fun e w' hx => ?_
  cases e with
  | returned u =>
    obtain ⟨ρ', S', hrs, -, hk, -⟩ := hx
    have hu : u = .bool true := asBool_sound hrs rfl
    refine ⟨by rw [hu], hk.os, hk.tape, hk.output, hk.size, fun b hb => hk.same hb fun o hw => ?_⟩
    obtain ⟨i, L, hi, -⟩ := hw
    obtain ⟨x, hx, -⟩ := hi
    simp at hx
  | panicked _ => exact hx.elim
  | outgrown => exact hx.elim

end Go.Zq
