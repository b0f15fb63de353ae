/- A table of compact functions. -/
import Derived.Test.YtilfpkfifdhhdaaZqRow
set_option linter.unusedVariables false
set_option linter.unusedSimpArgs false
namespace Go.Zq
open Go

def assoc (n : Nat) : List (Nat × List Nat) → Option (List Nat)
  | [] => none
  | (m, v) :: r => if m = n then some v else assoc n r
/-- Hints told by lists. own: which parameters each callee owns. -/
def mkHint (lv kp pm : List (Nat × List Nat)) (own : List (Nat × List Nat)) : Hint :=
  ⟨fun n => (assoc n lv).getD [], fun f k => decide (k ∈ (assoc f own).getD []), fun n => (assoc n pm).getD [], fun n => assoc n kp⟩

def tabOf : List (Nat × Zq.Fn) → Tab
  | [], _ => none
  | (m, v) :: r, n => if m = n then some v else tabOf r n

def RowOk (P : Program) (f : Nat) (cf : Zq.Fn) : Prop := ∃ fn h np, P.funcs[f]? = some fn ∧ (fn.name == "runtime.NumGoroutine") = false ∧ compF P h quiet? fn np = some cf

theorem tabOk_nil (P : Program) : TabOk P (tabOf []) := fun f cf h => by simp [tabOf] at h

theorem tabOk_cons {P : Program} (hm : P.follows .mixedOrders = true) {f : Nat} {cf : Zq.Fn} {l : List (Nat × Zq.Fn)} (h : RowOk P f cf) (k : TabOk P (tabOf l)) : TabOk P (tabOf ((f, cf) :: l)) := fun g cg hg => by
  simp only [tabOf] at hg
  split at hg
  · rename_i e
    subst e
    obtain rfl := Option.some.inj hg
    obtain ⟨fn, hh, np, h1, h2, h3⟩ := h
    have h3' := h3
    unfold compF at h3'
    simp only [Option.bind_eq_some_iff] at h3'
    obtain ⟨c, hc, -⟩ := h3'
    exact ⟨⟨fn, c, h1, hc, h2⟩, fn, hh, quiet?, np, h1, drawSound_quiet hm, h3⟩
  · exact k g cg hg

end Go.Zq
