import Derived.Test.YtdipcnijfkdnfaaGreatZqTabStack
import Derived.Test.YtdipcnijfkdnfaaGreatZmc
set_option linter.unusedVariables false
set_option linter.unusedSimpArgs false
namespace Go.Proofs.YtdipcnijfkdnfaaGreatStack
open Go Go.Zq
noncomputable def R : Rt := run (tabOf table) (extOf clones)
theorem R_fn {f : FuncId} {cf : Zq.Fn} (hf : tabOf table f = some cf) {args : List SV} {hp : List Blk} {r : SV × List Blk} (n : Nat) (h : cf.run R n args hp = some r) : R f args hp = some r := run_fn hf h
noncomputable def F14b0 : C := nthLoop F14.body 0
noncomputable def F88b0 : C := nthLoop F88.body 0
noncomputable def F93b0 : C := nthLoop F93.body 0
noncomputable def F93b1 : C := nthLoop F93.body 1
noncomputable def F96b0 : C := nthLoop F96.body 0
noncomputable def F97b0 : C := nthLoop F97.body 0
noncomputable def F99b0 : C := nthLoop F99.body 0
noncomputable def F100b0 : C := nthLoop F100.body 0
noncomputable def F149b0 : C := nthLoop F149.body 0
noncomputable def F149b1 : C := nthLoop F149.body 1
noncomputable def F150b0 : C := nthLoop F150.body 0
noncomputable def F155b0 : C := nthLoop F155.body 0
noncomputable def F157b0 : C := nthLoop F157.body 0
noncomputable def F164b0 : C := nthLoop F164.body 0
noncomputable def F185b0 : C := nthLoop F185.body 0
noncomputable def F201b0 : C := nthLoop F201.body 0
noncomputable def F202b0 : C := nthLoop F202.body 0
noncomputable def F206b0 : C := nthLoop F206.body 0
noncomputable def F209b0 : C := nthLoop F209.body 0
noncomputable def F218b0 : C := nthLoop F218.body 0
noncomputable def F227b0 : C := nthLoop F227.body 0
noncomputable def F228b0 : C := nthLoop F228.body 0
theorem tellsAt {lq : Lp} {x : C} {n : Nat} {g : St → Option Out} (hx : tagC x = n) (h : TellsP (lpAt lq n) g) : TellsP (lpAt lq (tagC x)) g := by rw [hx]; exact h
def Con (f : Nat) (q : List SV → List Blk → Option ((SV × List Blk) × Bool)) : Prop := ∀ args hp r, q args hp = some (r, true) → frzR R f args hp = some r
@[match_pattern] abbrev li (z : Int) : T := .lit (.int .i64 z)
abbrev QO (Q : Qt) : Prop := QOk (frzR R) Q
theorem tcl {f : FuncId} {cf : Zq.Fn} (hf : tabOf table f = some cf) {Q : Qt} (hQ : QO Q) {lq : Lp} {args : List SV} {hp : List Blk} {nb : Nat} (hL : Loops (fun live x => TellsP (lpAt lq (tagC x)) (evc R nb 2097152 (.loop live x))) cf.body) (kd : List (Nat × List Kd)) (cl : List Nat) (mg : Bool) {γ : Type} (T : Pt γ) (nn : γ → SV × List Blk) (hk : hid T.okv = true) (hb : hpBoxes hp = nb := by kernel_rfl) (h : f < 100000 := by decide) (e : fnP Q kd cl mg lq 2097152 cf args hp = some (T.map nn) := by kernel_rfl) : frzR R f args hp = some (nn (hid T.val)) := by subst hb; exact (frz_lo h).trans (R_fn hf 2097152 (fnP_c hQ hL e rfl hk))
theorem tc {f : FuncId} {cf : Zq.Fn} (hf : tabOf table f = some cf) {Q : Qt} (hQ : QO Q) {args : List SV} {hp : List Blk} (kd : List (Nat × List Kd)) (cl : List Nat) (mg : Bool) {γ : Type} (T : Pt γ) (nn : γ → SV × List Blk) (hk : hid T.okv = true) (h : f < 100000 := by decide) (hl : loopsOf cf.body = [] := by kernel_rfl) (e : fnP Q kd cl mg [] 2097152 cf args hp = some (T.map nn) := by kernel_rfl) : frzR R f args hp = some (nn (hid T.val)) := tcl hf hQ (loops_of (l := []) hl trivial) kd cl mg T nn hk rfl h e
theorem tzl {f : FuncId} {cf : Zq.Fn} (hf : tabOf table f = some cf) {Q : Qt} (hQ : QO Q) {lq : Lp} {args : List SV} (hL : Loops (fun live x => TellsP (lpAt lq (tagC x)) (evc R (hpBoxes []) 2097152 (.loop live x))) cf.body) (kd : List (Nat × List Kd)) (cl : List Nat) (mg : Bool) {γ : Type} (T : Pt γ) (nn : γ → SV × List Blk) (hk : hid T.okv = true) (e : fnZ Q kd cl mg lq 2097152 cf args = some (T.map nn) := by kernel_rfl) : frzR R (f + 100000) args [] = some (nn (hid T.val)) := fnZ_c (f := f) hQ hL e rfl hk (fun r h => R_fn hf 2097152 h)
theorem tz {f : FuncId} {cf : Zq.Fn} (hf : tabOf table f = some cf) {Q : Qt} (hQ : QO Q) {args : List SV} (kd : List (Nat × List Kd)) (cl : List Nat) (mg : Bool) {γ : Type} (T : Pt γ) (nn : γ → SV × List Blk) (hk : hid T.okv = true) (hl : loopsOf cf.body = [] := by kernel_rfl) (e : fnZ Q kd cl mg [] 2097152 cf args = some (T.map nn) := by kernel_rfl) : frzR R (f + 100000) args [] = some (nn (hid T.val)) := tzl hf hQ (loops_of (l := []) hl trivial) kd cl mg T nn hk e
theorem dsf {a : SV × List Blk} {k : Bool} {r : SV × List Blk} {G : Option (SV × List Blk)} (e : some (a, k) = some (r, true)) (h : k = true → G = some a) : G = some r := by
 obtain ⟨h1, h2⟩ := Prod.mk.inj (Option.some.inj e)
 rw [← h1]
 exact h h2
end Go.Proofs.YtdipcnijfkdnfaaGreatStack
