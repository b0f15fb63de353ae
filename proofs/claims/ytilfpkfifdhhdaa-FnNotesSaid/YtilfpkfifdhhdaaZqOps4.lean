/- Numbers, comparisons, fields, indexes. -/
import Derived.Test.YtilfpkfifdhhdaaZqOps3
import Derived.Laws.StructEq
set_option linter.unusedVariables false
set_option linter.unusedSimpArgs false
namespace Go.Zq
open Go

section
variable {P : Program} {w0 : World} {W : Nat → Nat → Prop} {S0 : Rds} {ρ0 : Rho} {nb N : Nat} {ρ : Rho} {S : Rds} {σ : St} {a : Act} {w : World}

theorem RS.lit {v : Value} (h : litOk v = true) : RS ρ w S (.one (.lit v)) v := .one (.ri (.lit h))
theorem RS.int {k : IntKind} {n : Int} : RS ρ w S (.one (.lit (.int k n))) (.int k n) := .lit rfl
theorem RS.bool {x : Bool} : RS ρ w S (.one (B x)) (.bool x) := .lit rfl

theorem binInt_run {op : BinOp} {k : IntKind} {x y : Int} {r : Value} (hr : binInt op k x y = some r) :
    (match op with
      | .add | .sub | .mul => Op.intArith op k x y
      | .quo | .rem => Op.intDiv op k x y
      | .and | .or | .xor | .andNot => Op.intBits op k x y
      | _ => Op.intCmp op x y).run P w = .ok r w ∧ litOk r = true ∧ op ≠ .shl ∧ op ≠ .shr := by
  cases op <;> simp only [binInt, Option.some.injEq] at hr <;> first
    | (subst hr; exact ⟨rfl, rfl, by simp, by simp⟩)
    | (split at hr
       · simp at hr
       · rename_i h0
         obtain rfl := Option.some.inj hr
         exact ⟨by simp [Op.intDiv, h0], rfl, by simp, by simp⟩)
    | simp at hr

theorem binT_run {op : BinOp} {t : TypeId} {x y r : Value} (hr : binT op x y = some r) : (Go.binOp op t x y).run P w = .ok r w ∧ litOk r = true := by
  unfold binT at hr
  split at hr
  · rename_i k x k' y
    split at hr
    · split at hr
      · simp at hr
      · rename_i h0
        obtain rfl := Option.some.inj hr
        exact ⟨by simp [Go.binOp, Op.shift, h0], rfl⟩
    · split at hr
      · simp at hr
      · rename_i h0
        obtain rfl := Option.some.inj hr
        exact ⟨by simp [Go.binOp, Op.shift, h0], rfl⟩
    · obtain ⟨hk, hr1⟩ := of_ite hr
      subst hk
      obtain ⟨h1, h2, h3, h4⟩ := binInt_run (P := P) (w := w) hr1
      refine ⟨?_, h2⟩
      cases op <;> first | exact absurd rfl h3 | exact absurd rfl h4 | simpa [Go.binOp] using h1
  · rename_i x y
    split at hr
    · obtain ⟨h, hr1⟩ := of_ite hr
      obtain rfl := Option.some.inj hr1
      exact ⟨by simp only [Go.binOp, Op.stringOp]; rw [if_neg (by omega)]; rfl, rfl⟩
    · obtain rfl := Option.some.inj hr
      exact ⟨rfl, rfl⟩
    · obtain rfl := Option.some.inj hr
      exact ⟨rfl, rfl⟩
    · simp at hr
  · simp at hr

theorem binT_kinds {op : BinOp} {x y r : Value} (hr : binT op x y = some r) : (∃ k n k' m, x = .int k n ∧ y = .int k' m) ∨ ∃ s t, x = .string s ∧ y = .string t := by
  unfold binT at hr
  split at hr
  · exact .inl ⟨_, _, _, _, rfl, rfl⟩
  · exact .inr ⟨_, _, rfl, rfl⟩
  · simp at hr

theorem eqGuard_int {op : BinOp} {t : TypeId} {x y : Operand} {k k' : IntKind} {m n : Int} : (eqGuard op t x y (.int k m) (.int k' n)).run P w = .ok () w := by
  cases op <;> rfl
theorem eqGuard_bool {op : BinOp} {t : TypeId} {x y : Operand} {m n : Bool} : (eqGuard op t x y (.bool m) (.bool n)).run P w = .ok () w := by
  cases op <;> rfl
theorem eqGuard_string {op : BinOp} {t : TypeId} {x y : Operand} {m n : ByteArray} : (eqGuard op t x y (.string m) (.string n)).run P w = .ok () w := by
  cases op <;> rfl

theorem does_bin (h : Sim w0 W S0 ρ0 nb N ρ S σ a w) {o : Oper} {op : BinOp} {t u : TypeId} {x y : Operand} (ho : o.op = .binOp op t x y u) {vx vy r : Value} (hx : a.eval x = vx) (hy : a.eval y = vy)
    (hr : binT op vx vy = some r) : Does P w0 W S0 ρ0 nb N σ a w o (.one (.lit r)) σ.hp := by
  obtain ⟨h1, h2⟩ := binT_run (P := P) (w := w) (t := t) hr
  refine does_same h ?_ (.lit h2)
  have hk := binT_kinds hr
  simp only [execOp, ho, Sem.run_bind, hx, hy]
  have hg : (eqGuard op t x y vx vy).run P w = .ok () w := by
    rcases hk with ⟨_, _, _, _, rfl, rfl⟩ | ⟨_, _, rfl, rfl⟩
    · exact eqGuard_int
    · exact eqGuard_string
  simp [hg, h1]

theorem does_bb (h : Sim w0 W S0 ρ0 nb N ρ S σ a w) {o : Oper} {neg : Bool} {t u : TypeId} {x y : Operand} (ho : o.op = .binOp (if neg then .neq else .eql) t x y u) (ht : P.underlying t = some .bool)
    {vx vy : Bool} (hx : a.eval x = .bool vx) (hy : a.eval y = .bool vy) : Does P w0 W S0 ρ0 nb N σ a w o (.one (B (if neg then !(vx == vy) else vx == vy))) σ.hp := by
  refine does_same h (u := .bool (if neg then !(vx == vy) else vx == vy)) ?_ .bool
  simp only [execOp, ho, Sem.run_bind, hx, hy]
  rw [eqGuard_bool]
  have he : (Op.equal t (.bool vx) (.bool vy)).run P w = .ok (vx == vy) w := run_equalIn_bool' w 9999 t vx vy ht
  cases neg <;> simp [Go.binOp, he]

theorem does_un (h : Sim w0 W S0 ρ0 nb N ρ S σ a w) {o : Oper} {op : UnOp} {t : TypeId} {x : Operand} (ho : o.op = .unOp op t x) {v r : Value} (hx : a.eval x = v)
    (hr : unT op v = some r) : Does P w0 W S0 ρ0 nb N σ a w o (.one (.lit r)) σ.hp := by
  have : (Op.unary op v).run P w = .ok r w ∧ litOk r = true := by
    unfold unT at hr
    split at hr
    · obtain rfl := Option.some.inj hr; exact ⟨rfl, rfl⟩
    · obtain rfl := Option.some.inj hr; exact ⟨rfl, rfl⟩
    · simp at hr
  refine does_same h ?_ (.lit this.2)
  simp [execOp, ho, hx, this.1]

theorem does_cv (h : Sim w0 W S0 ρ0 nb N ρ S σ a w) {o : Oper} {src dst : TypeId} {x : Operand} (ho : o.op = .convert src dst x) {k k0 k' : IntKind} (hs : P.underlying src = some (.int k0)) (hd : P.underlying dst = some (.int k))
    {n : Int} (hx : a.eval x = .int k' n) : Does P w0 W S0 ρ0 nb N σ a w o (.one (.lit (.int k (k.wrap n)))) σ.hp := by
  refine does_same h ?_ .int
  simp [execOp, ho, hx, Go.convert, run_underlying hs, run_underlying hd, Conv.intToInt]

theorem does_fa (h : Sim w0 W S0 ρ0 nb N ρ S σ a w) {o : Oper} {t : TypeId} {x : Operand} {j : Nat} (ho : o.op = .fieldAddr t x j) {f : Field} (hf : fieldT P t j = some f) {n : Nat} (hn : sizeT P f.type = some n) (hpos : 0 < n)
    {s r : SV} (hx : RS ρ w S s (a.eval x)) (hr : fieldOf f.offset s = some r) : Does P w0 W S0 ρ0 nb N σ a w o r σ.hp := by
  have key : ∃ b off, a.eval x = .pointer (some ⟨b, off, none⟩) ∧ RS ρ w S r (.pointer (some ⟨b, off + f.offset, none⟩)) := by
    generalize a.eval x = v at hx ⊢
    unfold fieldOf at hr
    split at hr
    · obtain rfl := Option.some.inj hr
      cases hx with
      | one h => cases h with
        | ri h => cases h
        | ptr hL => exact ⟨_, _, rfl, .one (by rw [Nat.add_assoc]; exact RT.ptr hL)⟩
    · obtain rfl := Option.some.inj hr
      cases hx with
      | one h => cases h with
        | ri h => cases h
        | ip hS hg hc =>
          rename_i cells b o p g
          refine ⟨b, o, rfl, .one (.ip (g := fun k => g (f.offset + k)) hS (fun k t ht => ?_) fun k t ht => hc _ t (by simpa [List.getElem?_drop] using ht))⟩
          rw [Nat.add_assoc]
          exact hg _ t (by simpa [List.getElem?_drop] using ht)
    · simp at hr
  obtain ⟨b, off, hv, hres⟩ := key
  refine does_same h ?_ hres
  unfold fieldT at hf
  split at hf
  · rename_i fs hu
    simp only [execOp, ho, hv, Instr.fieldAt, Sem.run_bind, run_underlying hu, Result.andThen_ok, hf]
    simp only [Instr.sureAddr, Sem.run_pure, Result.andThen_ok, fieldPlace, Sem.run_bind, r_sizeOf hn, if_neg (show ¬ n = 0 by omega)]
    rw [Addr.add_at rfl]
  · simp at hf

theorem part_run {t : TypeId} {n : Option Nat} (hn : aggT P t = some n) {cs : Row} {vs : Array Value} (hl : cs.length = vs.size) (hcs : ∀ (k : Nat) (t : T), cs[k]? = some t → RT ρ w S t (vs.getD k undef)) {off : Nat} {r : SV}
    (hr : SV.of n (cs.drop off) = some r) : ∃ u, (part t vs off).run P w = .ok u w ∧ RS ρ w S r u := by
  obtain ⟨c, hc, hct, hcf⟩ := aggT_spec hn
  have hd : ∀ (k : Nat) (t : T), (cs.drop off)[k]? = some t → RT ρ w S t (vs.getD (off + k) undef) := fun k t ht => hcs _ t (by simpa [List.getElem?_drop] using ht)
  have hso := SV.of_sound hr hd
  cases c with
  | true =>
    obtain ⟨k, hk, rfl⟩ := hct rfl
    obtain ⟨hle, hso⟩ := hso
    simp only [List.length_drop] at hle
    refine ⟨_, ?_, hso⟩
    simp only [part, Sem.run_bind, r_isAgg hc, Result.andThen_ok, if_true, r_sizeOf hk, Sem.run_pure]
    congr 2
    apply Array.ext
    · simp; omega
    · intro i h1 h2
      simp at h1 h2
      simp [Array.getD_eq_getD_getElem?, show off + i < vs.size by omega]
  | false =>
    obtain rfl := hcf rfl
    refine ⟨_, ?_, hso⟩
    simp only [part, Sem.run_bind, r_isAgg hc, Result.andThen_ok, Bool.false_eq_true, if_false]
    have hlt : off < vs.size := by
      cases hdd : cs.drop off with
      | nil => simp [hdd, SV.of] at hr
      | cons t r =>
        have := congrArg List.length hdd
        simp at this
        omega
    simp [hlt]

theorem does_fld (h : Sim w0 W S0 ρ0 nb N ρ S σ a w) {o : Oper} {t : TypeId} {x : Operand} {j : Nat} (ho : o.op = .field t x j) {f : Field} (hf : fieldT P t j = some f) {n : Option Nat} (hn : aggT P f.type = some n)
    {cs : Row} {r : SV} (hx : RS ρ w S (.agg cs) (a.eval x)) (hr : SV.of n (cs.drop f.offset) = some r) : Does P w0 W S0 ρ0 nb N σ a w o r σ.hp := by
  generalize hv : a.eval x = v at hx
  cases hx with
  | agg hl hcs =>
    rename_i vs
    obtain ⟨u, hu, hres⟩ := part_run hn hl hcs hr
    refine does_same h ?_ hres
    unfold fieldT at hf
    split at hf
    · rename_i fs hu'
      simp [execOp, ho, hv, Instr.field, run_underlying hu', hf, asAgg, hu]
    · simp at hf

theorem does_ext (h : Sim w0 W S0 ρ0 nb N ρ S σ a w) {o : Oper} {x : Operand} {j : Nat} (ho : o.op = .extract x j) {vs : List SV} {r : SV} (hx : RS ρ w S (.tup vs) (a.eval x)) (hr : vs[j]? = some r) :
    Does P w0 W S0 ρ0 nb N σ a w o r σ.hp := by
  generalize hv : a.eval x = v at hx
  cases hx with
  | tup hl hvs =>
    rename_i us
    have hlt : j < us.size := by rw [← hl]; exact (List.getElem?_eq_some_iff.1 hr).1
    refine does_same h (u := us[j]) ?_ (by simpa [Array.getD_eq_getD_getElem?, hlt] using hvs j r hr)
    simp [execOp, ho, hv, Instr.extract, hlt]

end
end Go.Zq
