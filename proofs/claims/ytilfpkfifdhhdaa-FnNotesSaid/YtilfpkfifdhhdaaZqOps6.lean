/- Parts of slices and strings; new slices. -/
import Derived.Test.YtilfpkfifdhhdaaZqOps5
set_option linter.unusedVariables false
set_option linter.unusedSimpArgs false
namespace Go.Zq
open Go

section
variable {P : Program} {w0 : World} {W : Nat → Nat → Prop} {S0 : Rds} {ρ0 : Rho} {nb N : Nat} {ρ : Rho} {S : Rds} {σ : St} {a : Act} {w : World}

/-- A bound that is told, as the model reads it. -/
def BoundIs (n : Nat) (v : Option Value) (l : Int) : Prop := match v with
  | none => l = n
  | some v => ∃ k, v = .int k l

theorem bound_sound (h : Sim w0 W S0 ρ0 nb N ρ S σ a w) {x : Option Operand} {y : Option Opd} (ho : optI N x = some y) {n : Nat} {l : Int} (hl : bound σ.ev n y = some l) : BoundIs n (x.map a.eval) l := by
  cases x with
  | none =>
    obtain rfl := by simpa [optI] using ho
    simpa [bound, BoundIs] using hl.symm
  | some x =>
    simp only [optI, Option.map_eq_some_iff] at ho
    obtain ⟨z, hz, rfl⟩ := ho
    simp only [bound, Option.bind_eq_some_iff] at hl
    obtain ⟨v, hv, i, hi, hl⟩ := hl
    obtain rfl := Option.some.inj hl
    have := asInt_sound (evI_sound h hz hv) hi
    exact ⟨i.1, this⟩

theorem bounds_run {b : Bool} {len cap : Nat} {lo hi : Option Value} {l h : Int} (hl : BoundIs 0 lo l) (hh : BoundIs len hi h) (h0 : 0 ≤ l) (h1 : l ≤ h) (h2 : h ≤ len) (h3 : len ≤ cap) :
    (Instr.sliceBounds b len cap lo hi none).run P w = .ok (l.toNat, h.toNat, cap) w := by
  have sb : ∀ (k : IntKind) (i : Int) (y : Nat) (code : BoundsCode), 0 ≤ i → i ≤ y → (Instr.sliceBound (.int k i) y code).run P w = .ok i.toNat w := fun k i y code h h' => by
    simp only [Instr.sliceBound, asIntOf, Sem.run_bind, Sem.run_pure, Result.andThen_ok]
    rw [if_pos ⟨h, h'⟩]; rfl
  unfold Instr.sliceBounds
  cases hi with
  | none =>
    simp only [BoundIs] at hh
    cases lo with
    | none => simp only [BoundIs] at hl; subst hl hh; simp
    | some v =>
      obtain ⟨k, rfl⟩ := hl
      simp only [Sem.run_bind, Sem.run_pure, Result.andThen_ok, sb k l len _ h0 (by omega)]
      subst hh; simp
  | some u =>
    obtain ⟨k', rfl⟩ := hh
    cases lo with
    | none =>
      simp only [BoundIs] at hl
      simp only [Sem.run_bind, Sem.run_pure, Result.andThen_ok, sb k' h cap _ (by omega) (by omega)]
      subst hl; simp
    | some v =>
      obtain ⟨k, rfl⟩ := hl
      simp only [Sem.run_bind, Sem.run_pure, Result.andThen_ok, sb k' h cap _ (by omega) (by omega), sb k l h.toNat _ h0 (by omega)]

theorem szOf_loc {hp : List Blk} (hh : Hp ρ w S hp) {id off len sz : Nat} {L : Loc} (hL : ρ id = some L) (hz : szOf hp (.sl id off len) = some sz) : L.sz = sz ∧ L.whole = true ∧ live hp id := by
  simp only [szOf] at hz
  cases hb : hp[id]? with
  | none => simp [hb] at hz
  | some y =>
    have hbr := hh.br id y hb
    cases y with
    | lst n' rows' =>
      rcases hbr with ⟨hnone, -⟩ | ⟨M, hM, hwh, hM2, -, -, -⟩
      · rw [hL] at hnone; simp at hnone
      · obtain rfl : L = M := by rw [hL] at hM; simpa using hM
        simp [hb] at hz
        exact ⟨by omega, hwh, ⟨_, hb, by simp⟩⟩
    | _ => simp [hb] at hz

theorem does_slc (h : Sim w0 W S0 ρ0 nb N ρ S σ a w) {o : Oper} {t e : TypeId} {x : Operand} {lo hi : Option Operand} (ho : o.op = .slice t x lo hi none) (ht : P.underlying t = some (.slice e)) {sz : Nat} (hsz : sizeT P e = some sz)
    {tx : T} (hx : RT ρ w S tx (a.eval x)) {rows : List Row} (hr : rowsOf σ.hp tx = some rows) {l hh : Int} (hl : BoundIs 0 (lo.map a.eval) l) (hhi : BoundIs rows.length (hi.map a.eval) hh)
    {r : T} (hc : cut σ.hp sz tx rows l hh = some r) : Does P w0 W S0 ρ0 nb N σ a w o (.one r) σ.hp := by
  unfold cut at hc
  obtain ⟨⟨h0, h1, h2⟩, hc1⟩ := of_ite hc
  obtain ⟨ad, cap, hv, hcap⟩ := rowsOf_len h.heap hx hr
  have hrun : (execOp a.eval o).run P w = .ok (.value (.slice (if cap = l.toNat then ad else ad.map (·.add (l.toNat * sz))) (hh.toNat - l.toNat) (cap - l.toNat))) w := by
    simp only [execOp, ho, Instr.sliceAt, Sem.run_bind, run_underlying ht, Result.andThen_ok, Option.map_none, Instr.slice, hv, bounds_run hl hhi h0 h1 h2 hcap, r_sizeOf hsz, Sem.run_pure]
  refine does_same h hrun (.one ?_)
  rw [hv] at hx
  cases tx with
  | sl id off len =>
    simp only at hc1
    obtain ⟨hz, hc2⟩ := of_ite hc1
    obtain rfl := Option.some.inj hc2
    generalize hrl : rows.length = n at hx
    cases hx with
    | ri h => cases h
    | nil =>
      have : l.toNat = 0 := by omega
      have h3 : hh.toNat - l.toNat = 0 := by omega
      rw [this]
      simp only [Nat.sub_zero, Option.map_none, ite_self]
      rw [show hh.toNat = 0 by omega]
      exact .nil
    | sl hL hc' hs ha =>
      rename_i ad L e' n'
      obtain ⟨hLs, -, -⟩ := szOf_loc h.heap hL hz
      have key : ∃ ad' : Addr, (if cap = l.toNat then some ad else Option.map (·.add (l.toNat * sz)) (some ad)) = some ad' ∧ (cap - l.toNat = 0 ∨ ad' = ⟨L.blk, L.base + (off + l.toNat) * L.sz, none⟩ ∧ L.base + (off + l.toNat + (cap - l.toNat)) * L.sz ≤ n') := by
        by_cases e1 : cap = l.toNat
        · exact ⟨ad, by rw [if_pos e1], .inl (by omega)⟩
        · rcases ha with ha | ⟨rfl, hfit⟩
          · omega
          · refine ⟨_, by rw [if_neg e1, Option.map_some], .inr ⟨?_, ?_⟩⟩
            · rw [Addr.add_at rfl, hLs, Nat.add_mul, Nat.add_assoc]
            · rw [show off + l.toNat + (cap - l.toNat) = off + cap by omega]; exact hfit
      obtain ⟨ad', had, hfit⟩ := key
      rw [had]
      exact .sl hL (by omega) hs hfit
  | imm p n rows' =>
    simp only at hc1
    obtain ⟨rfl, hc2⟩ := of_ite hc1
    obtain rfl := Option.some.inj hc2
    obtain rfl : rows' = rows := by simpa [rowsOf] using hr
    refine .ri ?_
    by_cases e0 : hh.toNat - l.toNat = 0
    · rw [e0]
      simp only [List.take_zero]
      exact .nil
    · generalize hrl : rows'.length = m at hx
      cases hx with
      | ri h =>
        cases h with
        | nil => simp at h2; omega
        | imm hS hcap' hs hin hg h =>
          rename_i b off g
          have hlen : ((rows'.drop l.toNat).take (hh.toNat - l.toNat)).length = hh.toNat - l.toNat := by simp; omega
          rw [if_neg (by omega), Option.map_some, Addr.add_at rfl]
          have hsub : ∀ (j k : Nat) (t : T), ((((rows'.drop l.toNat).take (hh.toNat - l.toNat))[j]?).bind (·[k]?)) = some t → (rows'[l.toNat + j]?).bind (·[k]?) = some t := fun j k t ht => by
            obtain ⟨r, hr, hk⟩ := bind_get ht
            have hj : j < hh.toNat - l.toNat := by
              have := (List.getElem?_eq_some_iff.1 hr).1
              omega
            rw [List.getElem?_take_of_lt hj, List.getElem?_drop] at hr
            simp [hr, hk]
          have := RI.imm (w := w) (S := S) (p := p) (rows := (rows'.drop l.toNat).take (hh.toNat - l.toNat)) (b := b) (off := off + l.toNat * n) (cap := cap - l.toNat) (sz := n) (g := fun j k => g (l.toNat + j) k) hS (by omega)
            (fun r hr => hs r (List.mem_of_mem_drop (List.mem_of_mem_take hr))) (fun r hr => hin r (List.mem_of_mem_drop (List.mem_of_mem_take hr)))
            (fun j k t ht => by rw [← hg _ k t (hsub j k t ht)]; congr 2; rw [Nat.add_mul]; omega) (fun j k t ht => h _ k t (hsub j k t ht))
          rw [hlen] at this
          exact this
  | nls n =>
    obtain rfl := Option.some.inj hc1
    obtain rfl : [] = rows := by simpa [rowsOf] using hr
    simp only [List.length_nil, Int.natCast_zero] at h2
    have e1 : l.toNat = 0 := by omega
    have e2 : hh.toNat = 0 := by omega
    cases hx with
    | ri h =>
      cases h with
      | nls => rw [e1, e2]; simp only [Nat.sub_zero, Option.map_none, ite_self]; exact .ri .nls
  | _ => simp at hc1

theorem does_sls (h : Sim w0 W S0 ρ0 nb N ρ S σ a w) {o : Oper} {t : TypeId} {x : Operand} {lo hi : Option Operand} (ho : o.op = .slice t x lo hi none) (ht : P.underlying t = some .string) {s : ByteArray} (hx : a.eval x = .string s)
    {l hh : Int} (hl : BoundIs 0 (lo.map a.eval) l) (hhi : BoundIs s.size (hi.map a.eval) hh) (h0 : 0 ≤ l) (h1 : l ≤ hh) (h2 : hh ≤ s.size) :
    Does P w0 W S0 ρ0 nb N σ a w o (.one (.lit (.string (s.extract l.toNat hh.toNat)))) σ.hp := by
  refine does_same h ?_ (.lit rfl)
  simp only [execOp, ho, Instr.sliceAt, Sem.run_bind, run_underlying ht, Result.andThen_ok, Option.map_none, Instr.slice, hx, Option.isSome_none, Bool.false_eq_true, if_false, Sem.run_pure,
    bounds_run (b := false) hl hhi h0 h1 h2 (Nat.le_refl _)]

theorem does_mkf (h : Sim w0 W S0 ρ0 nb N ρ S σ a w) {o : Oper} {f : FuncId} {first caps : Array Operand} (ho : o.op = .makeFunc (.func f) first caps) (h1 : first.size = 0) {ts : List T}
    (hn : ts.length = caps.size) (hts : ∀ (k : Nat) (t : T), ts[k]? = some t → (∃ id row off, t = .ptr id row off) ∧ ∃ x, caps[k]? = some x ∧ RT ρ w S t (a.eval x)) : Does P w0 W S0 ρ0 nb N σ a w o (.one (.clo f ts)) σ.hp := by
  refine does_same h (u := .func (.func f) #[] (caps.map a.eval)) ?_ (.one (.clo (by simpa using hn) fun k t ht => ?_))
  · have : first = #[] := Array.eq_empty_of_size_eq_zero h1
    subst this
    simp [execOp, ho, Instr.makeFunc]
  · obtain ⟨⟨id, row, off, rfl⟩, x, hx, hr⟩ := hts k t ht
    generalize hv : a.eval x = v at hr
    cases hr with
    | ri h => cases h
    | ptr hL => exact ⟨id, row, off, _, rfl, hL, by simp [Array.getD_eq_getD_getElem?, hx, hv]⟩

theorem does_mm (h : Sim w0 W S0 ρ0 nb N ρ S σ a w) {o : Oper} {c : Call} {isMax : Bool} {x y : Operand} (ho : o.op = .call c) (hc : c.callee = .builtin (if isMax then .max else .min)) (hargs : c.args.toList = [x, y])
    {k : IntKind} {m n : Int} (hx : a.eval x = .int k m) (hy : a.eval y = .int k n) : Does P w0 W S0 ρ0 nb N σ a w o (.one (.lit (.int k (if isMax then (if n > m then n else m) else (if n < m then n else m))))) σ.hp := by
  have hargs' : c.args = #[x, y] := Array.toList_inj.1 hargs
  refine does_same h ?_ .int
  cases isMax
  · simp [execOp, ho, resolve, hc, hargs', invoke, builtin, Builtin.min_, Builtin.min2, hx, hy]
  · simp [execOp, ho, resolve, hc, hargs', invoke, builtin, Builtin.max_, Builtin.max2, hx, hy]

end
end Go.Zq
