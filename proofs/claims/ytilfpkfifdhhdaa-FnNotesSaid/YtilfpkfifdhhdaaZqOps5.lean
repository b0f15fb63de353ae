/- Slices: what they read; indexes, lengths, parts of them. -/
import Derived.Test.YtilfpkfifdhhdaaZqOps4
set_option linter.unusedVariables false
set_option linter.unusedSimpArgs false
namespace Go.Zq
open Go

section
variable {P : Program} {w0 : World} {W : Nat → Nat → Prop} {S0 : Rds} {ρ0 : Rho} {nb N : Nat} {ρ : Rho} {S : Rds} {σ : St} {a : Act} {w : World}

/-- Where a slice reads. -/
def Reads (ρ : Rho) (w : World) (S : Rds) (hp : List Blk) (t : T) (sz : Nat) (rows : List Row) (v : Value) : Prop :=
  ∃ ad cap, v = .slice ad rows.length cap ∧ rows.length ≤ cap ∧ (rows = [] ∨ ∃ b o, ad = some ⟨b, o, none⟩ ∧ (∀ r ∈ rows, r.length = sz) ∧ (∀ r ∈ rows, r.all inList = true) ∧
    (∀ (j k : Nat) (t : T), (rows[j]?).bind (·[k]?) = some t → ∃ u, w.cell? ⟨b, o + j * sz + k, none⟩ = some u ∧ RI w S t u) ∧
    (S false b ∨ ∃ id off len L, t = .sl id off len ∧ ρ id = some L ∧ live hp id ∧ b = L.blk))

theorem bind_get {rows : List Row} {j k : Nat} {t : T} (h : (rows[j]?).bind (·[k]?) = some t) : ∃ r, rows[j]? = some r ∧ r[k]? = some t := by
  cases hr : rows[j]? with
  | none => simp [hr] at h
  | some r => exact ⟨r, rfl, by simpa [hr] using h⟩

theorem rowsOf_sound {hp : List Blk} (hh : Hp ρ w S hp) {t : T} {v : Value} (h : RT ρ w S t v) {rows : List Row} (hr : rowsOf hp t = some rows) {sz : Nat} (hz : szOf hp t = some sz) :
    Reads ρ w S hp t sz rows v := by
  cases h with
  | ri h =>
    cases h with
    | lit => simp [rowsOf] at hr
    | nls =>
      obtain rfl := by simpa [rowsOf] using hr
      exact ⟨none, 0, rfl, Nat.le_refl _, .inl rfl⟩
    | nil =>
      obtain rfl := by simpa [rowsOf] using hr
      exact ⟨_, _, rfl, Nat.zero_le _, .inl rfl⟩
    | imm hS hcap hsz hin hg h =>
      rename_i p rows' b off cap sz' g
      obtain rfl := by simpa [rowsOf] using hr
      obtain rfl := by simpa [szOf] using hz
      refine ⟨_, _, rfl, hcap, .inr ⟨b, off, rfl, hsz, hin, fun j k t ht => ⟨_, hg j k t ht, h j k t ht⟩, .inl ?_⟩⟩
      cases p
      · exact hS
      · exact hh.st _ hS
  | ptr => simp [rowsOf] at hr
  | ip => simp [rowsOf] at hr
  | clo => simp [rowsOf] at hr
  | nil =>
    rename_i id off
    simp only [rowsOf] at hr
    cases hb : hp[id]? with
    | none => simp [hb] at hr
    | some x =>
      cases x with
      | lst n rows' =>
        simp only [hb] at hr
        obtain ⟨-, hr1⟩ := of_ite hr
        obtain rfl := Option.some.inj hr1
        exact ⟨none, 0, by simp, by simp, .inl (by simp)⟩
      | _ => simp [hb] at hr
  | sl hL hc hs ha =>
    rename_i id off len cap ad L e n
    simp only [rowsOf] at hr
    cases hb : hp[id]? with
    | none => simp [hb] at hr
    | some x =>
      have hbr := hh.br id x hb
      cases x with
      | lst n' rows' =>
        simp only [hb] at hr
        obtain ⟨hle, hr1⟩ := of_ite hr
        obtain rfl := Option.some.inj hr1
        have hn' : n' = sz := by simpa [szOf, hb] using hz
        have hlen : ((rows'.drop off).take len).length = len := by simp; omega
        refine ⟨some ad, cap, by rw [hlen], by omega, ?_⟩
        rcases hbr with ⟨hnone, rfl⟩ | ⟨M, hM, hwh, hsz, hpos, hrr, hall⟩
        · left
          simp
        obtain rfl : L = M := by rw [hL] at hM; simpa using hM
        by_cases h0 : len = 0
        · left
          subst h0
          simp
        · right
          rcases ha with ha | ⟨rfl, hfit⟩
          · omega
          refine ⟨L.blk, L.base + off * L.sz, rfl, fun r hr => ?_, fun r hr => ?_, fun j k t ht => ?_, .inr ⟨id, off, len, L, rfl, hL, ⟨_, hb, by simp⟩, rfl⟩⟩
          · rw [hrr.len r (List.mem_of_mem_drop (List.mem_of_mem_take hr)), hsz, hn']
          · exact hall r (List.mem_of_mem_drop (List.mem_of_mem_take hr))
          · obtain ⟨r, hr, hk⟩ := bind_get ht
            have hj : j < len := by
              have := (List.getElem?_eq_some_iff.1 hr).1
              omega
            rw [List.getElem?_take_of_lt hj, List.getElem?_drop] at hr
            obtain ⟨u, hu, hru⟩ := hrr.cell (off + j) k t (by simp [hr, hk])
            refine ⟨u, ?_, hru.inList (List.all_eq_true.1 (hall r (List.mem_of_getElem? hr)) t (List.mem_of_getElem? hk))⟩
            rw [← hn', ← hsz]
            rw [show L.base + off * L.sz + j * L.sz + k = L.base + (off + j) * L.sz + k by rw [Nat.add_mul]; omega]
            exact hu
      | _ => simp [hb] at hr

/-- A slice's length. -/
theorem rowsOf_len {hp : List Blk} (hh : Hp ρ w S hp) {t : T} {v : Value} (h : RT ρ w S t v) {rows : List Row} (hr : rowsOf hp t = some rows) : ∃ ad cap, v = .slice ad rows.length cap ∧ rows.length ≤ cap := by
  have : ∃ sz, szOf hp t = some sz := by
    cases t with
    | lit v => simp [rowsOf] at hr
    | ptr => simp [rowsOf] at hr
    | ip => simp [rowsOf] at hr
    | clo => simp [rowsOf] at hr
    | nls n => exact ⟨n, rfl⟩
    | imm p n r => exact ⟨n, rfl⟩
    | sl id off len =>
      simp only [rowsOf] at hr
      cases hb : hp[id]? with
      | none => simp [hb] at hr
      | some x => cases x with
        | lst n r => exact ⟨n, by simp [szOf, hb]⟩
        | _ => simp [hb] at hr
  obtain ⟨sz, hz⟩ := this
  obtain ⟨ad, cap, hv, hc, -⟩ := rowsOf_sound hh h hr hz
  exact ⟨ad, cap, hv, hc⟩

theorem does_len (h : Sim w0 W S0 ρ0 nb N ρ S σ a w) {o : Oper} {c : Call} {x : Operand} {t e : TypeId} (ho : o.op = .call c) (hc : c.callee = .builtin .len) (hargs : c.args.toList = [x]) (htys : c.argTypes.toList = [t])
    (ht : P.underlying t = some (.slice e)) {tx : T} (hx : RT ρ w S tx (a.eval x)) {rows : List Row} (hn : rowsOf σ.hp tx = some rows) : Does P w0 W S0 ρ0 nb N σ a w o (.one (I rows.length)) σ.hp := by
  have hargs' : c.args = #[x] := Array.toList_inj.1 hargs
  have htys' : c.argTypes = #[t] := Array.toList_inj.1 htys
  obtain ⟨ad, cap, hv, -⟩ := rowsOf_len h.heap hx hn
  refine does_same h (u := .int .i64 rows.length) ?_ .int
  simp only [execOp, ho, resolve, hc, hargs', htys', Sem.run_bind, Sem.run_pure, Result.andThen_ok, invoke, builtin]
  simp [Builtin.len_, run_underlying ht, hv, goInt]

theorem does_lens (h : Sim w0 W S0 ρ0 nb N ρ S σ a w) {o : Oper} {c : Call} {x : Operand} {t : TypeId} (ho : o.op = .call c) (hc : c.callee = .builtin .len) (hargs : c.args.toList = [x]) (htys : c.argTypes.toList = [t])
    (ht : P.underlying t = some .string) {s : ByteArray} (hx : a.eval x = .string s) : Does P w0 W S0 ρ0 nb N σ a w o (.one (I s.size)) σ.hp := by
  have hargs' : c.args = #[x] := Array.toList_inj.1 hargs
  have htys' : c.argTypes = #[t] := Array.toList_inj.1 htys
  refine does_same h (u := .int .i64 s.size) ?_ .int
  simp only [execOp, ho, resolve, hc, hargs', htys', Sem.run_bind, Sem.run_pure, Result.andThen_ok, invoke, builtin]
  simp [Builtin.len_, run_underlying ht, hx, goInt]

theorem does_ia (h : Sim w0 W S0 ρ0 nb N ρ S σ a w) {o : Oper} {t e : TypeId} {x j : Operand} (ho : o.op = .indexAddr t x j) (ht : P.underlying t = some (.slice e)) {sz : Nat} (hsz : sizeT P e = some sz)
    {tx : T} (hx : RT ρ w S tx (a.eval x)) {k : IntKind} {i : Int} (hj : a.eval j = .int k i) {r : SV} (hr : idx σ.hp sz tx i = some r) : Does P w0 W S0 ρ0 nb N σ a w o r σ.hp := by
  have key : ∃ b off n cap, a.eval x = .slice (some ⟨b, off, none⟩) n cap ∧ 0 ≤ i ∧ i < n ∧ RS ρ w S r (.pointer (some ⟨b, off + i.toNat * sz, none⟩)) := by
    generalize a.eval x = v at hx ⊢
    unfold idx at hr
    split at hr
    · rename_i id off len
      obtain ⟨⟨h0, hlt⟩, hr1⟩ := of_ite hr
      obtain ⟨hz, hr2⟩ := of_ite hr1
      obtain rfl := Option.some.inj hr2
      cases hx with
      | ri h => cases h
      | nil => simp at hlt; omega
      | sl hL hc hs ha =>
        rename_i cap ad L e' n
        rcases ha with ha | ⟨rfl, hfit⟩
        · omega
        have hLsz : L.sz = sz := by
          simp only [szOf] at hz
          cases hb : σ.hp[id]? with
          | none => simp [hb] at hz
          | some y =>
            have hbr := h.heap.br id y hb
            cases y with
            | lst n' rows' =>
              rcases hbr with ⟨hnone, -⟩ | ⟨M, hM, -, hM2, -, -, -⟩
              · rw [hL] at hnone; simp at hnone
              · obtain rfl : L = M := by rw [hL] at hM; simpa using hM
                simp [hb] at hz
                omega
            | _ => simp [hb] at hz
        refine ⟨_, _, len, cap, rfl, h0, hlt, .one ?_⟩
        have := RT.ptr (w := w) (S := S) (row := off + i.toNat) (off := 0) hL
        rw [← hLsz, show L.base + off * L.sz + i.toNat * L.sz = L.base + (off + i.toNat) * L.sz + 0 by rw [Nat.add_mul]; omega]
        exact this
    · rename_i p n rows
      obtain ⟨⟨h0, rfl⟩, hr1⟩ := of_ite hr
      cases hrow : rows[i.toNat]? with
      | none => simp [hrow] at hr1
      | some row =>
        simp only [hrow, Option.map_some] at hr1
        obtain rfl := Option.some.inj hr1
        have hlt : i.toNat < rows.length := (List.getElem?_eq_some_iff.1 hrow).1
        cases hx with
        | ri h =>
          cases h with
          | nil => simp at hlt
          | imm hS hcap hs hin hg h =>
            rename_i b off cap g
            refine ⟨b, off, rows.length, cap, rfl, h0, by omega, .one (.ip (g := fun k => g i.toNat k) hS (fun k t ht => ?_) fun k t ht => h i.toNat k t (by simp [hrow, ht]))⟩
            exact hg i.toNat k t (by simp [hrow, ht])
    · simp at hr
  obtain ⟨b, off, n, cap, hv, h0, hlt, hres⟩ := key
  refine does_same h ?_ hres
  simp only [execOp, ho, hv, hj, Instr.indexAt, asIntOf, Sem.run_bind, Sem.run_pure, Result.andThen_ok, run_underlying ht]
  rw [if_pos ⟨h0, hlt⟩]
  simp only [Sem.run_bind, r_sizeOf hsz, Result.andThen_ok, Sem.run_pure]
  rw [Addr.add_at rfl]

theorem does_ix (h : Sim w0 W S0 ρ0 nb N ρ S σ a w) {o : Oper} {t : TypeId} {x j : Operand} (ho : o.op = .index t x j) (ht : P.underlying t = some .string) {s : ByteArray} (hx : a.eval x = .string s)
    {k : IntKind} {i : Int} (hj : a.eval j = .int k i) (h0 : 0 ≤ i) {c : UInt8} (hc : s[i.toNat]? = some c) : Does P w0 W S0 ρ0 nb N σ a w o (.one (.lit (.int .u8 c.toNat))) σ.hp := by
  refine does_same h ?_ .int
  simp [execOp, ho, hx, hj, Instr.index, asIntOf, run_underlying ht, h0, hc]

end
end Go.Zq
