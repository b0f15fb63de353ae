/- copy, make, slices told by their elements. -/
import Derived.Test.YtilfpkfifdhhdaaZqOps8
import Derived.Laws.MakeOwn
import Derived.Laws.Tables
set_option linter.unusedVariables false
set_option linter.unusedSimpArgs false
namespace Go.Zq
open Go

section
variable {P : Program} {w0 : World} {W : Nat → Nat → Prop} {S0 : Rds} {ρ0 : Rho} {nb N : Nat} {ρ : Rho} {S : Rds} {σ : St} {a : Act} {w : World}

theorem splice_get {α : Type} {cs new : List α} {off : Nat} (h : off + new.length ≤ cs.length) (k : Nat) :
    (cs.take off ++ (new ++ cs.drop (off + new.length)))[k]? = if off ≤ k ∧ k < off + new.length then new[k - off]? else cs[k]? := by
  have hl : (cs.take off).length = off := by simp; omega
  by_cases h1 : k < off
  · rw [List.getElem?_append_left (by omega), if_neg (by omega), List.getElem?_take_of_lt h1]
  · rw [List.getElem?_append_right (by omega), hl]
    by_cases h2 : k < off + new.length
    · rw [List.getElem?_append_left (by omega), if_pos (by omega)]
    · rw [List.getElem?_append_right (by omega), if_neg (by omega), List.getElem?_drop]
      congr 1
      omega

/-- Rows written over. -/
theorem RR.splice {L : Loc} {rows : List Row} (hr : RR ρ w S L rows) {off : Nat} {new : List Row} (hle : off + new.length ≤ rows.length) {w' : World} {vs : List Value}
    (hw : Wrote w w' L.blk (L.base + off * L.sz) vs) (hnew : Flat (fun t v => RT ρ w S t v) L.sz new vs)
    (hmono : ∀ t v, RT ρ w S t v → RT ρ w' S t v) : RR ρ w' S L (rows.take off ++ (new ++ rows.drop (off + new.length))) := by
  obtain ⟨c, e, hc, hs⟩ := hr.obj
  obtain ⟨c', hc', hs', -⟩ := hw.here c e (0, 0) hc
  obtain ⟨hn1, hn2, hn3⟩ := hnew
  have hlen : (rows.take off ++ (new ++ rows.drop (off + new.length))).length = rows.length := by simp; omega
  refine ⟨⟨c', e, hc', by rw [hs', hlen]; exact hs⟩, fun x hx => ?_, fun j k t ht => ?_⟩
  · simp only [List.mem_append] at hx
    rcases hx with hx | hx | hx
    · exact hr.len x (List.mem_of_mem_take hx)
    · exact hn2 x hx
    · exact hr.len x (List.mem_of_mem_drop hx)
  · rw [splice_get hle] at ht
    split at ht
    · rename_i hj
      obtain ⟨u, hu, hru⟩ := hn3 _ k t ht
      refine ⟨u, ?_, hmono _ _ hru⟩
      have hb : L.base + off * L.sz + vs.length ≤ c.size := by
        have := Nat.mul_le_mul_right L.sz hle
        rw [Nat.add_mul] at this
        omega
      have := hw.new hc hb hu
      rw [← this]
      congr 2
      rw [Nat.sub_mul]
      have := Nat.mul_le_mul_right L.sz hj.1
      omega
    · rename_i hj
      obtain ⟨u, hu, hru⟩ := hr.cell j k t ht
      refine ⟨u, hw.cell hu (.inr ?_), hmono _ _ hru⟩
      have hk : k < L.sz := by
        obtain ⟨x, hx, hk⟩ := bind_get ht
        have := hr.len x (List.mem_of_getElem? hx)
        have := (List.getElem?_eq_some_iff.1 hk).1
        omega
      rw [hn1]
      by_cases h1 : j < off
      · left
        have := Nat.mul_le_mul_right L.sz (show j + 1 ≤ off by omega)
        rw [Nat.add_mul] at this
        omega
      · right
        have := Nat.mul_le_mul_right L.sz (show off + new.length ≤ j by omega)
        rw [Nat.add_mul] at this
        omega

theorem Flat.take {R : T → Value → Prop} {sz : Nat} {rows : List Row} {vs : List Value} (h : Flat R sz rows vs) {n : Nat} (hn : n ≤ rows.length) : Flat R sz (rows.take n) (vs.take (n * sz)) := by
  obtain ⟨h1, h2, h3⟩ := h
  have hm := Nat.mul_le_mul_right sz hn
  refine ⟨by simp [h1, Nat.min_eq_left hn], fun r hr => h2 r (List.mem_of_mem_take hr), fun j k t ht => ?_⟩
  obtain ⟨r, hr, hk⟩ := bind_get ht
  have hj : j < n := by have := (List.getElem?_eq_some_iff.1 hr).1; simp at this; omega
  rw [List.getElem?_take_of_lt hj] at hr
  obtain ⟨u, hu, hru⟩ := h3 j k t (by simp [hr, hk])
  refine ⟨u, ?_, hru⟩
  have hkl : k < sz := by
    have := h2 r (List.mem_of_getElem? hr)
    have := (List.getElem?_eq_some_iff.1 hk).1
    omega
  rw [List.getElem?_take_of_lt (by
    have := Nat.mul_le_mul_right sz (show j + 1 ≤ n by omega)
    rw [Nat.add_mul] at this
    omega)]
  exact hu

theorem Flat.imp {R R' : T → Value → Prop} {sz : Nat} {rows : List Row} {vs : List Value} (h : Flat R sz rows vs) (k : ∀ t v, R t v → R' t v) : Flat R' sz rows vs :=
  ⟨h.1, h.2.1, fun j i t ht => by obtain ⟨u, hu, hr⟩ := h.2.2 j i t ht; exact ⟨u, hu, k _ _ hr⟩⟩

/-- The first rows of a slice are read. -/
theorem Reads.first {hp : List Blk} {t : T} {sz : Nat} {rows : List Row} {v : Value} (h : Reads ρ w S hp t sz rows v) (hpos : 0 < sz) {n : Nat} (hn : n ≤ rows.length) :
    ∃ ad cap us, v = .slice ad rows.length cap ∧ Flat (RI w S) sz (rows.take n) us ∧ (∀ r ∈ rows, r.all inList = true) ∧
      (Builtin.firstCells sz n v).run P w = .ok us.toArray w := by
  obtain ⟨ad, cap, rfl, hcap, h⟩ := h
  rcases h with rfl | ⟨b, o, rfl, hsz, hin, hc, hS⟩
  · obtain rfl : n = 0 := by simpa using hn
    refine ⟨ad, cap, [], rfl, ⟨by simp, by simp, by simp⟩, by simp, ?_⟩
    cases ad with
    | none => simp [Builtin.firstCells]
    | some ad => simp [Builtin.firstCells, loadCells, loadCellsFrom]
  · have hr : Reads ρ w S hp t sz (rows.take n) (.slice (some ⟨b, o, none⟩) (rows.take n).length cap) :=
      ⟨_, cap, rfl, by simp; omega, .inr ⟨b, o, rfl, fun r hr => hsz r (List.mem_of_mem_take hr), fun r hr => hin r (List.mem_of_mem_take hr), fun j k t ht => ?_, hS⟩⟩
    · obtain ⟨ad, cap', us, hv, -, hf, -, hrun⟩ := hr.flat (P := P) hpos
      have := hrun w rfl cap'
      rw [← hv] at this
      rw [show (rows.take n).length = n by simp; omega] at this
      refine ⟨_, cap, us, rfl, hf, hin, ?_⟩
      simpa [Builtin.firstCells] using this
    · obtain ⟨r, hr, hk⟩ := bind_get ht
      have hj : j < n := by have := (List.getElem?_eq_some_iff.1 hr).1; simp at this; omega
      rw [List.getElem?_take_of_lt hj] at hr
      exact hc j k t (by simp [hr, hk])

theorem does_cpy (h : Sim w0 W S0 ρ0 nb N ρ S σ a w) {o : Oper} {c : Call} {x y : Operand} {t e : TypeId} {i : TypeInfo} (ho : o.op = .call c) (hc : c.callee = .builtin .copy) (hargs : c.args.toList = [x, y]) (htys : c.argTypes.toList = [t, t])
    (ht : P.underlying t = some (.slice e)) (hi : P.info? e = some i) (hpos : 0 < i.size) {id off len : Nat} {ty : T} (hx : RT ρ w S (.sl id off len) (a.eval x)) (hy : RT ρ w S ty (a.eval y))
    {xs ys rows : List Row} (hxs : rowsOf σ.hp (.sl id off len) = some xs) (hys : rowsOf σ.hp ty = some ys) (hb : σ.hp[id]? = some (.lst i.size rows)) (hzy : szOf σ.hp ty = some i.size) :
    Does P w0 W S0 ρ0 nb N σ a w o (.one (I (min ys.length xs.length : Nat)))
      (σ.hp.set id (.lst i.size (rows.take off ++ (ys.take (min ys.length xs.length) ++ rows.drop (off + min ys.length xs.length))))) := by
  have hargs' : c.args = #[x, y] := Array.toList_inj.1 hargs
  have htys' : c.argTypes = #[t, t] := Array.toList_inj.1 htys
  obtain ⟨hle, hxs1⟩ : off + len ≤ rows.length ∧ xs = (rows.drop off).take len := by
    simp only [rowsOf, hb] at hxs
    obtain ⟨h1, h2⟩ := of_ite hxs
    exact ⟨h1, (Option.some.inj h2).symm⟩
  have hxl : xs.length = len := by rw [hxs1]; simp; omega
  rw [hxl]
  obtain ⟨ad2, cap2, us, hv2, hf, hin, hrun⟩ := (rowsOf_sound h.heap hy hys hzy).first (P := P) hpos (Nat.min_le_left ys.length len)
  have hlen' : (ys.take (min ys.length len)).length = min ys.length len := by simp
  have hexec : ∀ u w', (Builtin.copy_ #[t, t] o.type #[a.eval x, a.eval y]).run P w = .ok u w' → (execOp a.eval o).run P w = .ok (.value u) w' := fun u w' hu => by
    simp only [execOp, ho, resolve, hc, hargs', htys', Sem.run_bind, Sem.run_pure, Result.andThen_ok, invoke, builtin]
    simp [hu]
  rw [hv2] at hrun hexec
  have same : (rows.take off ++ (ys.take 0 ++ rows.drop (off + 0))) = rows := by simp
  have hcopy : ∀ ad1 cap1 w', (∀ b, ad1 = some b → (storeCells b us).run P w = .ok () w') → (ad1 = none → w' = w) →
      (Builtin.copy_ #[t, t] o.type #[.slice ad1 len cap1, .slice ad2 ys.length cap2]).run P w = .ok (.int .i64 (min ys.length len : Nat)) w' := by
    intro ad1 cap1 w' h1 h2
    have hm : Nat.min ys.length len = min ys.length len := rfl
    cases ad1 with
    | none =>
      obtain rfl := h2 rfl
      simp [Builtin.copy_, run_underlying ht, sizeOf, typeInfo, hi, Builtin.lenOf, hrun, goInt, hm]
    | some b => simp [Builtin.copy_, run_underlying ht, sizeOf, typeInfo, hi, Builtin.lenOf, hrun, goInt, hm, h1 b rfl]
  have noth : len = 0 → ∀ ad1 cap1, a.eval x = .slice ad1 len cap1 → Does P w0 W S0 ρ0 nb N σ a w o (.one (I (min ys.length len : Nat)))
      (σ.hp.set id (.lst i.size (rows.take off ++ (ys.take (min ys.length len) ++ rows.drop (off + min ys.length len))))) := by
    intro h0 ad1 cap1 hv
    subst h0
    have hus : us = [] := List.eq_nil_of_length_eq_zero (by have := hf.1; simpa using this)
    rw [hv] at hexec
    refine ⟨_, w, ρ, S, hexec _ _ (hcopy ad1 cap1 w (fun b _ => by rw [hus]; simp [storeCells]) (fun _ => rfl)), ?_, .int⟩
    rw [Nat.min_zero, same]
    have : σ.hp.set id (.lst i.size rows) = σ.hp := by
      apply List.ext_getElem?
      intro j
      rw [List.getElem?_set]
      split
      · rename_i e1
        subst e1
        rw [if_pos (List.getElem?_eq_some_iff.1 hb).1, hb]
      · rfl
    rw [this]
    exact h
  generalize hvx : a.eval x = vx at hx
  cases hx with
  | ri h => cases h
  | nil => exact noth rfl _ _ hvx
  | sl hL hcl hs ha =>
    rename_i cap1 ad L e' n'
    by_cases h0 : len = 0
    · exact noth h0 _ _ hvx
    rcases ha with ha | ⟨rfl, hfit⟩
    · omega
    rw [hvx] at hexec
    have hbr := h.heap.br id _ hb
    rcases hbr with ⟨hnone, -⟩ | ⟨M, hM, hwh, hsz, -, hrr, hall⟩
    · rw [hL] at hnone; simp at hnone
    obtain rfl : L = M := by rw [hL] at hM; exact Option.some.inj hM
    have hlive : live σ.hp id := ⟨_, hb, by simp⟩
    obtain ⟨c0, e0, hc0, hs0⟩ := hrr.obj
    have hfl : us.length = min ys.length len * L.sz := by rw [hf.1, hlen', hsz]
    have hmul : (off + min ys.length len) * L.sz ≤ rows.length * L.sz := Nat.mul_le_mul_right _ (by omega)
    rw [Nat.add_mul] at hmul
    obtain ⟨w', hst, hw⟩ := run_storeCells (P := P) us (L.base + off * L.sz) 0 w c0 e0 hc0 (by omega) (hf.one hpos)
    have hle' : off + (ys.take (min ys.length len)).length ≤ rows.length := by omega
    have hnew := hrr.splice hle' hw (by rw [hsz]; exact hf.imp fun _ _ h => .ri h) (fun t v ht => h.heap.rt hlive hL hw ht)
    rw [hlen'] at hnew
    refine ⟨_, w', ρ, S, hexec _ _ (hcopy _ cap1 w' (fun b hb => by obtain rfl := Option.some.inj hb; exact hst) (by simp)), ?_, .int⟩
    refine h.write hlive hL hw (fun o _ _ => ⟨rfl, .inl hwh⟩) _ (.inr ⟨L, hL, hwh, hsz, by omega, hnew, fun r hr => ?_⟩)
    simp only [List.mem_append] at hr
    rcases hr with hr | hr | hr
    · exact hall r (List.mem_of_mem_take hr)
    · exact hin r (List.mem_of_mem_take hr)
    · exact hall r (List.mem_of_mem_drop hr)

end
end Go.Zq
