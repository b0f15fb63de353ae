/- One plain operation of the compact code is done by the model. -/
import Derived.Test.YtilfpkfifdhhdaaZqOpsC
set_option linter.unusedVariables false
set_option linter.unusedSimpArgs false
namespace Go.Zq
open Go

section
variable {P : Program} {w0 : World} {W : Nat → Nat → Prop} {S0 : Rds} {ρ0 : Rho} {nb N : Nat} {ρ : Rho} {S : Rds} {σ : St} {a : Act} {w : World}

theorem evB_sound (h : Sim w0 W S0 ρ0 nb N ρ S σ a w) {x : Operand} {y : Opd} {v : SV} (ho : compK.opdB N x = some y) (he : σ.ev y = some v) : RS ρ w S v (a.eval x) := by
  unfold compK.opdB at ho
  split at ho
  · split at ho
    · obtain rfl := by simpa using ho
      exact slot_sound h he
    · simp at ho
  · obtain rfl := by simpa using ho
    obtain rfl := by simpa [St.ev] using he
    exact .one (.ri (.lit rfl))
  · simp at ho

theorem evP_sound (h : Sim w0 W S0 ρ0 nb N ρ S σ a w) {x : Operand} {y : Opd} {v : SV} (ho : compK.opdP N x = some y) (he : σ.ev y = some v) : RS ρ w S v (a.eval x) := by
  unfold compK.opdP at ho
  split at ho
  · split at ho
    · obtain rfl := by simpa using ho
      exact slot_sound h he
    · simp at ho
  · simp at ho

theorem evI'_sound (h : Sim w0 W S0 ρ0 nb N ρ S σ a w) {t : TypeId} {x : Operand} {y : Opd} {v : SV} (ho : compK.opdI' P N t x = some y) (he : σ.ev y = some v) : RS ρ w S v (a.eval x) := by
  unfold compK.opdI' at ho
  split at ho
  · obtain rfl := by simpa using ho
    obtain rfl := by simpa [St.ev] using he
    exact .one (.ri (.lit rfl))
  · exact ev_sound h ho he

theorem caps_sound (h : Sim w0 W S0 ρ0 nb N ρ S σ a w) : ∀ (l : List Operand) (ps : List Opd), capArgs P N l = some ps → ∀ ts, capsOf σ.ev ps = some ts →
    ts.length = l.length ∧ ∀ (k : Nat) (t : T), ts[k]? = some t → (∃ id row off, t = .ptr id row off) ∧ ∃ x, l[k]? = some x ∧ RT ρ w S t (a.eval x) := by
  intro l
  induction l with
  | nil =>
    intro ps hps ts hts
    simp only [capArgs, Option.some.injEq] at hps
    subst hps
    simp only [capsOf, Option.some.injEq] at hts
    subst hts
    exact ⟨rfl, fun k t ht => by simp at ht⟩
  | cons x l ih =>
    intro ps hps ts hts
    cases x with
    | tmp n =>
      simp only [capArgs] at hps
      obtain ⟨hn, hps1⟩ := of_ite hps
      simp only [Option.bind_eq_some_iff, Option.some.injEq] at hps1
      obtain ⟨ps', hps', rfl⟩ := hps1
      simp only [capsOf, Option.bind_eq_some_iff] at hts
      obtain ⟨v, hv, t, ht, hts⟩ := hts
      split at hts
      · rename_i id row off
        simp only [Option.bind_eq_some_iff, Option.some.injEq] at hts
        obtain ⟨r, hr, rfl⟩ := hts
        obtain ⟨h1, h2⟩ := ih ps' hps' r hr
        refine ⟨by simp [h1], fun k t hk => ?_⟩
        cases k with
        | zero =>
          simp only [List.getElem?_cons_zero, Option.some.injEq] at hk
          subst hk
          exact ⟨⟨id, row, off, rfl⟩, .tmp n, rfl, asOne_sound (slot_sound h hv) ht⟩
        | succ k => exact h2 k t (by simpa using hk)
      · simp at hts
    | _ => simp [capArgs] at hps

set_option maxHeartbeats 1000000 in
theorem k_sound (R : Rt) (h : Sim w0 W S0 ρ0 nb N ρ S σ a w) {md : FuncId → Nat → Bool} {o : Oper} {d : Nat} {k : K} (hk : compK P N md o d = some k) {r : SV} {hp' : List Blk} (hx : k.exec R σ.ev σ.hp = some (r, hp')) :
    k.dst = some d ∧ Does P w0 W S0 ρ0 nb N σ a w o r hp' := by
  unfold compK at hk
  split at hk
  · -- move
    rename_i x ho
    simp only [Option.bind_eq_some_iff, Option.some.injEq] at hk
    obtain ⟨y, hy, rfl⟩ := hk
    simp only [K.exec, Option.bind_eq_some_iff, Option.some.injEq, Prod.mk.injEq] at hx
    obtain ⟨v, hv, rfl, rfl⟩ := hx
    exact ⟨rfl, does_mv h (.inl ho) (ev_sound h hy hv)⟩
  · rename_i x ho
    simp only [Option.bind_eq_some_iff, Option.some.injEq] at hk
    obtain ⟨y, hy, rfl⟩ := hk
    simp only [K.exec, Option.bind_eq_some_iff, Option.some.injEq, Prod.mk.injEq] at hx
    obtain ⟨v, hv, rfl, rfl⟩ := hx
    exact ⟨rfl, does_mv h (.inr ho) (ev_sound h hy hv)⟩
  · -- pick
    rename_i c x y ho
    simp only [Option.bind_eq_some_iff, Option.some.injEq] at hk
    obtain ⟨c', hc', x', hx', y', hy', rfl⟩ := hk
    simp only [K.exec, Option.bind_eq_some_iff] at hx
    obtain ⟨vc, hvc, cb, hcb, hx⟩ := hx
    refine ⟨rfl, ?_⟩
    have hc := asBool_sound (evB_sound h hc' hvc) hcb
    cases cb
    · simp only [Bool.false_eq_true, if_false, Option.bind_eq_some_iff, Option.some.injEq, Prod.mk.injEq] at hx
      obtain ⟨v, hv, rfl, rfl⟩ := hx
      exact does_pick h ho hc (by simpa using ev_sound h hy' hv)
    · simp only [if_true, Option.bind_eq_some_iff, Option.some.injEq, Prod.mk.injEq] at hx
      obtain ⟨v, hv, rfl, rfl⟩ := hx
      exact does_pick h ho hc (by simpa using ev_sound h hx' hv)
  · -- alloc
    rename_i e ho
    simp only [Option.bind_eq_some_iff] at hk
    obtain ⟨z, hz, hk⟩ := hk
    obtain ⟨hpos, hk1⟩ := of_ite hk
    obtain rfl := Option.some.inj hk1
    simp only [K.exec, Option.some.injEq, Prod.mk.injEq] at hx
    obtain ⟨rfl, rfl⟩ := hx
    exact ⟨rfl, does_alc h ho hz hpos⟩
  · -- box
    rename_i e x ho
    simp only [Option.bind_eq_some_iff, Option.some.injEq] at hk
    obtain ⟨y, hy, rfl⟩ := hk
    simp only [K.exec, Option.bind_eq_some_iff] at hx
    obtain ⟨v, hv, cs, hcs, hx⟩ := hx
    obtain ⟨hpos, hx1⟩ := of_ite hx
    simp only [Option.some.injEq, Prod.mk.injEq] at hx1
    obtain ⟨rfl, rfl⟩ := hx1
    exact ⟨rfl, does_box h ho (ev_sound h hy hv) hcs hpos⟩
  · -- build
    rename_i t ps ho
    split at hk
    · rename_i fs ht
      obtain ⟨hall, hk1⟩ := of_ite hk
      simp only [Option.bind_eq_some_iff, Option.some.injEq] at hk1
      obtain ⟨z, hz, ps', hps', rfl⟩ := hk1
      simp only [K.exec, Option.bind_eq_some_iff, Option.some.injEq, Prod.mk.injEq] at hx
      obtain ⟨cs, hcs, rfl, rfl⟩ := hx
      exact ⟨rfl, does_bld h ho ht hall hz hps' hcs⟩
    · simp at hk
  · -- buildSlice
    rename_i t n ps ho
    simp only [Option.bind_eq_some_iff] at hk
    obtain ⟨e, he, z, hz, ps', hps', hk⟩ := hk
    obtain ⟨⟨hlim, hpos⟩, hk1⟩ := of_ite hk
    obtain rfl := Option.some.inj hk1
    simp only [K.exec, Option.bind_eq_some_iff, Option.some.injEq, Prod.mk.injEq] at hx
    obtain ⟨rows, hrows, rfl, rfl⟩ := hx
    exact ⟨rfl, does_bsl h ho (elem_und he) hz hpos hlim hps' hrows⟩
  · -- load
    rename_i t x ho
    simp only [Option.bind_eq_some_iff, Option.some.injEq] at hk
    obtain ⟨n, hn, y, hy, rfl⟩ := hk
    simp only [K.exec, Option.bind_eq_some_iff, Option.some.injEq, Prod.mk.injEq] at hx
    obtain ⟨v, hv, tx, htx, cs, hcs, s, hs, rfl, rfl⟩ := hx
    exact ⟨rfl, does_ld h ho hn (asOne_sound (evP_sound h hy hv) htx) hcs hs⟩
  · -- nilCheck
    rename_i x ho
    simp only [Option.bind_eq_some_iff, Option.some.injEq] at hk
    obtain ⟨y, hy, rfl⟩ := hk
    simp only [K.exec, Option.bind_eq_some_iff] at hx
    obtain ⟨v, hv, hx⟩ := hx
    have hr := evP_sound h hy hv
    split at hx
    · simp only [Option.some.injEq, Prod.mk.injEq] at hx
      obtain ⟨rfl, rfl⟩ := hx
      exact ⟨rfl, does_nilc h ho hr (.inl ⟨_, _, _, rfl⟩)⟩
    · simp only [Option.some.injEq, Prod.mk.injEq] at hx
      obtain ⟨rfl, rfl⟩ := hx
      exact ⟨rfl, does_nilc h ho hr (.inr ⟨_, rfl⟩)⟩
    · simp at hx
  · -- binOp
    rename_i op t x y u ho
    have bin : (opd P N t x).bind (fun x => (compK.opdI' P N t y).bind fun y => some (K.bin d op x y)) = some k → k.dst = some d ∧ Does P w0 W S0 ρ0 nb N σ a w o r hp' := by
      intro hk
      simp only [Option.bind_eq_some_iff, Option.some.injEq] at hk
      obtain ⟨x', hx', y', hy', rfl⟩ := hk
      simp only [K.exec, Option.bind_eq_some_iff, Option.some.injEq, Prod.mk.injEq] at hx
      obtain ⟨v, hv, vx, hvx, v', hv', vy, hvy, q, hq, rfl, rfl⟩ := hx
      exact ⟨rfl, does_bin h ho (asLit_sound (ev_sound h hx' hv) hvx).1 (asLit_sound (evI'_sound h hy' hv') hvy).1 hq⟩
    have bb : ∀ neg : Bool, op = (if neg then .neq else .eql) → P.underlying t = some .bool → ∀ x' y', opd P N t x = some x' → opd P N t y = some y' → k = K.bb d neg x' y' → k.dst = some d ∧ Does P w0 W S0 ρ0 nb N σ a w o r hp' := by
      intro neg e hu x' y' hx' hy' hk
      subst hk
      subst e
      simp only [K.exec, Option.bind_eq_some_iff, Option.some.injEq, Prod.mk.injEq] at hx
      obtain ⟨v, hv, vx, hvx, v', hv', vy, hvy, rfl, rfl⟩ := hx
      exact ⟨rfl, does_bb h ho hu (asBool_sound (ev_sound h hx' hv) hvx) (asBool_sound (ev_sound h hy' hv') hvy)⟩
    have eqs : ∀ neg : Bool, op = (if neg then .neq else .eql) → ∀ gs, flatC P 9 t = some gs → ∀ x' y', opd P N t x = some x' → opd P N t y = some y' → k = K.eqs d neg gs x' y' → k.dst = some d ∧ Does P w0 W S0 ρ0 nb N σ a w o r hp' := by
      intro neg e gs hg x' y' hx' hy' hk
      subst hk
      subst e
      simp only [K.exec, Option.bind_eq_some_iff] at hx
      obtain ⟨v, hv, v', hv', hx⟩ := hx
      split at hx
      · simp only [Option.bind_eq_some_iff, Option.some.injEq, Prod.mk.injEq] at hx
        obtain ⟨q, hq, rfl, rfl⟩ := hx
        exact ⟨rfl, does_eqs h ho hg (ev_sound h hx' hv) (ev_sound h hy' hv') hq⟩
      · simp at hx
    split at hk
    · exact bin hk
    · exact bin hk
    · rename_i hu
      simp only [Option.bind_eq_some_iff] at hk
      obtain ⟨x', hx', y', hy', hk⟩ := hk
      split at hk
      · exact bb false rfl hu x' y' hx' hy' (Option.some.inj hk).symm
      · exact bb true rfl hu x' y' hx' hy' (Option.some.inj hk).symm
      · simp at hk
    · simp only [Option.bind_eq_some_iff] at hk
      obtain ⟨gs, hg, x', hx', y', hy', hk⟩ := hk
      split at hk
      · exact eqs false rfl gs hg x' y' hx' hy' (Option.some.inj hk).symm
      · exact eqs true rfl gs hg x' y' hx' hy' (Option.some.inj hk).symm
      · simp at hk
  · -- unOp
    rename_i op t x ho
    simp only [Option.bind_eq_some_iff, Option.some.injEq] at hk
    obtain ⟨y, hy, rfl⟩ := hk
    simp only [K.exec, Option.bind_eq_some_iff, Option.some.injEq, Prod.mk.injEq] at hx
    obtain ⟨v, hv, vx, hvx, q, hq, rfl, rfl⟩ := hx
    exact ⟨rfl, does_un h ho (asLit_sound (ev_sound h hy hv) hvx).1 hq⟩
  · -- convert
    rename_i src dst x ho
    split at hk
    · rename_i k1 k2 hs hd
      simp only [Option.bind_eq_some_iff, Option.some.injEq] at hk
      obtain ⟨y, hy, rfl⟩ := hk
      simp only [K.exec, Option.bind_eq_some_iff, Option.some.injEq, Prod.mk.injEq] at hx
      obtain ⟨v, hv, vx, hvx, rfl, rfl⟩ := hx
      exact ⟨rfl, does_cv h ho hs hd (asInt_sound (ev_sound h hy hv) hvx)⟩
    · simp at hk
  · -- makeFunc
    rename_i f first caps ho
    obtain ⟨h1, hk1⟩ := of_ite hk
    simp only [Option.bind_eq_some_iff, Option.some.injEq] at hk1
    obtain ⟨ps, hps, rfl⟩ := hk1
    simp only [K.exec, Option.bind_eq_some_iff, Option.some.injEq, Prod.mk.injEq] at hx
    obtain ⟨ts, hts, rfl, rfl⟩ := hx
    obtain ⟨c1, c2⟩ := caps_sound h caps.toList ps hps ts hts
    exact ⟨rfl, does_mkf h ho h1 (by simpa using c1) (fun k t ht => by obtain ⟨c3, x, hx, c4⟩ := c2 k t ht; exact ⟨c3, x, by simpa using hx, c4⟩)⟩
  · -- makeSlice
    rename_i t n c ho
    simp only [Option.bind_eq_some_iff] at hk
    obtain ⟨e, he, z, hz, i, hi, n', hn', c', hc', hk⟩ := hk
    obtain ⟨hpos, hk1⟩ := of_ite hk
    obtain rfl := Option.some.inj hk1
    simp only [K.exec, Option.bind_eq_some_iff] at hx
    obtain ⟨v, hv, vn, hvn, v', hv', vc, hvc, hx⟩ := hx
    obtain ⟨⟨c0, c1, c2, c3⟩, hx1⟩ := of_ite hx
    simp only [Option.some.injEq, Prod.mk.injEq] at hx1
    obtain ⟨rfl, rfl⟩ := hx1
    exact ⟨rfl, does_mks h ho (elem_und he) hz hi hpos (asInt_sound (evI_sound h hn' hv) hvn) (asInt_sound (evI_sound h hc' hv') hvc) c0 c1 c2 c3⟩
  · -- slice
    rename_i t x lo hi ho
    split at hk
    · rename_i e hu
      simp only [Option.bind_eq_some_iff, Option.some.injEq] at hk
      obtain ⟨n, hn, x', hx', lo', hlo', hi', hhi', rfl⟩ := hk
      simp only [K.exec, Option.bind_eq_some_iff, Option.some.injEq, Prod.mk.injEq] at hx
      obtain ⟨v, hv, tx, htx, rows, hrows, l, hl, hh, hhh, q, hq, rfl, rfl⟩ := hx
      exact ⟨rfl, does_slc h ho hu hn (asOne_sound (ev_sound h hx' hv) htx) hrows (bound_sound h hlo' hl) (bound_sound h hhi' hhh) hq⟩
    · rename_i hu
      simp only [Option.bind_eq_some_iff, Option.some.injEq] at hk
      obtain ⟨x', hx', lo', hlo', hi', hhi', rfl⟩ := hk
      simp only [K.exec, Option.bind_eq_some_iff] at hx
      obtain ⟨v, hv, s, hs, hx⟩ := hx
      split at hx
      · simp only [Option.bind_eq_some_iff] at hx
        obtain ⟨l, hl, hh, hhh, hx⟩ := hx
        obtain ⟨⟨c0, c1, c2⟩, hx1⟩ := of_ite hx
        simp only [Option.some.injEq, Prod.mk.injEq] at hx1
        obtain ⟨rfl, rfl⟩ := hx1
        exact ⟨rfl, does_sls h ho hu (asLit_sound (ev_sound h hx' hv) hs).1 (bound_sound h hlo' hl) (bound_sound h hhi' hhh) c0 c1 c2⟩
      · simp at hx
    · simp at hk
  · -- fieldAddr
    rename_i t x j ho
    simp only [Option.bind_eq_some_iff] at hk
    obtain ⟨f, hf, n, hn, hk⟩ := hk
    obtain ⟨hpos, hk1⟩ := of_ite hk
    simp only [Option.bind_eq_some_iff, Option.some.injEq] at hk1
    obtain ⟨y, hy, rfl⟩ := hk1
    simp only [K.exec, Option.bind_eq_some_iff, Option.some.injEq, Prod.mk.injEq] at hx
    obtain ⟨v, hv, s, hs, rfl, rfl⟩ := hx
    exact ⟨rfl, does_fa h ho hf hn hpos (evP_sound h hy hv) hs⟩
  · -- field
    rename_i t x j ho
    simp only [Option.bind_eq_some_iff, Option.some.injEq] at hk
    obtain ⟨f, hf, n, hn, y, hy, rfl⟩ := hk
    simp only [K.exec, Option.bind_eq_some_iff] at hx
    obtain ⟨v, hv, hx⟩ := hx
    split at hx
    · simp only [Option.bind_eq_some_iff, Option.some.injEq, Prod.mk.injEq] at hx
      obtain ⟨s, hs, rfl, rfl⟩ := hx
      exact ⟨rfl, does_fld h ho hf hn (ev_sound h hy hv) hs⟩
    · simp at hx
  · -- indexAddr
    rename_i t x j ho
    simp only [Option.bind_eq_some_iff] at hk
    obtain ⟨e, he, n, hn, x', hx', j', hj', hk⟩ := hk
    obtain ⟨hpos, hk1⟩ := of_ite hk
    obtain rfl := Option.some.inj hk1
    simp only [K.exec, Option.bind_eq_some_iff, Option.some.injEq, Prod.mk.injEq] at hx
    obtain ⟨v, hv, tx, htx, v', hv', vj, hvj, s, hs, rfl, rfl⟩ := hx
    exact ⟨rfl, does_ia h ho (elem_und he) hn (asOne_sound (ev_sound h hx' hv) htx) (asInt_sound (evI_sound h hj' hv') hvj) hs⟩
  · -- index
    rename_i t x j ho
    split at hk
    · rename_i hu
      simp only [Option.bind_eq_some_iff, Option.some.injEq] at hk
      obtain ⟨x', hx', j', hj', rfl⟩ := hk
      simp only [K.exec, Option.bind_eq_some_iff] at hx
      obtain ⟨v, hv, s, hs, v', hv', vj, hvj, hx⟩ := hx
      split at hx
      · obtain ⟨c0, hx1⟩ := of_ite hx
        split at hx1
        · rename_i c hc
          simp only [Option.some.injEq, Prod.mk.injEq] at hx1
          obtain ⟨rfl, rfl⟩ := hx1
          exact ⟨rfl, does_ix h ho hu (asLit_sound (ev_sound h hx' hv) hs).1 (asInt_sound (evI_sound h hj' hv') hvj) c0 hc⟩
        · simp at hx1
      · simp at hx
    · simp at hk
  · -- extract
    rename_i x j ho
    simp only [Option.bind_eq_some_iff, Option.some.injEq] at hk
    obtain ⟨y, hy, rfl⟩ := hk
    simp only [K.exec, Option.bind_eq_some_iff] at hx
    obtain ⟨v, hv, hx⟩ := hx
    split at hx
    · simp only [Option.bind_eq_some_iff, Option.some.injEq, Prod.mk.injEq] at hx
      obtain ⟨s, hs, rfl, rfl⟩ := hx
      exact ⟨rfl, does_ext h ho (evP_sound h hy hv) hs⟩
    · simp at hx
  · simp at hk
where
  elem_und {t e : TypeId} (h : elemT P t = some e) : P.underlying t = some (.slice e) := by
    unfold elemT at h
    split at h
    · rename_i e' he
      rw [he, Option.some.inj h]
    · simp at h

end
end Go.Zq
