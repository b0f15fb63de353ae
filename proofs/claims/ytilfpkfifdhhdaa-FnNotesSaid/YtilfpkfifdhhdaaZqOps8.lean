/- append, copy. -/
import Derived.Test.YtilfpkfifdhhdaaZqOps7
set_option linter.unusedVariables false
set_option linter.unusedSimpArgs false
namespace Go.Zq
open Go

section
variable {P : Program} {w0 : World} {W : Nat → Nat → Prop} {S0 : Rds} {ρ0 : Rho} {nb N : Nat} {ρ : Rho} {S : Rds} {σ : St} {a : Act} {w : World}

theorem zeroCells_get {z : Array Value} {n : Nat} : (Builtin.zeroCells z n).size = n * z.size := by simp [Builtin.zeroCells]

/-- What 'append' is handed, and what it does. -/
theorem run_append_room {t ty e : TypeId} {i : TypeInfo} (ht : P.underlying t = some (.slice e)) (hi : P.info? e = some i) {ad1 ad2 : Option Addr} {n1 n2 cap1 cap2 : Nat} {news : List Value}
    (hn : (Builtin.firstCells i.size n2 (.slice ad2 n2 cap2)).run P w = .ok news.toArray w) (hroom : n1 + n2 ≤ cap1) {w' : World}
    (hst : ∀ b, ad1 = some b → (storeCells (b.add (n1 * i.size)) news).run P w = .ok () w') (hst0 : ad1 = none → w' = w) :
    (Builtin.append_ #[t, t] ty #[.slice ad1 n1 cap1, .slice ad2 n2 cap2]).run P w = .ok (.slice ad1 (n1 + n2) cap1) w' := by
  cases ad1 with
  | none =>
    obtain rfl := hst0 rfl
    simp [Builtin.append_, run_underlying ht, sizeOf, typeInfo, hi, Builtin.lenOf, hroom, hn]
  | some b =>
    simp [Builtin.append_, run_underlying ht, sizeOf, typeInfo, hi, Builtin.lenOf, hroom, hn, hst b rfl]

theorem run_append_more {t ty e : TypeId} {i : TypeInfo} {z : Value} (ht : P.underlying t = some (.slice e)) (hi : P.info? e = some i) (hz : i.zero = some z) {ad1 ad2 : Option Addr} {n1 n2 cap1 cap2 : Nat} {olds news : List Value}
    (ho : (Builtin.firstCells i.size n1 (.slice ad1 n1 cap1)).run P w.drew = .ok olds.toArray w.drew) (hn : (Builtin.firstCells i.size n2 (.slice ad2 n2 cap2)).run P w.drew = .ok news.toArray w.drew)
    (hroom : ¬ n1 + n2 ≤ cap1) (h63 : n1 + n2 ≤ room) (h48 : (n1 + n2) * i.bytes ≤ room) :
    (Builtin.append_ #[t, t] ty #[.slice ad1 n1 cap1, .slice ad2 n2 cap2]).run P w =
      .ok (.slice (some ⟨w.heap.size, 0, none⟩) (n1 + n2) (grownCap w (n1 + n2) cap1 e)) (w.drew.alloc (.cells (olds.toArray ++ news.toArray ++ Builtin.zeroCells z.cells (grownCap w (n1 + n2) cap1 e - (n1 + n2))) e)) := by
  unfold room at h63 h48
  have h63' : ¬ (9223372036854775807 < ((n1 : Int) + (n2 : Int))) := by omega
  have hfit := growslice_fits (need := n1 + n2) (old := cap1) (bytes := i.bytes) (by omega) h48
  have h48' : ¬ (281474976710656 < Builtin.nextslicecap (n1 + n2) cap1 * i.bytes) := by omega
  simp [Builtin.append_, run_underlying ht, sizeOf, typeInfo, zeroValue, hi, hz, Builtin.lenOf, hroom, h63', h48', Question.forced, ho, hn, newRow, grownCap]
  congr 2
  apply Array.ext'
  simp [List.append_assoc]

theorem shape_push (w : World) (arr : Array Value) (e : TypeId) : World.shape? { w.drew with heap := w.drew.heap.push (.cells arr e) } w.heap.size = some (e, arr.size) := by
  have : ({ w.drew with heap := w.drew.heap.push (.cells arr e) } : World).heap[w.heap.size]? = some (.cells arr e) := by
    show (w.heap.push (.cells arr e))[w.heap.size]? = _
    simp
  simp only [World.shape?, this]

theorem le_grownCap {n c : Nat} {e : TypeId} : n ≤ grownCap w n c e := by
  unfold grownCap
  simp only [Question.cut]
  omega

theorem Sim.drew (h : Sim w0 W S0 ρ0 nb N ρ S σ a w) : Sim w0 W S0 ρ0 nb N ρ S σ a w.drew := h.drawn rfl rfl rfl rfl

theorem Flat.one {sz : Nat} {rows : List Row} {vs : List Value} (h : Flat (RI w S) sz rows vs) (hpos : 0 < sz) : ∀ v ∈ vs, (∀ x, v ≠ .agg x) ∧ ∀ x, v ≠ .tuple x := by
  intro v hv
  obtain ⟨i, hi, rfl⟩ := List.mem_iff_getElem.1 hv
  obtain ⟨h1, h2, h3⟩ := h
  rw [h1] at hi
  have hj : i / sz < rows.length := (Nat.div_lt_iff_lt_mul hpos).2 hi
  have hk : i % sz < sz := Nat.mod_lt _ hpos
  have hl := h2 rows[i / sz] (List.getElem_mem hj)
  obtain ⟨u, hu, hr⟩ := h3 (i / sz) (i % sz) (rows[i / sz][i % sz]'(by omega)) (by simp [hj])
  have e : i / sz * sz + i % sz = i := by have := Nat.div_add_mod i sz; rw [Nat.mul_comm] at this; omega
  rw [e] at hu
  have hu' : vs[i] = u := (List.getElem?_eq_some_iff.1 hu).2
  rw [hu']
  exact (RT.ri (ρ := fun _ => none) hr).one.2

theorem pushed {hp : List Blk} {x : Blk} {j : Nat} (h : live (hp ++ [x]) j) (hj : j ≠ hp.length) : live hp j := by
  obtain ⟨y, hy, hd⟩ := h
  refine ⟨y, ?_, hd⟩
  rw [List.getElem?_append] at hy
  split at hy
  · exact hy
  · rw [List.getElem?_eq_none (by simp; omega)] at hy; simp at hy

/-- A nil slice gets a number. -/
theorem Sim.nil (h : Sim w0 W S0 ρ0 nb N ρ S σ a w) (n : Nat) : Sim w0 W S0 ρ0 nb N ρ S ⟨σ.sl, σ.hp ++ [.lst n []]⟩ a w := by
  have no : ∀ j L, ρ j = some L → j ≠ σ.hp.length := fun j L hj e => by
    rw [e, h.heap.fr _ (Nat.le_refl _)] at hj; simp at hj
  refine { h with slots := h.slots, heap := ⟨fun id y hy => ?_, ?_, ?_, h.heap.sb, h.heap.st, fun j hj => h.heap.fr j (by simp at hj; omega)⟩, own := fun j L b o hj hL => h.own j L b o (pushed hj (no j L hL)) hL, nbl := by simp; have := h.nbl; omega }
  · rw [List.getElem?_append] at hy
    split at hy
    · exact h.heap.br id y hy
    · obtain rfl : id = σ.hp.length := by
        have := (List.getElem?_eq_some_iff.1 hy).1
        simp at this
        omega
      simp at hy
      subst hy
      exact .inl ⟨h.heap.fr _ (Nat.le_refl _), rfl⟩
  · intro i' j L M b o' hij hi' hj hL hM
    exact h.heap.dj i' j L M b o' hij (pushed hi' (no i' L hL)) (pushed hj (no j M hM)) hL hM
  · intro p b hb j L hj hL
    exact h.heap.sd p b hb j L (pushed hj (no j L hL)) hL

theorem does_app (h : Sim w0 W S0 ρ0 nb N ρ S σ a w) {o : Oper} {c : Call} {x y : Operand} {t e : TypeId} {i : TypeInfo} (ho : o.op = .call c) (hc : c.callee = .builtin .append) (hargs : c.args.toList = [x, y]) (htys : c.argTypes.toList = [t, t])
    (ht : P.underlying t = some (.slice e)) (hi : P.info? e = some i) {zr : Row} (hz : zeroRow P e = some zr) (hpos : 0 < i.size) {tx ty : T} (hx : RT ρ w S tx (a.eval x)) (hy : RT ρ w S ty (a.eval y))
    {xs ys : List Row} (hxs : rowsOf σ.hp tx = some xs) (hys : rowsOf σ.hp ty = some ys) (htail : tail? σ.hp tx = true) (hzx : szOf σ.hp tx = some i.size) (hzy : szOf σ.hp ty = some i.size)
    (hby : (xs.length + ys.length) * i.bytes ≤ room) (hlen : xs.length + ys.length ≤ room) :
    Does P w0 W S0 ρ0 nb N σ a w o (.one (.sl σ.hp.length 0 (xs ++ ys).length)) (killT σ.hp tx ++ [.lst i.size (xs ++ ys)]) := by
  have hargs' : c.args = #[x, y] := Array.toList_inj.1 hargs
  have htys' : c.argTypes = #[t, t] := Array.toList_inj.1 htys
  obtain ⟨xi, zv, hxi, hzv, hzs, -, -⟩ := zeroRow_spec hz
  obtain rfl : i = xi := by rw [hi] at hxi; exact Option.some.inj hxi
  have hreads := rowsOf_sound h.heap hx hxs hzx
  obtain ⟨ad1, cap1, us, hv1, hcap1, hf1, hin1, hr1⟩ := hreads.flat (P := P) hpos
  obtain ⟨ad2, cap2, vs, hv2, hcap2, hf2, hin2, hr2⟩ := (rowsOf_sound h.heap hy hys hzy).flat (P := P) hpos
  have hexec : ∀ u w', (Builtin.append_ #[t, t] o.type #[a.eval x, a.eval y]).run P w = .ok u w' → (execOp a.eval o).run P w = .ok (.value u) w' := fun u w' hu => by
    simp only [execOp, ho, resolve, hc, hargs', htys', Sem.run_bind, Sem.run_pure, Result.andThen_ok, invoke, builtin]
    simp [hu]
  have hkl : (killT σ.hp tx).length = σ.hp.length := by cases tx <;> simp [killT]
  have hk : Sim w0 W S0 ρ0 nb N ρ S ⟨σ.sl, killT σ.hp tx⟩ a w := by
    cases tx with
    | sl id off len => exact h.kill id
    | _ => exact h
  have hinall : ∀ r ∈ xs ++ ys, r.all inList = true := fun r hr => by
    rcases List.mem_append.1 hr with hr | hr
    · exact hin1 r hr
    · exact hin2 r hr
  rw [hv1] at hx hexec
  rw [hv2] at hexec
  by_cases hroom : xs.length + ys.length ≤ cap1
  · -- in place
    have nothing : xs = [] → ys = [] → ad1 = none → Does P w0 W S0 ρ0 nb N σ a w o (.one (.sl σ.hp.length 0 (xs ++ ys).length)) (killT σ.hp tx ++ [.lst i.size (xs ++ ys)]) := by
      intro e1 e2 e3
      subst e1 e2 e3
      have hrun := run_append_room (P := P) (w := w) (ty := o.type) ht hi (ad1 := none) (n1 := 0) (n2 := 0) (cap1 := cap1) (news := vs) (hr2 w rfl cap2) (by omega) (w' := w) (by simp) (by simp)
      have hc0 : cap1 = 0 := by
        cases hx with
        | ri h => cases h with
          | nls => rfl
          | nil => simp [tail?] at htail
          | lit h => simp [litOk] at h
        | nil => rfl
      subst hc0
      refine ⟨.slice none 0 0, w, ρ, S, hexec _ _ hrun, ?_, .one (by simpa using RT.nil)⟩
      simpa using hk.nil i.size
    cases tx with
    | nls n =>
      have hxs0 : xs = [] := by simpa [rowsOf] using hxs.symm
      have : ad1 = none ∧ cap1 = 0 := by
        subst hxs0
        cases hx with
        | ri h => cases h; exact ⟨rfl, rfl⟩
      exact nothing hxs0 (List.eq_nil_of_length_eq_zero (by omega)) this.1
    | sl id off len =>
      have hlenx : xs.length = len := by
        simp only [rowsOf] at hxs
        cases hb : σ.hp[id]? with
        | none => simp [hb] at hxs
        | some b => cases b with
          | lst n rows =>
            simp only [hb] at hxs
            obtain ⟨hle, hxs1⟩ := of_ite hxs
            obtain rfl := Option.some.inj hxs1
            simp; omega
          | _ => simp [hb] at hxs
      generalize hn1 : xs.length = n1 at hx
      cases hx with
      | ri h => cases h
      | nil => exact nothing (List.eq_nil_of_length_eq_zero (by omega)) (List.eq_nil_of_length_eq_zero (by omega)) rfl
      | sl hL hcl hs ha =>
        rename_i ad L e' n'
        subst hn1
        obtain ⟨hLs, hLw, hlive⟩ := szOf_loc h.heap hL hzx
        obtain ⟨c0, e0, hc0, -⟩ := h.heap.obj hlive hL
        have hother : ∀ j M, live (σ.hp.set id .dead) j → ρ j = some M → M.blk ≠ L.blk := fun j M hj hM => h.heap.alone hlive hL hLw (live_kill hj).2 hM (live_kill hj).1
        have hbnot : ∀ p b, S p b → b ≠ L.blk := fun p b hb e => h.heap.sd p b hb id L hlive hL e.symm
        have hown : ∀ o, W L.blk o ∨ w0.heap.size ≤ L.blk := fun o => h.own id L L.blk o hlive hL ⟨rfl, .inl hLw⟩
        by_cases hcap0 : cap1 = 0
        · -- nothing at all
          subst hcap0
          have hxs0 : xs = [] := List.eq_nil_of_length_eq_zero (by omega)
          have hys0 : ys = [] := List.eq_nil_of_length_eq_zero (by omega)
          subst hxs0 hys0
          have hvs0 : vs = [] := List.eq_nil_of_length_eq_zero (by have := hf2.1; simpa using this)
          subst hvs0
          have hrun := run_append_room (P := P) (w := w) (ty := o.type) ht hi (ad1 := some ad) (n1 := 0) (n2 := 0) (cap1 := 0) (news := []) (hr2 w rfl cap2) (by simp) (w' := w) (by simp [storeCells]) (by simp)
          have had := hk.adopt ⟨L.blk, 0, L.sz, true⟩ (.lst i.size []) (by simp) hother hbnot hown
            (.inr ⟨_, if_pos rfl, rfl, hLs, hpos, ⟨⟨c0, e0, hc0, by simp⟩, by simp, by simp⟩, by simp⟩)
          simp only [killT, List.length_set] at had
          exact ⟨.slice (some ad) 0 0, w, _, S, hexec _ _ hrun, had, .one (.sl (L := ⟨L.blk, 0, L.sz, true⟩) (if_pos rfl) (Nat.le_refl _) hs (.inl rfl))⟩
        · rcases ha with ha | ⟨rfl, hfit⟩
          · exact absurd ha hcap0
          have hshape : n' = c0.size := by
            simp [World.shape?, hc0] at hs
            exact hs.2.symm
          have hmul : (off + xs.length + ys.length) * L.sz ≤ (off + cap1) * L.sz := Nat.mul_le_mul_right _ (by omega)
          have hvl : vs.length = ys.length * L.sz := by rw [hf2.1, hLs]
          obtain ⟨w', hst, hw⟩ := run_storeCells (P := P) vs (L.base + off * L.sz + xs.length * i.size) 0 w c0 e0 hc0
            (by rw [hvl, ← hLs, ← hshape]; simp only [Nat.add_mul] at hmul hfit; omega)
            (hf2.one hpos)
          have hrun := run_append_room (P := P) (w := w) (ty := o.type) ht hi (ad1 := some ⟨L.blk, L.base + off * L.sz, none⟩) (n1 := xs.length) (n2 := ys.length) (cap1 := cap1) (news := vs) (hr2 w rfl cap2) hroom (w' := w')
            (by rintro b hb; obtain rfl := Option.some.inj hb; rw [Addr.add_at rfl]; exact hst) (by simp)
          have hwk : Sim w0 W S0 ρ0 nb N ρ S ⟨σ.sl, σ.hp.set id .dead⟩ a w' := h.write hlive hL hw (fun o _ _ => ⟨rfl, .inl hLw⟩) .dead trivial
          obtain ⟨c1, hc1, hs1, -⟩ := hw.here c0 e0 (0, 0) hc0
          obtain ⟨hsame, hshp⟩ := h.heap.mem hlive hL hw
          have hx1 : ∀ (j k : Nat) (t : T), (xs[j]?).bind (·[k]?) = some t → ∃ u, w.cell? ⟨L.blk, L.base + off * L.sz + j * L.sz + k, none⟩ = some u ∧ RI w S t u := fun j k t ht => by
            obtain ⟨ad', cap', hv', -, hrd⟩ := hreads
            rw [hv1] at hv'
            simp only [Value.slice.injEq] at hv'
            rcases hrd with hrd | ⟨b, o', hb, -, -, hcell, -⟩
            · simp [hrd] at ht
            · rw [← hv'.1] at hb
              obtain ⟨rfl, rfl⟩ : L.blk = b ∧ L.base + off * L.sz = o' := by simpa using hb
              rw [hLs]
              rw [← hLs] at hcell ⊢
              exact hcell j k t ht
          have hrows : RR (fun j => if j = (σ.hp.set id .dead).length then some ⟨L.blk, L.base + off * L.sz, L.sz, true⟩ else ρ j) w' S ⟨L.blk, L.base + off * L.sz, L.sz, true⟩ (xs ++ ys) := by
            refine ⟨⟨c1, e0, hc1, ?_⟩, fun r hr => ?_, fun j k t ht => ?_⟩
            · simp only [List.length_append, Nat.add_mul] at hmul hfit ⊢
              omega
            · rw [hLs]
              rcases List.mem_append.1 hr with hr | hr
              · exact hf1.2.1 r hr
              · exact hf2.2.1 r hr
            · obtain ⟨r, hr, hk'⟩ := bind_get ht
              have hkl' := (List.getElem?_eq_some_iff.1 hk').1
              by_cases hj : j < xs.length
              · rw [List.getElem?_append_left hj] at hr
                obtain ⟨u, hu, hru⟩ := hx1 j k t (by simp [hr, hk'])
                have hrl := hf1.2.1 r (List.mem_of_getElem? hr)
                have hm2 := Nat.mul_le_mul_right L.sz (show j + 1 ≤ xs.length by omega)
                rw [Nat.add_mul] at hm2
                refine ⟨u, hw.cell hu (.inr (.inl ?_)), .ri (hru.mono (fun _ _ h => h) hsame)⟩
                rw [← hLs] at hrl
                rw [← hLs]
                simp only
                omega
              · rw [List.getElem?_append_right (by omega)] at hr
                obtain ⟨u, hu, hru⟩ := hf2.2.2 (j - xs.length) k t (by simp [hr, hk'])
                have hb : L.base + off * L.sz + xs.length * i.size + 0 + vs.length ≤ c0.size := by rw [hvl, ← hLs, ← hshape]; simp only [Nat.add_mul] at hmul hfit; omega
                have hnew := hw.new hc0 hb hu
                refine ⟨u, ?_, .ri (hru.mono (fun _ _ h => h) hsame)⟩
                rw [← hnew]
                congr 2
                rw [← hLs, Nat.sub_mul]
                have := Nat.mul_le_mul_right L.sz (show xs.length ≤ j by omega)
                simp only
                omega
          have had := hwk.adopt ⟨L.blk, L.base + off * L.sz, L.sz, true⟩ (.lst i.size (xs ++ ys)) (by simp) hother hbnot hown (.inr ⟨_, if_pos rfl, rfl, hLs, hpos, hrows, hinall⟩)
          simp only [List.length_set] at had
          refine ⟨_, w', _, S, hexec _ _ hrun, had, .one ?_⟩
          have := RT.sl (S := S) (id := σ.hp.length) (off := 0) (len := xs.length + ys.length) (cap := cap1) (a := ⟨L.blk, L.base + off * L.sz, none⟩) (L := ⟨L.blk, L.base + off * L.sz, L.sz, true⟩)
            (ρ := fun j => if j = σ.hp.length then some ⟨L.blk, L.base + off * L.sz, L.sz, true⟩ else ρ j) (w := w') (e := e') (n := n') (if_pos rfl) hroom (hw.shape hs)
            (.inr ⟨by simp, by simp only [Nat.add_mul] at hfit ⊢; omega⟩)
          rw [List.length_append]
          exact this
    | _ => simp [tail?] at htail
  · -- more room
    have hfl := hf1.append hf2
    let arr := us.toArray ++ vs.toArray ++ Builtin.zeroCells zv.cells (grownCap w (xs.length + ys.length) cap1 e - (xs.length + ys.length))
    have hrun := run_append_more (P := P) (w := w) (ty := o.type) ht hi hzv (hr1 w.drew rfl cap1) (hr2 w.drew rfl cap2) hroom hlen hby
    have hsz : arr.size = grownCap w (xs.length + ys.length) cap1 e * i.size := by
      have h1 := hf1.1
      have h2 := hf2.1
      have h3 := le_grownCap (w := w) (n := xs.length + ys.length) (c := cap1) (e := e)
      simp only [arr, Array.size_append, List.size_toArray, zeroCells_get, hzs, h1, h2, ← Nat.add_mul]
      congr 1
      omega
    have hp := hk.drew.push arr e (.lst i.size (xs ++ ys)) (by simp) i.size true
      ⟨rfl, rfl, hpos, by rw [hsz]; exact Nat.mul_le_mul_right _ (by simpa using le_grownCap), hfl.2.1, hinall, fun j k t ht => by
        obtain ⟨u, hu, hru⟩ := hfl.2.2 j k t ht
        refine ⟨u, ?_, .ri (hru.mono (fun _ _ h => h) (fun _ _ _ => rfl))⟩
        have hlt := (List.getElem?_eq_some_iff.1 hu).1
        simp only [arr]
        rw [Array.getElem?_append_left (by simpa using hlt)]
        simpa using hu⟩
    simp only [hkl] at hp
    refine ⟨_, _, _, S, hexec _ _ hrun, hp, .one ?_⟩
    have := RT.sl (S := S) (id := σ.hp.length) (off := 0) (len := xs.length + ys.length) (cap := grownCap w (xs.length + ys.length) cap1 e) (a := ⟨w.heap.size, 0, none⟩) (L := ⟨w.heap.size, 0, i.size, true⟩)
      (ρ := fun j => if j = σ.hp.length then some ⟨w.drew.heap.size, 0, i.size, true⟩ else ρ j) (w := { w.drew with heap := w.drew.heap.push (.cells arr e) }) (e := e) (n := arr.size) (if_pos rfl) le_grownCap
      (shape_push _ _ _) (.inr ⟨by simp, by rw [hsz]; simp⟩)
    rw [List.length_append]
    exact this

end
end Go.Zq
