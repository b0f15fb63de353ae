/- Whole code over open terms. -/
import Derived.Test.YtilfpkfifdhhdaaZqSym2
set_option linter.unusedVariables false
set_option linter.unusedSimpArgs false
namespace Go.Zq
open Go

inductive Tr where
  | leaf (σ : St)
  | br (b : Bool) (x y : Tr)
def Tr.st : Tr → St
  | .leaf σ => σ
  | .br b x y => bif b then x.st else y.st
def Tr.All (P : St → Prop) : Tr → Prop
  | .leaf σ => P σ
  | .br _ x y => x.All P ∧ y.All P
theorem Tr.All.st {P : St → Prop} : ∀ {t : Tr}, t.All P → P t.st
  | .leaf σ, h => h
  | .br b x y, h => by
    cases b
    · exact Tr.All.st (t := y) h.2
    · exact Tr.All.st (t := x) h.1
theorem Tr.All.mono {P P' : St → Prop} (hp : ∀ σ, P σ → P' σ) : ∀ {t : Tr}, t.All P → t.All P'
  | .leaf σ, h => hp σ h
  | .br b x y, h => ⟨Tr.All.mono hp (t := x) h.1, Tr.All.mono hp (t := y) h.2⟩

inductive Ex where
  | ret
  | brk (id : Nat)
def Ex.out : Ex → St → Out
  | .ret, σ => .ret σ
  | .brk id, σ => .brk id σ

/-- What comes of a statement: ways out, the first whose condition holds; else on. -/
structure O where
  ex : List (Ex × Bool × Tr)
  nor : Option Tr

def denL : List (Ex × Bool × Tr) → Option Tr → Option Out
  | [], none => none
  | [], some t => some (.nor t.st)
  | (k, b, t) :: r, n => bif b then some (k.out t.st) else denL r n
def O.den (o : O) : Option Out := denL o.ex o.nor
structure O.All (P : St → Prop) (o : O) : Prop where
  ex : ∀ e ∈ o.ex, e.2.2.All P
  nor : ∀ t, o.nor = some t → t.All P
theorem O.All.mono {P P' : St → Prop} (hp : ∀ σ, P σ → P' σ) {o : O} (h : o.All P) : o.All P' := ⟨fun e he => (h.ex e he).mono hp, fun t ht => (h.nor t ht).mono hp⟩

inductive LeOut : Out → Out → Prop where
  | nor {σ σ' : St} (h : Le σ σ') : LeOut (.nor σ) (.nor σ')
  | brk {id : Nat} {σ σ' : St} (h : Le σ σ') : LeOut (.brk id σ) (.brk id σ')
  | ret {σ σ' : St} (h : Le σ σ') : LeOut (.ret σ) (.ret σ')
theorem LeOut.refl : ∀ {o : Out}, LeOut o o
  | .nor _ => .nor .rfl
  | .brk _ _ => .brk .rfl
  | .ret _ => .ret .rfl
theorem LeOut.trans {a b c : Out} (h : LeOut a b) (k : LeOut b c) : LeOut a c := by
  cases h <;> cases k
  · exact .nor (Le.trans ‹_› ‹_›)
  · exact .brk (Le.trans ‹_› ‹_›)
  · exact .ret (Le.trans ‹_› ‹_›)

/-! The two states behind a branch as one. asg: what may have been set (none: anything); quiet: the heap is as it was. -/
def inAsg (asg : Option (List Nat)) (n : Nat) : Bool := match asg with | some l => l.contains n | none => true
def mergeSl (b : Bool) (asg : Option (List Nat)) (s1 s2 : List (Nat × SV)) : List Nat → List (Nat × SV)
  | [] => []
  | n :: r =>
    match lookup n s1 with
    | none => mergeSl b asg s1 s2 r
    | some v =>
      match lookup n s2 with
      | none => mergeSl b asg s1 s2 r
      | some u =>
        if inAsg asg n = true then
          match mergeSV b v u with
          | some m => (n, m) :: mergeSl b asg s1 s2 r
          | none => mergeSl b asg s1 s2 r
        else (n, v) :: mergeSl b asg s1 s2 r
def mergeSt (b : Bool) (asg : Option (List Nat)) (quiet : Bool) (σ1 σ2 : St) : Option St :=
  (if quiet then some σ1.hp else mergeHp b σ1.hp σ2.hp).map fun hp => ⟨mergeSl b asg σ1.sl σ2.sl (σ1.sl.map (·.1)), hp⟩

/-- What may be said of a state behind code. -/
structure Fr (asg : Option (List Nat)) (quiet : Bool) (σ0 σ : St) : Prop where
  sl : ∀ l, asg = some l → ∀ n v, n ∉ l → lookup n σ.sl = some v → lookup n σ0.sl = some v
  hp : quiet = true → σ.hp = σ0.hp

theorem mergeSl_lookup {b : Bool} {asg : Option (List Nat)} {s1 s2 : List (Nat × SV)} {n : Nat} {v : SV} : ∀ {l : List Nat}, lookup n (mergeSl b asg s1 s2 l) = some v →
    ∃ x y, lookup n s1 = some x ∧ lookup n s2 = some y ∧ ((inAsg asg n = true ∧ mergeSV b x y = some v) ∨ (inAsg asg n = false ∧ v = x))
  | [], h => by simp [mergeSl, lookup] at h
  | m :: r, h => by
    unfold mergeSl at h
    cases hx : lookup m s1 with
    | none => simp only [hx] at h; exact mergeSl_lookup h
    | some x =>
      cases hy : lookup m s2 with
      | none => simp only [hx, hy] at h; exact mergeSl_lookup h
      | some y =>
        simp only [hx, hy] at h
        by_cases hc : inAsg asg m = true
        · rw [if_pos hc] at h
          cases hz : mergeSV b x y with
          | none => simp only [hz] at h; exact mergeSl_lookup h
          | some z =>
            simp only [hz, lookup] at h
            by_cases e : m = n
            · rw [if_pos e] at h
              subst e
              obtain rfl := Option.some.inj h
              exact ⟨x, y, hx, hy, .inl ⟨hc, hz⟩⟩
            · rw [if_neg e] at h
              exact mergeSl_lookup h
        · rw [if_neg hc] at h
          simp only [lookup] at h
          by_cases e : m = n
          · rw [if_pos e] at h
            subst e
            obtain rfl := Option.some.inj h
            exact ⟨x, y, hx, hy, .inr ⟨by simpa using hc, rfl⟩⟩
          · rw [if_neg e] at h
            exact mergeSl_lookup h
theorem inAsg_some {l : List Nat} {n : Nat} : inAsg (some l) n = true ↔ n ∈ l := by simp [inAsg]

theorem mergeSt_le {b : Bool} {asg : Option (List Nat)} {quiet : Bool} {σ0 σ1 σ2 σ : St} (h : mergeSt b asg quiet σ1 σ2 = some σ) (h1 : Fr asg quiet σ0 σ1) (h2 : Fr asg quiet σ0 σ2) : Le σ (bif b then σ1 else σ2) := by
  simp only [mergeSt, Option.map_eq_some_iff] at h
  obtain ⟨hp, hh, rfl⟩ := h
  constructor
  · intro n v hn
    obtain ⟨x, y, hx, hy, ⟨-, hm⟩ | ⟨hnl, rfl⟩⟩ := mergeSl_lookup hn
    · rw [mergeSV_eq hm]
      cases b
      · exact hy
      · exact hx
    · cases b
      · cases asg with
        | none => simp [inAsg] at hnl
        | some l =>
          have hnl' : n ∉ l := fun e => by rw [inAsg_some.2 e] at hnl; simp at hnl
          have e1 := h1.sl l rfl n _ hnl' hx
          have e2 := h2.sl l rfl n _ hnl' hy
          rw [e1] at e2
          obtain rfl := Option.some.inj e2
          exact hy
      · exact hx
  · split at hh
    · rename_i hq
      obtain rfl := Option.some.inj hh
      cases b
      · exact (h2.hp hq).trans (h1.hp hq).symm
      · rfl
    · rw [mergeHp_eq hh]
      cases b <;> rfl
theorem mergeSt_fr {b : Bool} {asg : Option (List Nat)} {quiet : Bool} {σ0 σ1 σ2 σ : St} (h : mergeSt b asg quiet σ1 σ2 = some σ) (h1 : Fr asg quiet σ0 σ1) : Fr asg quiet σ0 σ := by
  simp only [mergeSt, Option.map_eq_some_iff] at h
  obtain ⟨hp, hh, rfl⟩ := h
  constructor
  · intro l hl n v hn hv
    obtain ⟨x, y, hx, hy, ⟨hnl, -⟩ | ⟨-, rfl⟩⟩ := mergeSl_lookup hv
    · subst hl
      exact absurd (inAsg_some.1 hnl) hn
    · exact h1.sl l hl n _ hn hx
  · intro hq
    rw [if_pos hq] at hh
    obtain rfl := Option.some.inj hh
    exact h1.hp hq

def joinTr (mg : Bool → St → St → Option St) (b : Bool) : Tr → Tr → Tr
  | .leaf σ1, .leaf σ2 => match mg b σ1 σ2 with
    | some σ => .leaf σ
    | none => .br b (.leaf σ1) (.leaf σ2)
  | x, y => .br b x y
structure MgOk (mg : Bool → St → St → Option St) (P : St → Prop) : Prop where
  le : ∀ b σ1 σ2 σ, P σ1 → P σ2 → mg b σ1 σ2 = some σ → Le σ (bif b then σ1 else σ2)
  all : ∀ b σ1 σ2 σ, P σ1 → P σ2 → mg b σ1 σ2 = some σ → P σ
theorem joinTr_le {mg : Bool → St → St → Option St} {P : St → Prop} (hm : MgOk mg P) {b : Bool} {x y : Tr} (hx : x.All P) (hy : y.All P) : Le (joinTr mg b x y).st (bif b then x.st else y.st) := by
  unfold joinTr
  split
  · split
    · rename_i h
      exact hm.le _ _ _ _ hx hy h
    · exact .rfl
  · exact .rfl
theorem joinTr_all {mg : Bool → St → St → Option St} {P : St → Prop} (hm : MgOk mg P) {b : Bool} {x y : Tr} (hx : x.All P) (hy : y.All P) : (joinTr mg b x y).All P := by
  unfold joinTr
  split
  · split
    · rename_i h
      exact hm.all _ _ _ _ hx hy h
    · exact ⟨hx, hy⟩
  · exact ⟨hx, hy⟩

def joinNor (mg : Bool → St → St → Option St) (b : Bool) : Option Tr → Option Tr → Option Tr
  | none, t => t
  | some t, none => some t
  | some x, some y => some (joinTr mg b x y)
def joinO (mg : Bool → St → St → Option St) (b : Bool) (o1 o2 : O) : O :=
  ⟨o1.ex.map (fun e => (e.1, e.2.1 && b, e.2.2)) ++ o2.ex.map (fun e => (e.1, e.2.1 && !b, e.2.2)), joinNor mg b o1.nor o2.nor⟩

theorem denL_off : ∀ {l : List (Ex × Bool × Tr)} {l' : List (Ex × Bool × Tr)} {n : Option Tr}, (∀ e ∈ l, e.2.1 = false) → denL (l ++ l') n = denL l' n
  | [], l', n, h => rfl
  | e :: r, l', n, h => by
    have he := h e (List.mem_cons_self ..)
    obtain ⟨k, b, t⟩ := e
    simp only at he
    subst he
    simp only [List.cons_append, denL, cond_false]
    exact denL_off fun e he => h e (List.mem_cons_of_mem _ he)
theorem denL_append : ∀ {l l' : List (Ex × Bool × Tr)} {n m : Option Tr} {out : Out}, (∀ t, n = some t → denL l' m = none → False) → denL l n = some out → (∃ k σ, out = Ex.out k σ ∧ denL (l ++ l') m = some out) ∨ (∃ t, n = some t ∧ out = .nor t.st ∧ denL (l ++ l') m = denL l' m)
  | [], l', none, m, out, hh, h => by simp [denL] at h
  | [], l', some t, m, out, hh, h => by
    simp only [denL, Option.some.injEq] at h
    exact .inr ⟨t, rfl, h.symm, rfl⟩
  | (k, b, t) :: r, l', n, m, out, hh, h => by
    cases b
    · simp only [denL, cond_false] at h
      simp only [List.cons_append, denL, cond_false]
      exact denL_append hh h
    · simp only [denL, cond_true, Option.some.injEq] at h
      subst h
      exact .inl ⟨k, t.st, rfl, by simp [denL]⟩

theorem denL_map {l l' : List (Ex × Bool × Tr)} {n n' : Option Tr} {f : Bool → Bool} (hf : ∀ b, f b = b) {out : Out} (h : denL l n = some out) (hl : ∀ e ∈ l', e.2.1 = false) (hn : ∀ t, n = some t → ∃ t', n' = some t' ∧ Le t'.st t.st) :
    ∃ out', denL (l.map (fun e => (e.1, f e.2.1, e.2.2)) ++ l') n' = some out' ∧ LeOut out' out := by
  induction l with
  | nil =>
    rw [List.map_nil, List.nil_append]
    have := denL_off (l' := []) (n := n') hl
    rw [List.append_nil] at this
    rw [this]
    cases n with
    | none => simp [denL] at h
    | some t =>
      simp only [denL, Option.some.injEq] at h
      subst h
      obtain ⟨t', rfl, ht⟩ := hn t rfl
      exact ⟨_, rfl, .nor ht⟩
  | cons e r ih =>
    obtain ⟨k, b, t⟩ := e
    cases b
    · simp only [denL, cond_false] at h
      simp only [List.map_cons, List.cons_append, denL]
      rw [hf]
      exact ih h
    · simp only [denL, cond_true] at h
      simp only [List.map_cons, List.cons_append, denL]
      rw [hf]
      exact ⟨_, h, .refl⟩

theorem joinO_den {mg : Bool → St → St → Option St} {P : St → Prop} (hm : MgOk mg P) {b : Bool} {o1 o2 : O} (h1 : o1.All P) (h2 : o2.All P) {out : Out} (h : (bif b then o1.den else o2.den) = some out) :
    ∃ out', (joinO mg b o1 o2).den = some out' ∧ LeOut out' out := by
  cases b
  · simp only [cond_false] at h
    unfold O.den joinO at *
    simp only
    rw [denL_off (by intro e he; obtain ⟨e', -, rfl⟩ := List.mem_map.1 he; simp)]
    have := denL_map (l' := []) (n' := joinNor mg false o1.nor o2.nor) (f := fun b => b && !false) (by simp) h (by simp) (fun t ht => by
      rw [ht]
      cases hn : o1.nor with
      | none => exact ⟨t, rfl, .rfl⟩
      | some t1 => exact ⟨_, rfl, joinTr_le hm (h1.nor _ hn) (h2.nor _ ht)⟩)
    rwa [List.append_nil] at this
  · simp only [cond_true] at h
    unfold O.den joinO at *
    simp only
    exact denL_map (f := fun b => b && true) (by simp) h (by intro e he; obtain ⟨e', -, rfl⟩ := List.mem_map.1 he; simp) (fun t ht => by
      rw [ht]
      cases hn : o2.nor with
      | none => exact ⟨t, rfl, .rfl⟩
      | some t2 => exact ⟨_, rfl, joinTr_le hm (h1.nor _ ht) (h2.nor _ hn)⟩)
theorem joinO_all {mg : Bool → St → St → Option St} {P : St → Prop} (hm : MgOk mg P) {b : Bool} {o1 o2 : O} (h1 : o1.All P) (h2 : o2.All P) : (joinO mg b o1 o2).All P := by
  constructor
  · intro e he
    simp only [joinO, List.mem_append, List.mem_map] at he
    rcases he with ⟨e', he', rfl⟩ | ⟨e', he', rfl⟩
    · exact h1.ex e' he'
    · exact h2.ex e' he'
  · intro t ht
    simp only [joinO] at ht
    cases hn1 : o1.nor with
    | none => rw [hn1] at ht; exact h2.nor t ht
    | some t1 =>
      cases hn2 : o2.nor with
      | none => rw [hn1, hn2] at ht; obtain rfl := Option.some.inj ht; exact h1.nor _ hn1
      | some t2 => rw [hn1, hn2] at ht; obtain rfl := Option.some.inj ht; exact joinTr_all hm (h1.nor _ hn1) (h2.nor _ hn2)

/-! One behind the other. -/
def mgAll (b : Bool) (σ1 σ2 : St) : Option St := mergeSt b none false σ1 σ2
theorem mgAll_ok : MgOk mgAll (fun _ => True) := ⟨fun b σ1 σ2 σ _ _ h => mergeSt_le (σ0 := σ) h ⟨by simp, by simp⟩ ⟨by simp, by simp⟩, fun _ _ _ _ _ _ _ => trivial⟩
theorem O.All.triv (o : O) : o.All fun _ => True := by
  have : ∀ t : Tr, t.All fun _ => True := by
    intro t
    induction t with
    | leaf => trivial
    | br b x y ihx ihy => exact ⟨ihx, ihy⟩
  exact ⟨fun e _ => this _, fun t _ => this t⟩

def evTr (f : St → Option (O × Bool)) : Tr → Option (O × Bool)
  | .leaf σ => f σ
  | .br b x y => (evTr f x).bind fun r1 => (evTr f y).bind fun r2 => some (joinO mgAll b r1.1 r2.1, (r1.2 || !b) && (r2.2 || b))
def orEx : List (Ex × Bool × Tr) → Bool → Bool
  | [], ok => ok
  | e :: r, ok => orEx r ok || e.2.1
def thenO (r : O × Bool) (f : St → Option (O × Bool)) : Option (O × Bool) :=
  match r.1.nor with
  | none => some r
  | some t => (evTr f t).bind fun r2 => some (⟨r.1.ex ++ r2.1.ex, r2.1.nor⟩, r.2 && orEx r.1.ex r2.2)

/-- What is told is what is computed. -/
def Tells (f : St → Option (O × Bool)) (g : St → Option Out) : Prop := ∀ σ σr o, f σ = some (o, true) → Le σ σr → ∃ out0 out, o.den = some out0 ∧ g σr = some out ∧ LeOut out0 out

theorem evTr_tells {f : St → Option (O × Bool)} {g : St → Option Out} (hf : Tells f g) : ∀ {t : Tr} {σr : St} {o : O}, evTr f t = some (o, true) → Le t.st σr → ∃ out0 out, o.den = some out0 ∧ g σr = some out ∧ LeOut out0 out
  | .leaf σ, σr, o, h, hl => hf σ σr o h hl
  | .br b x y, σr, o, h, hl => by
    simp only [evTr, Option.bind_eq_some_iff, Option.some.injEq, Prod.mk.injEq, Bool.and_eq_true, Bool.or_eq_true] at h
    obtain ⟨r1, h1, r2, h2, rfl, k1, k2⟩ := h
    cases b
    · have k : r2.2 = true := by simpa using k2
      obtain ⟨out0, out, a1, a2, a3⟩ := evTr_tells hf (t := y) (σr := σr) (o := r2.1) (by rw [h2, ← k]) hl
      obtain ⟨out', b1, b2⟩ := joinO_den (b := false) (o1 := r1.1) mgAll_ok (.triv _) (.triv _) a1
      exact ⟨out', out, b1, a2, b2.trans a3⟩
    · have k : r1.2 = true := by simpa using k1
      obtain ⟨out0, out, a1, a2, a3⟩ := evTr_tells hf (t := x) (σr := σr) (o := r1.1) (by rw [h1, ← k]) hl
      obtain ⟨out', b1, b2⟩ := joinO_den (b := true) (o2 := r2.1) mgAll_ok (.triv _) (.triv _) a1
      exact ⟨out', out, b1, a2, b2.trans a3⟩

theorem orEx_true : ∀ {l : List (Ex × Bool × Tr)} {ok : Bool} {t : Tr} {out : Out}, orEx l ok = true → denL l (some t) = some out → (∃ σ, out = .nor σ) → ok = true
  | [], ok, t, out, h, hd, hn => h
  | (k, b, u) :: r, ok, t, out, h, hd, hn => by
    cases b
    · simp only [orEx, Bool.or_false] at h
      simp only [denL, cond_false] at hd
      exact orEx_true h hd hn
    · simp only [denL, cond_true, Option.some.injEq] at hd
      obtain ⟨σ, rfl⟩ := hn
      cases k <;> simp [Ex.out] at hd
theorem denL_cases : ∀ {l : List (Ex × Bool × Tr)} {n : Option Tr} {out : Out}, denL l n = some out → (∃ k σ, out = Ex.out k σ ∧ ∀ l' m, denL (l ++ l') m = some out) ∨ (∃ t, n = some t ∧ out = .nor t.st ∧ ∀ l' m, denL (l ++ l') m = denL l' m)
  | [], none, out, h => by simp [denL] at h
  | [], some t, out, h => by
    simp only [denL, Option.some.injEq] at h
    exact .inr ⟨t, rfl, h.symm, fun _ _ => rfl⟩
  | (k, b, t) :: r, n, out, h => by
    cases b
    · simp only [denL, cond_false] at h
      simp only [List.cons_append, denL, cond_false]
      exact denL_cases h
    · simp only [denL, cond_true, Option.some.injEq] at h
      subst h
      exact .inl ⟨k, t.st, rfl, fun l' m => by simp [denL]⟩

/-- The same for what comes behind. -/
theorem thenO_tells {r : O × Bool} {f : St → Option (O × Bool)} {g : St → Option Out} (hf : Tells f g) {o : O} (h : thenO r f = some (o, true)) {out0 out : Out} (hd : r.2 = true → r.1.den = some out0 ∧ LeOut out0 out) :
    ∃ out0' out', o.den = some out0' ∧ (match out with | .nor σ => g σ | o => some o) = some out' ∧ LeOut out0' out' := by
  unfold thenO at h
  split at h
  · rename_i hn
    obtain ⟨rfl, hr⟩ : r.1 = o ∧ r.2 = true := by
      have := Option.some.inj h
      rw [this]; exact ⟨rfl, rfl⟩
    obtain ⟨hden, hl⟩ := hd hr
    refine ⟨out0, out, hden, ?_, hl⟩
    unfold O.den at hden
    cases hl with
    | nor hl =>
      rcases denL_cases hden with ⟨k, σ, e, -⟩ | ⟨t, e, -⟩
      · cases k <;> simp [Ex.out] at e
      · rw [hn] at e; simp at e
    | brk hl => rfl
    | ret hl => rfl
  · rename_i t hn
    simp only [Option.bind_eq_some_iff, Option.some.injEq, Prod.mk.injEq, Bool.and_eq_true] at h
    obtain ⟨r2, h2, rfl, k1, k2⟩ := h
    obtain ⟨hden, hl⟩ := hd k1
    unfold O.den at hden
    rcases denL_cases hden with ⟨k, σ, rfl, e⟩ | ⟨t', e1, rfl, e2⟩
    · refine ⟨Ex.out k σ, out, e _ _, ?_, hl⟩
      cases k <;> cases hl <;> rfl
    · rw [hn] at e1 hden
      obtain rfl := Option.some.inj e1
      cases hl with
      | nor hl =>
        have hok := orEx_true k2 hden ⟨_, rfl⟩
        obtain ⟨o0, o1, a1, a2, a3⟩ := evTr_tells hf (t := t) (o := r2.1) (by rw [h2, ← hok]) hl
        exact ⟨o0, o1, by unfold O.den; rw [e2]; exact a1, a2, a3⟩
end Go.Zq
