/- Whole functions over open terms. -/
import Derived.Test.YtilfpkfifdhhdaaZqSym3
set_option linter.unusedVariables false
set_option linter.unusedSimpArgs false
namespace Go.Zq
open Go

theorem mgAll_fr {a : Option (List Nat)} {q : Bool} {σ0 : St} : MgOk mgAll (Fr a q σ0) where
  le b σ1 σ2 σ _ _ h := mgAll_ok.le b σ1 σ2 σ trivial trivial h
  all b σ1 σ2 σ h1 h2 h := by
    have hle := mgAll_ok.le b σ1 σ2 σ trivial trivial h
    cases b
    · exact ⟨fun l hl n v hn hv => h2.sl l hl n v hn (hle.sl n v hv), fun hq => hle.hp.symm.trans (h2.hp hq)⟩
    · exact ⟨fun l hl n v hn hv => h1.sl l hl n v hn (hle.sl n v hv), fun hq => hle.hp.symm.trans (h1.hp hq)⟩

def unO (a b : Option (List Nat)) : Option (List Nat) :=
  match a, b with
  | some x, some y => some (x ++ y)
  | _, _ => none
def asgC : C → Option (List Nat)
  | .ops l _ => some (l.flatMap fun g => g.2.dsts)
  | .seq x y => unO (asgC x) (asgC y)
  | .cond _ x y => unO (asgC x) (asgC y)
  | .blk _ x => asgC x
  | .loop _ _ => none
  | .drw (l :: _) _ false => some (l.flatMap fun g => g.2.dsts)
  | .drw _ _ _ => none
  | _ => some []
def quietC : C → Bool
  | .ops l _ => l.all fun g => quietK g.2
  | .seq x y => quietC x && quietC y
  | .cond _ x y => quietC x && quietC y
  | .blk _ x => quietC x
  | .loop _ _ => false
  | .drw .. => false
  | _ => true

theorem Fr.rfl {a : Option (List Nat)} {q : Bool} {σ : St} : Fr a q σ σ := ⟨fun _ _ _ _ _ h => h, fun _ => Eq.refl _⟩
theorem Fr.left {a b : Option (List Nat)} {q r : Bool} {σ τ : St} (h : Fr a q σ τ) : Fr (unO a b) (q && r) σ τ := ⟨fun l hl n v hn hv => by
  unfold unO at hl
  split at hl
  · obtain rfl := Option.some.inj hl
    simp only [List.mem_append, not_or] at hn
    exact h.sl _ (Eq.refl _) n v hn.1 hv
  · simp at hl, fun hq => h.hp (by simp at hq; exact hq.1)⟩
theorem Fr.right {a b : Option (List Nat)} {q r : Bool} {σ τ : St} (h : Fr b r σ τ) : Fr (unO a b) (q && r) σ τ := ⟨fun l hl n v hn hv => by
  unfold unO at hl
  split at hl
  · obtain rfl := Option.some.inj hl
    simp only [List.mem_append, not_or] at hn
    exact h.sl _ (Eq.refl _) n v hn.2 hv
  · simp at hl, fun hq => h.hp (by simp at hq; exact hq.2)⟩
theorem Fr.trans {a b : Option (List Nat)} {q r : Bool} {σ τ ω : St} (h : Fr a q σ τ) (k : Fr b r τ ω) : Fr (unO a b) (q && r) σ ω := ⟨fun l hl n v hn hv => by
  unfold unO at hl
  split at hl
  · obtain rfl := Option.some.inj hl
    simp only [List.mem_append, not_or] at hn
    exact h.sl _ (Eq.refl _) n v hn.1 (k.sl _ (Eq.refl _) n v hn.2 hv)
  · simp at hl, fun hq => by
  simp only [Bool.and_eq_true] at hq
  exact (k.hp hq.2).trans (h.hp hq.1)⟩

theorem evTr_all {a : Option (List Nat)} {q : Bool} {σ0 : St} {f : St → Option (O × Bool)} : ∀ {t : Tr} {r : O × Bool}, (∀ σ r, f σ = some r → t.All (fun _ => True) → r.1.All (Fr a q σ)) → evTr f t = some r → ∀ {a0 : Option (List Nat)} {q0 : Bool}, t.All (Fr a0 q0 σ0) → r.1.All (Fr (unO a0 a) (q0 && q) σ0)
  | .leaf σ, r, hf, h, a0, q0, ht => (hf σ r h trivial).mono fun τ hτ => Fr.trans ht hτ
  | .br b x y, r, hf, h, a0, q0, ht => by
    have htr : ∀ t : Tr, t.All fun _ => True := by
      intro t
      induction t with
      | leaf => trivial
      | br b x y ihx ihy => exact ⟨ihx, ihy⟩
    simp only [evTr, Option.bind_eq_some_iff, Option.some.injEq] at h
    obtain ⟨r1, h1, r2, h2, rfl⟩ := h
    exact joinO_all mgAll_fr (evTr_all (fun σ r h _ => hf σ r h (htr _)) h1 ht.1) (evTr_all (fun σ r h _ => hf σ r h (htr _)) h2 ht.2)

theorem thenO_all {a a0 : Option (List Nat)} {q q0 : Bool} {σ0 : St} {f : St → Option (O × Bool)} {r r' : O × Bool} (hf : ∀ σ r, f σ = some r → r.1.All (Fr a q σ)) (hr : r.1.All (Fr a0 q0 σ0)) (h : thenO r f = some r') : r'.1.All (Fr (unO a0 a) (q0 && q) σ0) := by
  unfold thenO at h
  split at h
  · obtain rfl := Option.some.inj h
    exact hr.mono fun _ h => h.left
  · rename_i t hn
    simp only [Option.bind_eq_some_iff, Option.some.injEq] at h
    obtain ⟨r2, h2, rfl⟩ := h
    have h3 := evTr_all (fun σ r h _ => hf σ r h) h2 (hr.nor t hn)
    refine ⟨fun e he => ?_, h3.nor⟩
    simp only [List.mem_append] at he
    rcases he with he | he
    · exact (hr.ex e he).mono fun _ h => h.left
    · exact h3.ex e he

/-- Breaks out of a block lead on behind it. -/
def unbrk (mg : Bool → St → St → Option St) (id : Nat) : List (Ex × Bool × Tr) → Option Tr → List (Ex × Bool × Tr) × Option Tr
  | [], n => ([], n)
  | (k, p, t) :: r, n =>
    match k with
    | .ret => let q := unbrk mg id r n; ((.ret, p, t) :: q.1, q.2)
    | .brk j =>
      if j = id then let q := unbrk mg id r n; (q.1.map (fun e => (e.1, e.2.1 && !p, e.2.2)), joinNor mg p (some t) q.2)
      else let q := unbrk mg id r n; ((.brk j, p, t) :: q.1, q.2)
def blkOut (id : Nat) : Out → Out
  | .brk j σ => if j = id then .nor σ else .brk j σ
  | o => o

theorem unbrk_all {mg : Bool → St → St → Option St} {P : St → Prop} (hm : MgOk mg P) {id : Nat} : ∀ {l : List (Ex × Bool × Tr)} {n : Option Tr}, (O.mk l n).All P → (O.mk (unbrk mg id l n).1 (unbrk mg id l n).2).All P
  | [], n, h => h
  | (k, p, t) :: r, n, h => by
    have ih := unbrk_all hm (id := id) (l := r) (n := n) ⟨fun e he => h.ex e (List.mem_cons_of_mem _ he), h.nor⟩
    have ht : t.All P := h.ex _ (List.mem_cons_self ..)
    unfold unbrk
    split
    · refine ⟨fun e he => ?_, ih.nor⟩
      simp only [List.mem_cons] at he
      rcases he with rfl | he
      · exact ht
      · exact ih.ex e he
    · split
      · refine ⟨fun e he => ?_, fun u hu => ?_⟩
        · obtain ⟨e', he', rfl⟩ := List.mem_map.1 he
          exact ih.ex e' he'
        · simp only at hu
          cases hn : (unbrk mg id r n).2 with
          | none => rw [hn] at hu; obtain rfl := Option.some.inj hu; exact ht
          | some t2 => rw [hn] at hu; obtain rfl := Option.some.inj hu; exact joinTr_all hm ht (ih.nor _ hn)
      · refine ⟨fun e he => ?_, ih.nor⟩
        simp only [List.mem_cons] at he
        rcases he with rfl | he
        · exact ht
        · exact ih.ex e he

theorem unbrk_den {mg : Bool → St → St → Option St} {P : St → Prop} (hm : MgOk mg P) {id : Nat} : ∀ {l : List (Ex × Bool × Tr)} {n : Option Tr} {out : Out}, (O.mk l n).All P → denL l n = some out → ∃ out', denL (unbrk mg id l n).1 (unbrk mg id l n).2 = some out' ∧ LeOut out' (blkOut id out)
  | [], none, out, h, hd => by simp [denL] at hd
  | [], some t, out, h, hd => by
    simp only [denL, Option.some.injEq] at hd
    subst hd
    exact ⟨_, rfl, .refl⟩
  | (k, p, t) :: r, n, out, h, hd => by
    have hr : (O.mk r n).All P := ⟨fun e he => h.ex e (List.mem_cons_of_mem _ he), h.nor⟩
    have ha := unbrk_all hm (id := id) hr
    have ht : t.All P := h.ex _ (List.mem_cons_self ..)
    unfold unbrk
    cases p
    · simp only [denL, cond_false] at hd
      obtain ⟨out', i1, i2⟩ := unbrk_den hm (id := id) hr hd
      split
      · exact ⟨out', by simp only [denL, cond_false]; exact i1, i2⟩
      · split
        · simp only
          have := denL_map (l' := []) (n' := joinNor mg false (some t) (unbrk mg id r n).2) (f := fun b => b && !false) (by simp) i1 (by simp) (fun u hu => by
            rw [hu]
            exact ⟨_, rfl, joinTr_le (b := false) hm ht (ha.nor _ hu)⟩)
          rw [List.append_nil] at this
          obtain ⟨o2, j1, j2⟩ := this
          exact ⟨o2, j1, j2.trans i2⟩
        · exact ⟨out', by simp only [denL, cond_false]; exact i1, i2⟩
    · simp only [denL, cond_true, Option.some.injEq] at hd
      subst hd
      split
      · exact ⟨_, rfl, .refl⟩
      · rename_i j
        split
        · rename_i e
          subst e
          simp only
          have := denL_off (l := (unbrk mg j r n).1.map (fun e => (e.1, e.2.1 && !true, e.2.2))) (l' := []) (n := joinNor mg true (some t) (unbrk mg j r n).2) (by intro e he; obtain ⟨e', -, rfl⟩ := List.mem_map.1 he; simp)
          rw [List.append_nil] at this
          rw [this]
          simp only [Ex.out, blkOut, if_true]
          cases hn : (unbrk mg j r n).2 with
          | none => exact ⟨_, rfl, .refl⟩
          | some t2 => exact ⟨_, rfl, .nor (joinTr_le (b := true) hm ht (ha.nor _ hn))⟩
        · rename_i e
          refine ⟨.brk j t.st, rfl, ?_⟩
          simp only [Ex.out, blkOut, e, if_false]
          exact .refl

def iterO (nb : Nat) (live : List Nat) (f : St → Option (O × Bool)) : Nat → St → Option (O × Bool)
  | 0, _ => some (⟨[], none⟩, false)
  | n + 1, σ => (canonS nb live σ).bind fun c => (f c.1).bind fun r => (thenO r (iterO nb live f n)).bind fun o => some (o.1, c.2 && o.2)

def isCl (cl : List Nat) : Opd → Bool
  | .t n => cl.contains n
  | .c _ => true

abbrev Lq := List Nat → St → Option (O × Bool)
def lqN : Lq := fun _ _ => none
/-- What is asked of all loops of a code. -/
def Loops (T : List Nat → C → Prop) : C → Prop
  | .seq x y => Loops T x ∧ Loops T y
  | .cond _ x y => Loops T x ∧ Loops T y
  | .blk _ x => Loops T x
  | .loop live x => T live x ∧ Loops T x
  | _ => True
/-! Are two states the same? What is not known is asked for as a condition. -/
noncomputable def same {α : Type} (a b : α) : Bool := @decide (a = b) (Classical.propDecidable _)
theorem same_eq {α : Type} {a b : α} (h : same a b = true) : a = b := by
  unfold same at h
  exact @of_decide_eq_true _ (Classical.propDecidable _) h
theorem same_self {α : Type} (a : α) : same a a = true := by
  unfold same
  exact @decide_eq_true _ (Classical.propDecidable _) rfl
noncomputable def sameR (a b : List Row) : Bool := same a b
theorem sameR_self (a : List Row) : sameR a a = true := same_self a
noncomputable def eqV : Value → Value → Bool
  | .int k x, .int k' y => decide (k = k') && same x y
  | .bool x, .bool y => same x y
  | .string x, .string y => same x y
  | v, u => same v u
theorem eqV_eq {v u : Value} (h : eqV v u = true) : v = u := by
  unfold eqV at h
  split at h
  · obtain ⟨h1, h2⟩ := and_t h
    rw [of_decide_eq_true h1, same_eq h2]
  · rw [same_eq h]
  · rw [same_eq h]
  · exact same_eq h
noncomputable def eqT : T → T → Bool
  | .lit v, .lit u => eqV v u
  | .ptr i r o, .ptr i' r' o' => Nat.beq i i' && (Nat.beq r r' && Nat.beq o o')
  | .sl i o l, .sl i' o' l' => Nat.beq i i' && (Nat.beq o o' && same l l')
  | .nls n, .nls m => Nat.beq n m
  | .imm p n r, .imm p' n' r' => same p p' && (Nat.beq n n' && sameR r r')
  | .clo f c, .clo f' c' => Nat.beq f f' && same c c'
  | t, u => same t u
theorem eqT_eq {v u : T} (h : eqT v u = true) : v = u := by
  unfold eqT at h
  split at h
  · rw [eqV_eq h]
  · obtain ⟨h1, h2⟩ := and_t h
    obtain ⟨h2, h3⟩ := and_t h2
    rw [Nat.eq_of_beq_eq_true h1, Nat.eq_of_beq_eq_true h2, Nat.eq_of_beq_eq_true h3]
  · obtain ⟨h1, h2⟩ := and_t h
    obtain ⟨h2, h3⟩ := and_t h2
    rw [Nat.eq_of_beq_eq_true h1, Nat.eq_of_beq_eq_true h2, same_eq h3]
  · rw [Nat.eq_of_beq_eq_true h]
  · obtain ⟨h1, h2⟩ := and_t h
    obtain ⟨h2, h3⟩ := and_t h2
    rw [same_eq h1, Nat.eq_of_beq_eq_true h2, same_eq h3]
  · obtain ⟨h1, h2⟩ := and_t h
    rw [Nat.eq_of_beq_eq_true h1, same_eq h2]
  · exact same_eq h
noncomputable def eqRw : Row → Row → Bool
  | [], [] => true
  | t :: r, u :: s => eqT t u && eqRw r s
  | _, _ => false
theorem eqRw_eq : ∀ {v u : Row}, eqRw v u = true → v = u
  | [], [], _ => rfl
  | t :: r, u :: s, h => by
    obtain ⟨h1, h2⟩ := and_t h
    rw [eqT_eq h1, eqRw_eq h2]
  | [], _ :: _, h => by simp [eqRw] at h
  | _ :: _, [], h => by simp [eqRw] at h
noncomputable def eqSV : SV → SV → Bool
  | .und, .und => true
  | .one t, .one u => eqT t u
  | .agg t, .agg u => eqRw t u
  | v, u => same v u
theorem eqSV_eq {v u : SV} (h : eqSV v u = true) : v = u := by
  unfold eqSV at h
  split at h
  · rfl
  · rw [eqT_eq h]
  · rw [eqRw_eq h]
  · exact same_eq h
noncomputable def eqSl : List (Nat × SV) → List (Nat × SV) → Bool
  | [], [] => true
  | (n, v) :: r, (m, u) :: s => Nat.beq n m && (eqSV v u && eqSl r s)
  | _, _ => false
theorem eqSl_eq : ∀ {v u : List (Nat × SV)}, eqSl v u = true → v = u
  | [], [], _ => rfl
  | (n, v) :: r, (m, u) :: s, h => by
    obtain ⟨h1, h2⟩ := and_t h
    obtain ⟨h2, h3⟩ := and_t h2
    rw [Nat.eq_of_beq_eq_true h1, eqSV_eq h2, eqSl_eq h3]
  | [], _ :: _, h => by simp [eqSl] at h
  | _ :: _, [], h => by simp [eqSl] at h
noncomputable def eqBlk : Blk → Blk → Bool
  | .dead, .dead => true
  | .box t, .box u => eqRw t u
  | .lst n t, .lst m u => Nat.beq n m && sameR t u
  | v, u => same v u
theorem eqBlk_eq {v u : Blk} (h : eqBlk v u = true) : v = u := by
  unfold eqBlk at h
  split at h
  · rfl
  · rw [eqRw_eq h]
  · obtain ⟨h1, h2⟩ := and_t h
    rw [Nat.eq_of_beq_eq_true h1, same_eq h2]
  · exact same_eq h
noncomputable def eqHp : List Blk → List Blk → Bool
  | [], [] => true
  | t :: r, u :: s => eqBlk t u && eqHp r s
  | _, _ => false
theorem eqHp_eq : ∀ {v u : List Blk}, eqHp v u = true → v = u
  | [], [], _ => rfl
  | t :: r, u :: s, h => by
    obtain ⟨h1, h2⟩ := and_t h
    rw [eqBlk_eq h1, eqHp_eq h2]
  | [], _ :: _, h => by simp [eqHp] at h
  | _ :: _, [], h => by simp [eqHp] at h
noncomputable def eqSt (σ τ : St) : Bool := eqSl σ.sl τ.sl && eqHp σ.hp τ.hp
theorem eqSt_eq {σ τ : St} (h : eqSt σ τ = true) : σ = τ := by
  obtain ⟨h1, h2⟩ := and_t h
  cases σ; cases τ
  simp only at h1 h2
  rw [eqSl_eq h1, eqHp_eq h2]

def fixS (nb : Nat) (kp : List Nat) (cn : Bool) (σ : St) : Option (St × Bool) :=
  if cn = true then canonS nb kp σ else if (kp.all fun n => (lookup n σ.sl).isSome) = true then some (trim (some kp) σ, true) else none
theorem keep_all {σ σr : St} (hl : Le σ σr) : ∀ {kp : List Nat}, (kp.all fun n => (lookup n σ.sl).isSome) = true → keep σr.sl kp = keep σ.sl kp ∧ (kp.all fun n => (lookup n σr.sl).isSome) = true
  | [], _ => ⟨rfl, rfl⟩
  | n :: r, h => by
    simp only [List.all_cons, Bool.and_eq_true] at h
    obtain ⟨h1, h2⟩ := h
    obtain ⟨v, hv⟩ := Option.isSome_iff_exists.1 h1
    have hr := hl.sl n v hv
    obtain ⟨i1, i2⟩ := keep_all hl h2
    constructor
    · simp only [keep, hv, hr, i1]
    · simp only [List.all_cons, hr, i2]; rfl
noncomputable def evDrw (Q : Qt) (kd : List (Nat × List Kd)) (nb : Nat) (kp : List Nat) (cn : Bool) : List (List G) → St → Option (St × Bool)
  | [], _ => none
  | l :: r, σ =>
    match (parse (2 * l.length + 2) none l).2 with
    | [] => (evI Q kd (parse (2 * l.length + 2) none l).1 σ).bind fun x => (fixS nb kp cn x.1).bind fun c => match r with
      | [] => some (c.1, x.2 && c.2)
      | _ :: _ => (evDrw Q kd nb kp cn r σ).bind fun c' => some (c.1, (x.2 && c.2) && (c'.2 && eqSt c'.1 c.1))
    | _ :: _ => none

noncomputable def evt (Q : Qt) (kd : List (Nat × List Kd)) (cl : List Nat) (lq : Lq) (nb n : Nat) : C → St → Option (O × Bool)
  | .drw ls kp cn, σ => (evDrw Q kd nb kp cn ls σ).bind fun r => some (⟨[], some (.leaf r.1)⟩, r.2)
  | .ops l kp, σ =>
    match (parse (2 * l.length + 2) none l).2 with
    | [] => (evI Q kd (parse (2 * l.length + 2) none l).1 σ).bind fun r => some (⟨[], some (.leaf (trim kp r.1))⟩, r.2)
    | _ :: _ => none
  | .seq x y, σ => (evt Q kd cl lq nb n x σ).bind fun r => thenO r (evt Q kd cl lq nb n y)
  | .cond c x y, σ => (σ.ev c).bind fun v => (asBool v).bind fun b =>
    if isCl cl c = true then match b with
      | true => evt Q kd cl lq nb n x σ
      | false => evt Q kd cl lq nb n y σ
    else (evt Q kd cl lq nb n x σ).bind fun r1 => (evt Q kd cl lq nb n y σ).bind fun r2 =>
      some (joinO (fun b => mergeSt b (unO (asgC x) (asgC y)) (quietC x && quietC y)) b r1.1 r2.1, (r1.2 || !b) && (r2.2 || b))
  | .blk id x, σ => (evt Q kd cl lq nb n x σ).bind fun r =>
    let q := unbrk (fun b => mergeSt b (asgC x) (quietC x)) id r.1.ex r.1.nor
    some (⟨q.1, q.2⟩, r.2)
  | .loop live x, σ => match lq live σ with
    | some r => some r
    | none => iterO nb live (evt Q kd cl lq nb n x) n σ
  | .brk id, σ => some (⟨[(.brk id, true, .leaf σ)], none⟩, true)
  | .ret, σ => some (⟨[(.ret, true, .leaf σ)], none⟩, true)
  | .skip, σ => some (⟨[], some (.leaf σ)⟩, true)

theorem mergeSt_ok {a : Option (List Nat)} {q : Bool} {σ0 : St} : MgOk (fun b => mergeSt b a q) (Fr a q σ0) where
  le b σ1 σ2 σ h1 h2 h := mergeSt_le h h1 h2
  all b σ1 σ2 σ h1 h2 h := mergeSt_fr h h1

theorem lookup_keep {n : Nat} {v : SV} {sl : List (Nat × SV)} : ∀ {l : List Nat}, lookup n (keep sl l) = some v → n ∈ l ∧ lookup n sl = some v
  | [], h => by simp [keep, lookup] at h
  | m :: r, h => by
    unfold keep at h
    split at h
    · rename_i u hu
      simp only [lookup] at h
      split at h
      · rename_i e
        subst e
        obtain rfl := Option.some.inj h
        exact ⟨List.mem_cons_self .., hu⟩
      · have := lookup_keep h
        exact ⟨List.mem_cons_of_mem _ this.1, this.2⟩
    · have := lookup_keep h
      exact ⟨List.mem_cons_of_mem _ this.1, this.2⟩
theorem keep_has {n : Nat} {v : SV} {sl : List (Nat × SV)} : ∀ {l : List Nat}, n ∈ l → lookup n sl = some v → lookup n (keep sl l) = some v
  | m :: r, hm, h => by
    unfold keep
    by_cases e : m = n
    · subst e
      rw [h]
      simp [lookup]
    · have hr : n ∈ r := by
        rcases List.mem_cons.1 hm with h | h
        · exact absurd h.symm e
        · exact h
      split
      · simp only [lookup, e, if_false]
        exact keep_has hr h
      · exact keep_has hr h
theorem trim_le {kp : Option (List Nat)} {σ σr : St} (h : Le σ σr) : Le (trim kp σ) (trim kp σr) := by
  cases kp with
  | none => exact h
  | some l => exact ⟨fun n v hn => by
      have := lookup_keep hn
      exact keep_has this.1 (h.sl n v this.2), h.hp⟩
theorem trim_sub {kp : Option (List Nat)} {σ : St} {n : Nat} {v : SV} (h : lookup n (trim kp σ).sl = some v) : lookup n σ.sl = some v := by
  cases kp with
  | none => exact h
  | some l => exact (lookup_keep h).2
theorem trim_hp {kp : Option (List Nat)} {σ : St} : (trim kp σ).hp = σ.hp := by cases kp <;> rfl

theorem dsts_flat {n : Nat} : ∀ {its : Its} {g : Option (Nat × Bool)}, (∀ x ∈ its.flat g, n ∉ x.2.dsts) → n ∉ its.dsts
  | .nil, g, h => by simp [Its.dsts]
  | .op k r, g, h => by
    simp only [Its.flat, List.mem_cons, forall_eq_or_imp] at h
    simp only [Its.dsts, List.mem_append, not_or]
    exact ⟨h.1, dsts_flat h.2⟩
  | .iff s w its d a b r, g, h => by
    simp only [Its.flat, List.mem_append, List.mem_cons] at h
    simp only [Its.dsts, List.mem_append, List.mem_cons, not_or]
    refine ⟨dsts_flat fun x hx => h x (.inl hx), ?_, dsts_flat fun x hx => h x (.inr (.inr hx))⟩
    have := h _ (.inr (.inl rfl))
    simpa [K.dsts, K.dst] using this
theorem quiet_flat : ∀ {its : Its} {g : Option (Nat × Bool)}, (∀ x ∈ its.flat g, quietK x.2 = true) → its.quiet = true
  | .nil, g, h => rfl
  | .op k r, g, h => by
    simp only [Its.flat, List.mem_cons, forall_eq_or_imp] at h
    simp only [Its.quiet, Bool.and_eq_true]
    exact ⟨h.1, quiet_flat h.2⟩
  | .iff s w its d a b r, g, h => by
    simp only [Its.flat, List.mem_append, List.mem_cons] at h
    simp only [Its.quiet, Bool.and_eq_true]
    exact ⟨quiet_flat fun x hx => h x (.inl hx), quiet_flat fun x hx => h x (.inr (.inr hx))⟩

theorem parse_all {n : Nat} {l : List G} (h : (parse n none l).2 = []) : (parse n none l).1.flat none = l := by
  have := parse_flat n none l
  rwa [h, List.append_nil] at this

theorem evDrw_frame {Q : Qt} {kd : List (Nat × List Kd)} {nb : Nat} {kp : List Nat} {l : List G} {r : List (List G)} {σ : St} {c : St × Bool} (h : evDrw Q kd nb kp false (l :: r) σ = some c) (n : Nat) (v : SV) (hn : n ∉ l.flatMap fun g => g.2.dsts) (hv : lookup n c.1.sl = some v) :
    lookup n σ.sl = some v := by
  unfold evDrw at h
  split at h
  · rename_i hp
    simp only [Option.bind_eq_some_iff] at h
    obtain ⟨i, hi, x, hx, h⟩ := h
    have hc : c.1 = x.1 := by
      split at h
      · obtain rfl := Option.some.inj h; rfl
      · simp only [Option.bind_eq_some_iff, Option.some.injEq] at h
        obtain ⟨_, _, rfl⟩ := h; rfl
    rw [hc] at hv
    unfold fixS at hx
    rw [if_neg (by simp)] at hx
    obtain ⟨-, hx1⟩ := of_ite hx
    obtain rfl := Option.some.inj hx1
    have hf := parse_all hp
    refine evI_frame hi n v (dsts_flat (g := none) fun x hx => ?_) (trim_sub hv)
    rw [hf] at hx
    exact fun e => hn (List.mem_flatMap.2 ⟨x, hx, e⟩)
  · simp at h

theorem evt_all {Q : Qt} {kd : List (Nat × List Kd)} {cl : List Nat} {lq : Lq} {nb n : Nat} : ∀ {c : C} {σ : St} {r : O × Bool}, evt Q kd cl lq nb n c σ = some r → r.1.All (Fr (asgC c) (quietC c) σ)
  | .drw ls kp cn, σ, r, h => by
    simp only [evt, Option.bind_eq_some_iff, Option.some.injEq] at h
    obtain ⟨c, hc, rfl⟩ := h
    refine ⟨by simp, fun t ht => ?_⟩
    obtain rfl := Option.some.inj ht
    refine ⟨fun l' hl' m v hm hv => ?_, fun hq => by simp [quietC] at hq⟩
    cases ls with
    | nil => simp [evDrw] at hc
    | cons l ls =>
      cases cn with
      | true => simp [asgC] at hl'
      | false =>
        simp only [asgC, Option.some.injEq] at hl'
        subst hl'
        exact evDrw_frame hc m v hm hv
  | .ops l kp, σ, r, h => by
    unfold evt at h
    split at h
    · rename_i hp
      simp only [Option.bind_eq_some_iff, Option.some.injEq] at h
      obtain ⟨i, hi, rfl⟩ := h
      have hf := parse_all hp
      refine ⟨by simp, fun t ht => ?_⟩
      obtain rfl := Option.some.inj ht
      refine ⟨fun l' hl' m v hm hv => ?_, fun hq => ?_⟩
      · simp only [asgC, Option.some.injEq] at hl'
        subst hl'
        refine evI_frame hi m v (dsts_flat (g := none) fun x hx => ?_) (trim_sub hv)
        rw [hf] at hx
        exact fun e => hm (List.mem_flatMap.2 ⟨x, hx, e⟩)
      · rw [trim_hp]
        refine evI_quiet (quiet_flat (g := none) fun x hx => ?_) hi
        rw [hf] at hx
        simp only [quietC, List.all_eq_true] at hq
        exact hq x hx
    · simp at h
  | .seq x y, σ, r, h => by
    simp only [evt, Option.bind_eq_some_iff] at h
    obtain ⟨r1, h1, h2⟩ := h
    exact thenO_all (fun σ r h => evt_all h) (evt_all h1) h2
  | .cond c x y, σ, r, h => by
    simp only [evt, Option.bind_eq_some_iff] at h
    obtain ⟨v, hv, b, hb, h⟩ := h
    split at h
    · split at h
      · exact (evt_all h).mono fun _ h => h.left
      · exact (evt_all h).mono fun _ h => h.right
    · simp only [Option.bind_eq_some_iff, Option.some.injEq] at h
      obtain ⟨r1, h1, r2, h2, rfl⟩ := h
      exact joinO_all mergeSt_ok ((evt_all h1).mono fun _ h => h.left) ((evt_all h2).mono fun _ h => h.right)
  | .blk id x, σ, r, h => by
    simp only [evt, Option.bind_eq_some_iff, Option.some.injEq] at h
    obtain ⟨r1, h1, rfl⟩ := h
    have h2 := unbrk_all (mergeSt_ok (a := asgC x) (q := quietC x)) (id := id) (evt_all (c := x) h1)
    exact h2
  | .loop live x, σ, r, h => by
    have htr : ∀ t : Tr, t.All (Fr none false σ) := by
      intro t
      induction t with
      | leaf => exact ⟨by simp, by simp⟩
      | br b x y ihx ihy => exact ⟨ihx, ihy⟩
    exact ⟨fun e _ => htr _, fun t _ => htr t⟩
  | .brk id, σ, r, h => by
    simp only [evt, Option.some.injEq] at h
    subst h
    exact ⟨fun e he => by simp only [List.mem_singleton] at he; subst he; exact Fr.rfl, by simp⟩
  | .ret, σ, r, h => by
    simp only [evt, Option.some.injEq] at h
    subst h
    exact ⟨fun e he => by simp only [List.mem_singleton] at he; subst he; exact Fr.rfl, by simp⟩
  | .skip, σ, r, h => by
    simp only [evt, Option.some.injEq] at h
    subst h
    exact ⟨by simp, fun t ht => by obtain rfl := Option.some.inj ht; exact Fr.rfl⟩

theorem canon_le {nb : Nat} {live : List Nat} {σ σr σ' : St} (h : canon nb live σ = some σ') (hl : Le σ σr) : canon nb live σr = some σ' := by
  have h0 : ∃ src m, ∃ r, liveSl σ src m live = some r := by
    unfold canon at h
    simp only at h
    split at h
    · simp only [Option.bind_eq_some_iff] at h
      obtain ⟨x, hx, s, hs, h⟩ := h
      exact ⟨_, _, _, hs⟩
    · simp at h
  have hlook : ∀ s ∈ live, lookup s σr.sl = lookup s σ.sl := by
    obtain ⟨src, m, r, h0⟩ := h0
    clear h
    induction live generalizing m r with
    | nil => simp
    | cons s t ih =>
      simp only [liveSl, Option.bind_eq_some_iff] at h0
      obtain ⟨v, hv, h0⟩ := h0
      intro s' hs'
      rcases List.mem_cons.1 hs' with rfl | hs'
      · rw [hv, hl.sl _ _ hv]
      · split at h0
        · simp only [Option.bind_eq_some_iff] at h0
          obtain ⟨x, hx, l, h0, -⟩ := h0
          exact ih _ _ h0 _ hs'
        · simp only [Option.bind_eq_some_iff] at h0
          obtain ⟨x, hx, l, h0, -⟩ := h0
          exact ih _ _ h0 _ hs'
        · simp only [Option.bind_eq_some_iff] at h0
          obtain ⟨l, h0, -⟩ := h0
          exact ih _ _ h0 _ hs'
        · simp at h0
  have hc : ∀ live, (∀ s ∈ live, lookup s σr.sl = lookup s σ.sl) → liveCells σr live = liveCells σ live := by
    intro live
    induction live with
    | nil => intro _; rfl
    | cons s t ih =>
      intro h
      have := ih fun s' hs' => h s' (List.mem_cons_of_mem _ hs')
      unfold liveCells at *
      rw [List.flatMap_cons, List.flatMap_cons, this, h s (List.mem_cons_self ..)]
  have hs : ∀ live src m, (∀ s ∈ live, lookup s σr.sl = lookup s σ.sl) → liveSl σr src m live = liveSl σ src m live := by
    intro live
    induction live with
    | nil => intro _ _ _; rfl
    | cons s t ih =>
      intro src m h
      have := fun m => ih src m fun s' hs' => h s' (List.mem_cons_of_mem _ hs')
      unfold liveSl
      rw [h s (List.mem_cons_self ..)]
      simp only [this]
  rw [← h]
  unfold canon
  simp only [hc live hlook, hl.hp, hs live _ _ hlook]

theorem iterO_tells {nb : Nat} {live : List Nat} {f : St → Option (O × Bool)} {g : St → Option Out} (hf : Tells f g) : ∀ n, Tells (iterO nb live f n) (iter nb live g n)
  | 0 => fun σ σr o h hl => by simp [iterO] at h
  | n + 1 => fun σ σr o h hl => by
    simp only [iterO, Option.bind_eq_some_iff, Option.some.injEq, Prod.mk.injEq] at h
    obtain ⟨σ1, h1, r, hr, o2, h2, rfl, ho⟩ := h
    obtain ⟨ok1, ok2⟩ := and_t ho
    have hc := canon_le (canonS_eq (σ' := σ1.1) (by rw [h1, ← ok1])) hl
    have h2' : thenO r (iterO nb live f n) = some (o2.1, true) := by rw [h2, ← ok2]
    simp only [iter, hc, Option.bind_some]
    have hr2 : r.2 = true := by
      unfold thenO at h2'
      split at h2'
      · rw [Option.some.inj h2']
      · simp only [Option.bind_eq_some_iff, Option.some.injEq, Prod.mk.injEq, Bool.and_eq_true] at h2'
        obtain ⟨_, _, _, h, _⟩ := h2'
        exact h
    obtain ⟨out0, out, a1, a2, a3⟩ := hf σ1.1 σ1.1 r.1 (by rw [hr, ← hr2]) .rfl
    obtain ⟨o0, o1, b1, b2, b3⟩ := thenO_tells (iterO_tells hf n) h2' (fun _ => ⟨a1, a3⟩)
    refine ⟨o0, o1, b1, ?_, b3⟩
    rw [a2, Option.bind_some, ← b2]
    cases out <;> rfl

theorem thenO_ok {r r' : O × Bool} {f : St → Option (O × Bool)} (h : thenO r f = some r') (hr : r'.2 = true) : r.2 = true := by
  unfold thenO at h
  split at h
  · rw [Option.some.inj h, hr]
  · simp only [Option.bind_eq_some_iff, Option.some.injEq] at h
    obtain ⟨_, _, h⟩ := h
    subst h
    simp only [Bool.and_eq_true] at hr
    exact hr.1

theorem fixS_le {nb : Nat} {kp : List Nat} {cn : Bool} {σ σr c : St} (h : fixS nb kp cn σ = some (c, true)) (hl : Le σ σr) : fixSt nb kp cn σr = some c := by
  unfold fixS at h
  unfold fixSt
  split at h
  · rename_i e
    rw [if_pos e]
    exact canon_le (canonS_eq h) hl
  · rename_i e
    rw [if_neg e]
    obtain ⟨h1, h2⟩ := of_ite h
    obtain ⟨k1, k2⟩ := keep_all hl h1
    rw [if_pos k2]
    simp only [Option.some.injEq, Prod.mk.injEq, and_true] at h2
    rw [← h2]
    simp only [trim, k1, hl.hp]

theorem evDrw_tells {R : Rt} {Q : Qt} (hQ : QOk R Q) {kd : List (Nat × List Kd)} {nb : Nat} {kp : List Nat} {cn : Bool} {σ σr : St} (hl : Le σ σr) : ∀ {ls : List (List G)} {c : St}, evDrw Q kd nb kp cn ls σ = some (c, true) → drwSt R nb kp cn ls σr = some c
  | [], c, h => by simp [evDrw] at h
  | l :: r, c, h => by
    unfold evDrw at h
    split at h
    case h_2 => simp at h
    rename_i hp
    simp only [Option.bind_eq_some_iff] at h
    obtain ⟨i, hi, x, hx, h⟩ := h
    have run : i.2 = true → ∃ τ, runGs R l σr = some τ ∧ Le i.1 τ := fun ho => by
      obtain ⟨τ, h1, h2⟩ := evI_run hQ (g := none) (by rw [hi, ← ho]) hl (fun s w e => by simp at e) (fun s w e => by simp at e)
      rw [parse_all hp] at h1
      exact ⟨τ, h1, h2⟩
    cases r with
    | nil =>
      simp only [Option.some.injEq, Prod.mk.injEq] at h
      obtain ⟨rfl, ho⟩ := h
      obtain ⟨o1, o2⟩ := and_t ho
      obtain ⟨τ, h1, h2⟩ := run o1
      simp only [drwSt, h1, Option.bind_some]
      rw [fixS_le (c := x.1) (by rw [hx, ← o2]) h2]
      rfl
    | cons m r =>
      simp only [Option.bind_eq_some_iff, Option.some.injEq, Prod.mk.injEq] at h
      obtain ⟨c', hc', rfl, ho⟩ := h
      obtain ⟨o1, o2⟩ := and_t ho
      obtain ⟨o1, o3⟩ := and_t o1
      obtain ⟨o2, o4⟩ := and_t o2
      obtain ⟨τ, h1, h2⟩ := run o1
      have h3 := evDrw_tells hQ hl (ls := m :: r) (c := c'.1) (by rw [hc', ← o2])
      unfold drwSt
      rw [h1, Option.bind_some, fixS_le (c := x.1) (by rw [hx, ← o3]) h2, Option.bind_some]
      simp only
      rw [h3, Option.bind_some, if_pos (eqSt_eq o4)]

theorem evt_tells {R : Rt} {Q : Qt} (hQ : QOk R Q) {kd : List (Nat × List Kd)} {cl : List Nat} {lq : Lq} {nb n : Nat} : ∀ {c : C}, Loops (fun live x => Tells (lq live) (evc R nb n (.loop live x))) c → Tells (evt Q kd cl lq nb n c) (evc R nb n c)
  | .drw ls kp cn, hL => fun σ σr o h hl => by
    simp only [evt, Option.bind_eq_some_iff, Option.some.injEq, Prod.mk.injEq] at h
    obtain ⟨c, hc, rfl, ho⟩ := h
    have := evDrw_tells hQ hl (c := c.1) (by rw [hc, ← ho])
    exact ⟨.nor c.1, .nor c.1, rfl, by simp [evc, this], .nor .rfl⟩
  | .ops l kp, hL => fun σ σr o h hl => by
    unfold evt at h
    split at h
    · rename_i hp
      simp only [Option.bind_eq_some_iff, Option.some.injEq, Prod.mk.injEq] at h
      obtain ⟨i, hi, rfl, ho⟩ := h
      obtain ⟨τ, h1, h2⟩ := evI_run hQ (g := none) (by rw [hi, ← ho]) hl (fun s w e => by simp at e) (fun s w e => by simp at e)
      rw [parse_all hp] at h1
      exact ⟨.nor (trim kp i.1), .nor (trim kp τ), rfl, by simp [evc, h1], .nor (trim_le h2)⟩
    · simp at h
  | .seq x y, hL => fun σ σr o h hl => by
    simp only [evt, Option.bind_eq_some_iff] at h
    obtain ⟨r, hr, h⟩ := h
    obtain ⟨out0, out, a1, a2, a3⟩ := evt_tells hQ (c := x) hL.1 σ σr r.1 (by rw [hr, ← thenO_ok h rfl]) hl
    obtain ⟨o0, o1, b1, b2, b3⟩ := thenO_tells (evt_tells hQ (c := y) hL.2) h (fun _ => ⟨a1, a3⟩)
    refine ⟨o0, o1, b1, ?_, b3⟩
    rw [evc, a2, Option.bind_some, ← b2]
    cases out <;> rfl
  | .cond c x y, hL => fun σ σr o h hl => by
    simp only [evt, Option.bind_eq_some_iff] at h
    obtain ⟨v, hv, b, hb, h⟩ := h
    have hv' := hl.ev _ _ hv
    simp only [evc, hv', hb, Option.bind_some]
    split at h
    · split at h
      · simp only [if_true]
        exact evt_tells hQ (c := x) hL.1 σ σr o h hl
      · simp only [Bool.false_eq_true, if_false]
        exact evt_tells hQ (c := y) hL.2 σ σr o h hl
    · simp only [Option.bind_eq_some_iff, Option.some.injEq, Prod.mk.injEq, Bool.and_eq_true, Bool.or_eq_true] at h
      obtain ⟨r1, h1, r2, h2, rfl, k1, k2⟩ := h
      have f1 := (evt_all h1).mono fun _ h => Fr.left (b := asgC y) (r := quietC y) h
      have f2 := (evt_all h2).mono fun _ h => Fr.right (a := asgC x) (q := quietC x) h
      cases b
      · have k : r2.2 = true := by simpa using k2
        obtain ⟨out0, out, a1, a2, a3⟩ := evt_tells hQ (c := y) hL.2 σ σr r2.1 (by rw [h2, ← k]) hl
        obtain ⟨out', b1, b2⟩ := joinO_den (b := false) (o1 := r1.1) mergeSt_ok f1 f2 a1
        exact ⟨out', out, b1, by simpa using a2, b2.trans a3⟩
      · have k : r1.2 = true := by simpa using k1
        obtain ⟨out0, out, a1, a2, a3⟩ := evt_tells hQ (c := x) hL.1 σ σr r1.1 (by rw [h1, ← k]) hl
        obtain ⟨out', b1, b2⟩ := joinO_den (b := true) (o2 := r2.1) mergeSt_ok f1 f2 a1
        exact ⟨out', out, b1, by simpa using a2, b2.trans a3⟩
  | .blk id x, hL => fun σ σr o h hl => by
    simp only [evt, Option.bind_eq_some_iff, Option.some.injEq, Prod.mk.injEq] at h
    obtain ⟨r, hr, rfl, ho⟩ := h
    obtain ⟨out0, out, a1, a2, a3⟩ := evt_tells hQ (c := x) hL σ σr r.1 (by rw [hr, ← ho]) hl
    obtain ⟨out', b1, b2⟩ := unbrk_den (id := id) mergeSt_ok (evt_all hr) a1
    refine ⟨out', blkOut id out, b1, ?_, b2.trans ?_⟩
    · rw [evc, a2, Option.bind_some]
      cases out with
      | nor σ => rfl
      | ret σ => rfl
      | brk j σ =>
        simp only [blkOut]
        split <;> rfl
    · cases a3 with
      | nor h => exact .nor h
      | ret h => exact .ret h
      | brk h =>
        simp only [blkOut]
        split
        · exact .nor h
        · exact .brk h
  | .loop live x, hL => fun σ σr o h hl => by
    simp only [evt] at h
    split at h
    · rename_i r hr
      rw [h] at hr
      exact hL.1 σ σr o hr hl
    · rw [evc]
      exact iterO_tells (evt_tells hQ (c := x) hL.2) n σ σr o h hl
  | .brk id, hL => fun σ σr o h hl => by
    simp only [evt, Option.some.injEq, Prod.mk.injEq] at h
    obtain ⟨rfl, -⟩ := h
    exact ⟨.brk id σ, .brk id σr, rfl, rfl, .brk hl⟩
  | .ret, hL => fun σ σr o h hl => by
    simp only [evt, Option.some.injEq, Prod.mk.injEq] at h
    obtain ⟨rfl, -⟩ := h
    exact ⟨.ret σ, .ret σr, rfl, rfl, .ret hl⟩
  | .skip, hL => fun σ σr o h hl => by
    simp only [evt, Option.some.injEq, Prod.mk.injEq] at h
    obtain ⟨rfl, -⟩ := h
    exact ⟨.nor σ, .nor σr, rfl, rfl, .nor hl⟩

theorem loops_none {T : List Nat → C → Prop} (h : ∀ live x, T live x) : ∀ {c : C}, Loops T c
  | .seq _ _ => ⟨loops_none h, loops_none h⟩
  | .cond _ _ _ => ⟨loops_none h, loops_none h⟩
  | .blk _ x => loops_none (c := x) h
  | .loop _ _ => ⟨h _ _, loops_none h⟩
  | .ops _ _ => trivial
  | .drw .. => trivial
  | .brk _ => trivial
  | .ret => trivial
  | .skip => trivial

/-! The results. -/
def mergeRes (b : Bool) (u v : SV × List Blk) : Option (SV × List Blk) := (mergeSV b u.1 v.1).bind fun w => (mergeHp b u.2 v.2).bind fun h => some (w, h)
theorem mergeRes_eq {b : Bool} {u v w : SV × List Blk} (h : mergeRes b u v = some w) : w = bif b then u else v := by
  simp only [mergeRes, Option.bind_eq_some_iff, Option.some.injEq] at h
  obtain ⟨x, hx, y, hy, rfl⟩ := h
  rw [mergeSV_eq hx, mergeHp_eq hy]
  cases b <;> rfl
def resSt (res : List Rv) (nb : Nat) (σ : St) : Option (SV × List Blk) := (resVals σ res).bind fun vs => leave nb σ vs
def resTr (res : List Rv) (nb : Nat) : Tr → Option ((SV × List Blk) × Bool)
  | .leaf σ => (resVals σ res).bind fun vs => leaveS nb σ vs
  | .br b x y => (resTr res nb x).bind fun u => (resTr res nb y).bind fun v => (mergeRes b u.1 v.1).bind fun w => some (w, (u.2 || !b) && (v.2 || b))
def sure : List (Ex × Bool × Tr) → Option Tr → Bool
  | [], none => true
  | _, _ => false
def finL (res : List Rv) (nb : Nat) : List (Ex × Bool × Tr) → Option Tr → Option ((SV × List Blk) × Bool)
  | [], none => none
  | [], some t => resTr res nb t
  | (k, p, t) :: r, n =>
    match k with
    | .brk _ => none
    | .ret => (resTr res nb t).bind fun u => if sure r n = true then some u else (finL res nb r n).bind fun v => (mergeRes p u.1 v.1).bind fun w => some (w, (u.2 || !p) && (v.2 || p))

theorem resTr_st {res : List Rv} {nb : Nat} : ∀ {t : Tr} {r : SV × List Blk}, resTr res nb t = some (r, true) → resSt res nb t.st = some r
  | .leaf σ, r, h => by
    simp only [resTr, Option.bind_eq_some_iff] at h
    obtain ⟨vs, hv, h⟩ := h
    simp only [resSt, Tr.st, hv, Option.bind_some]
    exact leaveS_eq h
  | .br b x y, r, h => by
    simp only [resTr, Option.bind_eq_some_iff, Option.some.injEq, Prod.mk.injEq] at h
    obtain ⟨u, hu, v, hv, w, hw, rfl, ho⟩ := h
    obtain ⟨o1, o2⟩ := and_t ho
    rw [mergeRes_eq hw]
    cases b
    · exact resTr_st (t := y) (r := v.1) (by rw [hv]; simp at o2; rw [← o2])
    · exact resTr_st (t := x) (r := u.1) (by rw [hu]; simp at o1; rw [← o1])
def endOf : Out → Option St
  | .nor σ => some σ
  | .ret σ => some σ
  | .brk _ _ => none
theorem finL_den {res : List Rv} {nb : Nat} : ∀ {l : List (Ex × Bool × Tr)} {n : Option Tr} {r : SV × List Blk} {out : Out}, finL res nb l n = some (r, true) → denL l n = some out → ∃ σ, endOf out = some σ ∧ resSt res nb σ = some r
  | [], none, r, out, h, hd => by simp [finL] at h
  | [], some t, r, out, h, hd => by
    simp only [denL, Option.some.injEq] at hd
    subst hd
    exact ⟨t.st, rfl, resTr_st h⟩
  | (k, p, t) :: s, n, r, out, h, hd => by
    cases k with
    | brk j => simp [finL] at h
    | ret =>
      simp only [finL, Option.bind_eq_some_iff] at h
      obtain ⟨u, hu, h⟩ := h
      cases p
      · simp only [denL, cond_false] at hd
        split at h
        · rename_i hs
          cases s with
          | cons _ _ => simp [sure] at hs
          | nil =>
            cases n with
            | some _ => simp [sure] at hs
            | none => simp [denL] at hd
        · simp only [Option.bind_eq_some_iff, Option.some.injEq, Prod.mk.injEq] at h
          obtain ⟨v, hv, w, hw, rfl, ho⟩ := h
          obtain ⟨o1, o2⟩ := and_t ho
          rw [mergeRes_eq hw]
          exact finL_den (r := v.1) (by rw [hv]; simp at o2; rw [← o2]) hd
      · simp only [denL, cond_true, Option.some.injEq] at hd
        subst hd
        split at h
        · obtain rfl := Option.some.inj h
          exact ⟨t.st, rfl, resTr_st hu⟩
        · simp only [Option.bind_eq_some_iff, Option.some.injEq, Prod.mk.injEq] at h
          obtain ⟨v, hv, w, hw, rfl, ho⟩ := h
          obtain ⟨o1, o2⟩ := and_t ho
          rw [mergeRes_eq hw]
          exact ⟨t.st, rfl, resTr_st (r := u.1) (by rw [hu]; simp at o1; rw [← o1])⟩

theorem resVals_le {σ σr : St} (hl : Le σ σr) : ∀ {res : List Rv} {vs : List SV}, resVals σ res = some vs → resVals σr res = some vs
  | [], vs, h => h
  | .tmp n :: r, vs, h => by
    simp only [resVals, Option.bind_eq_some_iff] at h ⊢
    obtain ⟨v, hv, us, hu, h⟩ := h
    exact ⟨v, hl.sl _ _ hv, us, resVals_le hl hu, h⟩
  | .cell n k :: r, vs, h => by
    simp only [resVals, Option.bind_eq_some_iff] at h ⊢
    obtain ⟨v, hv, t, ht, cs, hc, u, hu, us, hus, h⟩ := h
    exact ⟨v, hl.sl _ _ hv, t, ht, cs, by rw [hl.hp]; exact hc, u, hu, us, resVals_le hl hus, h⟩
theorem resSt_le {res : List Rv} {nb : Nat} {σ σr : St} (hl : Le σ σr) {r : SV × List Blk} (h : resSt res nb σ = some r) : resSt res nb σr = some r := by
  simp only [resSt, Option.bind_eq_some_iff] at h ⊢
  obtain ⟨vs, hv, h⟩ := h
  refine ⟨vs, resVals_le hl hv, ?_⟩
  unfold leave at h ⊢
  rw [hl.hp]
  exact h

noncomputable def fnL (Q : Qt) (kd : List (Nat × List Kd)) (cl : List Nat) (lq : Lq) (n : Nat) (cf : Zq.Fn) (args : List SV) (hp : List Blk) : Option ((SV × List Blk) × Bool) :=
  if args.length = cf.np then
    (evt Q kd cl lq (hpBoxes hp) n cf.body ⟨startSl 0 args, hp⟩).bind fun r => (finL cf.res (hpBoxes hp) r.1.ex r.1.nor).bind fun v => some (v.1, r.2 && v.2)
  else none
noncomputable def fnT (Q : Qt) (kd : List (Nat × List Kd)) (cl : List Nat) (n : Nat) (cf : Zq.Fn) (args : List SV) (hp : List Blk) : Option ((SV × List Blk) × Bool) := fnL Q kd cl lqN n cf args hp

theorem fnL_run {R : Rt} {Q : Qt} (hQ : QOk R Q) {kd : List (Nat × List Kd)} {cl : List Nat} {lq : Lq} {n : Nat} {cf : Zq.Fn} {args : List SV} {hp : List Blk} {r : SV × List Blk} (hL : Loops (fun live x => Tells (lq live) (evc R (hpBoxes hp) n (.loop live x))) cf.body) (h : fnL Q kd cl lq n cf args hp = some (r, true)) : cf.run R n args hp = some r := by
  unfold fnL at h
  split at h
  · rename_i hn
    simp only [Option.bind_eq_some_iff, Option.some.injEq, Prod.mk.injEq] at h
    obtain ⟨o, ho, v, hv, rfl, h2⟩ := h
    obtain ⟨o1, o2⟩ := and_t h2
    obtain ⟨out0, out, a1, a2, a3⟩ := evt_tells hQ hL _ _ o.1 (by rw [ho, ← o1]) .rfl
    obtain ⟨σ, e1, e2⟩ := finL_den (r := v.1) (by rw [hv, ← o2]) a1
    unfold Fn.run
    rw [if_pos hn, a2]
    cases a3 with
    | nor hl => obtain rfl := Option.some.inj e1; exact resSt_le hl e2
    | ret hl => obtain rfl := Option.some.inj e1; exact resSt_le hl e2
    | brk hl => simp [endOf] at e1
  · simp at h
theorem fnT_run {R : Rt} {Q : Qt} (hQ : QOk R Q) {kd : List (Nat × List Kd)} {cl : List Nat} {n : Nat} {cf : Zq.Fn} {args : List SV} {hp : List Blk} {r : SV × List Blk} (h : fnT Q kd cl n cf args hp = some (r, true)) : cf.run R n args hp = some r :=
  fnL_run hQ (loops_none fun _ _ _ _ _ h _ => by simp [lqN] at h) h

/-! Loops whose rounds are told by a state's makers: 'st v' is the state at a round's beginning. -/
def anyEx : List (Ex × Bool × Tr) → Bool
  | [] => false
  | e :: r => e.2.1 || anyEx r
theorem denL_any : ∀ {l : List (Ex × Bool × Tr)} {n m : Option Tr}, anyEx l = true → denL l n = denL l m
  | [], n, m, h => by simp [anyEx] at h
  | (k, b, t) :: r, n, m, h => by
    cases b
    · simp only [anyEx, Bool.false_or] at h
      simp only [denL, cond_false]
      exact denL_any h
    · rfl
theorem denL_noEx : ∀ {l : List (Ex × Bool × Tr)} {n : Option Tr}, anyEx l = false → denL l n = denL [] n
  | [], n, h => rfl
  | (k, b, t) :: r, n, h => by
    simp only [anyEx, Bool.or_eq_false_iff] at h
    rw [h.1]
    simp only [denL, cond_false]
    exact denL_noEx h.2

theorem loop_runs {V : Type} {nb : Nat} {live : List Nat} {f : St → Option (O × Bool)} {g : St → Option Out} (hf : Tells f g) {st ν : V → St} {ob : V → O} {okb : V → Bool} {next : V → V}
    (hb : ∀ v, f (st v) = some (ob v, okb v)) (hn : ∀ v, (ob v).nor = some (.leaf (ν v))) (hc : ∀ v, okb v = true → anyEx (ob v).ex = false → canon nb live (ν v) = some (st (next v)))
    {L : Nat → V → Option V} (hL0 : ∀ v, L 0 v = none) (hL1 : ∀ k v, L (k + 1) v = bif okb v then bif anyEx (ob v).ex then some v else L k (next v) else none) :
    ∀ {k : Nat} {v w : V} {σ : St}, canon nb live σ = some (st v) → L k v = some w → ∃ out0 out, denL (ob w).ex none = some out0 ∧ iter nb live g k σ = some out ∧ LeOut out0 out
  | 0, v, w, σ, hσ, h => by rw [hL0] at h; simp at h
  | k + 1, v, w, σ, hσ, h => by
    rw [hL1] at h
    cases ho : okb v
    · rw [ho] at h; simp at h
    · rw [ho, cond_true] at h
      obtain ⟨out0, out, a1, a2, a3⟩ := hf (st v) (st v) (ob v) (by rw [hb, ho]) .rfl
      simp only [iter, hσ, Option.bind_some, a2]
      cases he : anyEx (ob v).ex
      · rw [he, cond_false] at h
        have a1' : out0 = .nor (ν v) := by
          unfold O.den at a1
          rw [denL_noEx he, hn] at a1
          simp only [denL, Tr.st, Option.some.injEq] at a1
          exact a1.symm
        subst a1'
        cases a3 with
        | nor hl =>
          have hc' := canon_le (hc v ho he) hl
          exact loop_runs hf hb hn hc hL0 hL1 hc' h
      · rw [he, cond_true] at h
        obtain rfl := Option.some.inj h
        unfold O.den at a1
        rw [denL_any (m := none) he] at a1
        refine ⟨out0, out, a1, ?_, a3⟩
        cases a3 with
        | nor hl =>
          rcases denL_cases a1 with ⟨q, σ', e, -⟩ | ⟨t, e, -⟩
          · cases q <;> simp [Ex.out] at e
          · simp at e
        | brk hl => rfl
        | ret hl => rfl

/-- A loop's contract out of its rounds. -/
theorem lq_tells {R : Rt} {V : Type} {nb n : Nat} {live : List Nat} {x : C} {f : St → Option (O × Bool)} (hf : Tells f (evc R nb n x)) {st ν : V → St} {ob : V → O} {okb : V → Bool} {next : V → V}
    (hb : ∀ v, f (st v) = some (ob v, okb v)) (hn : ∀ v, (ob v).nor = some (.leaf (ν v))) (hc : ∀ v, okb v = true → anyEx (ob v).ex = false → canonS nb live (ν v) = some (st (next v), true))
    {L : Nat → V → Option V} (hL0 : ∀ v, L 0 v = none) (hL1 : ∀ k v, L (k + 1) v = bif okb v then bif anyEx (ob v).ex then some v else L k (next v) else none)
    {v d : V} {σ σr : St} {o : O} {okc : Bool} (hs : canonS nb live σ = some (st v, okc)) (h : some ((⟨(ob ((L n v).getD d)).ex, none⟩ : O), okc && (L n v).isSome) = some (o, true)) (hl : Le σ σr) :
    ∃ out0 out, o.den = some out0 ∧ evc R nb n (.loop live x) σr = some out ∧ LeOut out0 out := by
  simp only [Option.some.injEq, Prod.mk.injEq, Bool.and_eq_true] at h
  obtain ⟨rfl, ho, hi⟩ := h
  obtain ⟨w, hw⟩ := Option.isSome_iff_exists.1 hi
  have hc' := canon_le (canonS_eq (σ' := st v) (by rw [hs, ho])) hl
  obtain ⟨out0, out, a1, a2, a3⟩ := loop_runs hf hb hn (fun v h1 h2 => canonS_eq (hc v h1 h2)) hL0 hL1 hc' hw
  refine ⟨out0, out, ?_, by rw [evc]; exact a2, a3⟩
  rw [hw]
  exact a1

/-- One contract more. -/
def qcons (f : FuncId) (q : List SV → List Blk → Option ((SV × List Blk) × Bool)) (Q : Qt) : Qt := fun g args hp => if g = f then match q args hp with | some r => some r | none => Q g args hp else Q g args hp
theorem qcons_ok {R : Rt} {f : FuncId} {q : List SV → List Blk → Option ((SV × List Blk) × Bool)} {Q : Qt} (h : ∀ args hp r, q args hp = some (r, true) → R f args hp = some r) (hQ : QOk R Q) : QOk R (qcons f q Q) := fun g args hp r hg => by
  unfold qcons at hg
  split at hg
  · rename_i e
    subst e
    split at hg
    · rename_i r' hr
      obtain rfl := Option.some.inj hg
      exact h _ _ _ hr
    · exact hQ _ _ _ _ hg
  · exact hQ _ _ _ _ hg
def qnil : Qt := fun _ _ _ => none
theorem qnil_ok {R : Rt} : QOk R qnil := fun _ _ _ _ h => by simp [qnil] at h
end Go.Zq
