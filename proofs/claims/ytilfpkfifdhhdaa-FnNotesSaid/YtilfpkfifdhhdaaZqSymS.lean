/- What is asked of lengths that are not known is told as a condition. Each of these functions gives what its elder one gives, if the condition holds. -/
import Derived.Test.YtilfpkfifdhhdaaZqFast
set_option linter.unusedVariables false
set_option linter.unusedSimpArgs false
namespace Go.Zq
open Go

theorem and_t {a b : Bool} (h : (a && b) = true) : a = true ∧ b = true := by simpa using h

def findLS : List Src → Nat → Nat → Nat → Nat → Option (Nat × Bool)
  | [], _, _, _, _ => none
  | .lst id o l :: r, k, j, off, len => if id = j then some (k, decide (o = off) && decide (l = len)) else findLS r (k + 1) j off len
  | _ :: r, k, j, off, len => findLS r (k + 1) j off len
theorem findLS_eq : ∀ {l : List Src} {k j off len n : Nat}, findLS l k j off len = some (n, true) → findL l k j off len = some n
  | [], k, j, off, len, n, h => by simp [findLS] at h
  | .lst id o l :: r, k, j, off, len, n, h => by
    simp only [findLS] at h
    simp only [findL]
    split at h
    · rename_i e
      simp only [Option.some.injEq, Prod.mk.injEq, Bool.and_eq_true, decide_eq_true_eq] at h
      rw [if_pos ⟨e, h.2.1, h.2.2⟩, h.1]
    · rename_i e
      rw [if_neg (fun x => e x.1)]
      exact findLS_eq h
  | .box _ _ _ :: r, k, j, off, len, n, h => findLS_eq (l := r) h
  | .nil _ :: r, k, j, off, len, n, h => findLS_eq (l := r) h

def renS (src : List Src) (m : Nat) : T → Option ((T × Nat) × Bool)
  | .lit v => some ((.lit v, m), true)
  | .nls _ => (findN src 0 m).bind fun k => some ((.sl k 0 0, m + 1), true)
  | .sl id off len => (findLS src 0 id off len).bind fun k => some ((.sl k.1 0 len, m), k.2)
  | .imm p n rows => some ((.imm p n rows, m), true)
  | .clo f caps => (renPs src caps).bind fun caps => some ((.clo f caps, m), true)
  | .ptr id row off => (renP src (.ptr id row off)).bind fun t => some ((t, m), true)
  | .ip _ => none
theorem renS_eq {src : List Src} {m : Nat} {t : T} {r : T × Nat} (h : renS src m t = some (r, true)) : ren src m t = some r := by
  cases t with
  | lit v => simpa [renS, ren] using h
  | nls n =>
    simp only [renS, Option.bind_eq_some_iff, Option.some.injEq, Prod.mk.injEq, and_true] at h
    obtain ⟨k, hk, rfl⟩ := h
    simp [ren, hk]
  | sl id off len =>
    simp only [renS, Option.bind_eq_some_iff, Option.some.injEq, Prod.mk.injEq] at h
    obtain ⟨k, hk, rfl, h2⟩ := h
    have := findLS_eq (n := k.1) (by rw [hk, ← h2])
    simp [ren, this]
  | imm p n rows => simpa [renS, ren] using h
  | clo f caps =>
    simp only [renS, Option.bind_eq_some_iff, Option.some.injEq, Prod.mk.injEq, and_true] at h
    obtain ⟨k, hk, rfl⟩ := h
    simp [ren, hk]
  | ptr id row off =>
    simp only [renS, Option.bind_eq_some_iff, Option.some.injEq, Prod.mk.injEq, and_true] at h
    obtain ⟨k, hk, rfl⟩ := h
    simp [ren, hk]
  | ip _ => simp [renS] at h
def renRowS (src : List Src) (m : Nat) : Row → Option ((Row × Nat) × Bool)
  | [] => some (([], m), true)
  | t :: r => (renS src m t).bind fun x => (renRowS src x.1.2 r).bind fun y => some ((x.1.1 :: y.1.1, y.1.2), x.2 && y.2)
theorem renRowS_eq {src : List Src} : ∀ {m : Nat} {t : Row} {r : Row × Nat}, renRowS src m t = some (r, true) → renRow src m t = some r
  | m, [], r, h => by simpa [renRowS, renRow] using h
  | m, t :: s, r, h => by
    simp only [renRowS, Option.bind_eq_some_iff, Option.some.injEq, Prod.mk.injEq] at h
    obtain ⟨x, hx, y, hy, rfl, ho⟩ := h
    obtain ⟨o1, o2⟩ := and_t ho
    have h1 := renS_eq (r := x.1) (by rw [hx, ← o1])
    have h2 := renRowS_eq (r := y.1) (by rw [hy, ← o2])
    simp [renRow, h1, h2]

def rowsOfS (hp : List Blk) : T → Option (List Row × Bool)
  | .nls _ => some ([], true)
  | .imm _ _ rows => some (rows, true)
  | .sl id off len =>
    match hp[id]? with
    | some (.lst _ rows) => some ((rows.drop off).take len, decide (off + len ≤ rows.length))
    | _ => none
  | _ => none
theorem rowsOfS_eq {hp : List Blk} {t : T} {r : List Row} (h : rowsOfS hp t = some (r, true)) : rowsOf hp t = some r := by
  unfold rowsOfS at h
  unfold rowsOf
  split at h
  · simpa using h
  · simpa using h
  · split at h
    · rename_i hb
      simp only [Option.some.injEq, Prod.mk.injEq, decide_eq_true_eq] at h
      simp only [hb]
      rw [if_pos h.2, h.1]
    · simp at h
  · simp at h

def lendS (hp : List Blk) (src : List Src) : T → Option (T × Bool)
  | .lit v => some (.lit v, true)
  | .nls n => some (.imm false n [], true)
  | .imm p n rows => some (.imm p n rows, true)
  | .sl id off len => (szOf hp (.sl id off len)).bind fun n => (rowsOfS hp (.sl id off len)).bind fun rows => if src.all (notLst id) then some (.imm false n rows.1, rows.2) else none
  | .clo f caps => (renPs src caps).bind fun caps => some (.clo f caps, true)
  | .ptr id row off => (renP src (.ptr id row off)).bind fun t => some (t, true)
  | .ip _ => none
theorem lendS_eq {hp : List Blk} {src : List Src} {t r : T} (h : lendS hp src t = some (r, true)) : lend hp src t = some r := by
  cases t with
  | lit v => simpa [lendS, lend] using h
  | nls n => simpa [lendS, lend] using h
  | sl id off len =>
    simp only [lendS, Option.bind_eq_some_iff] at h
    obtain ⟨n, hn, rows, hr, h⟩ := h
    split at h
    · rename_i e
      simp only [Option.some.injEq, Prod.mk.injEq] at h
      have := rowsOfS_eq (r := rows.1) (by rw [hr, ← h.2])
      simp [lend, hn, this, e, h.1]
    · simp at h
  | imm p n rows => simpa [lendS, lend] using h
  | clo f caps =>
    simp only [lendS, Option.bind_eq_some_iff, Option.some.injEq, Prod.mk.injEq, and_true] at h
    obtain ⟨k, hk, rfl⟩ := h
    simp [lend, hk]
  | ptr id row off =>
    simp only [lendS, Option.bind_eq_some_iff, Option.some.injEq, Prod.mk.injEq, and_true] at h
    obtain ⟨k, hk, rfl⟩ := h
    simp [lend, hk]
  | ip _ => simp [lendS] at h
def lendRowS (hp : List Blk) (src : List Src) : Row → Option (Row × Bool)
  | [] => some ([], true)
  | t :: r => (lendS hp src t).bind fun t => (lendRowS hp src r).bind fun r => some (t.1 :: r.1, t.2 && r.2)
theorem lendRowS_eq {hp : List Blk} {src : List Src} : ∀ {t r : Row}, lendRowS hp src t = some (r, true) → lendRow hp src t = some r
  | [], r, h => by simpa [lendRowS, lendRow] using h
  | t :: s, r, h => by
    simp only [lendRowS, Option.bind_eq_some_iff, Option.some.injEq, Prod.mk.injEq] at h
    obtain ⟨x, hx, y, hy, rfl, ho⟩ := h
    obtain ⟨o1, o2⟩ := and_t ho
    have h1 := lendS_eq (r := x.1) (by rw [hx, ← o1])
    have h2 := lendRowS_eq (r := y.1) (by rw [hy, ← o2])
    simp [lendRow, h1, h2]
def renBlksS (hp : List Blk) (src : List Src) : Nat → List Src → Option ((List Blk × Nat) × Bool)
  | m, [] => some (([], m), true)
  | m, s :: r =>
    match s with
    | .box id off n =>
      (renRowS src m (srcCells hp (.box id off n))).bind fun x => (renBlksS hp src x.1.2 r).bind fun y => some ((.box x.1.1 :: y.1.1, y.1.2), x.2 && y.2)
    | .lst id off len =>
      (szOf hp (.sl id off len)).bind fun n => (rowsOfS hp (.sl id off len)).bind fun rows => (renBlksS hp src m r).bind fun y => some ((.lst n rows.1 :: y.1.1, y.1.2), rows.2 && y.2)
    | .nil n => (renBlksS hp src m r).bind fun y => some ((.lst n [] :: y.1.1, y.1.2), y.2)
theorem renBlksS_eq {hp : List Blk} {src : List Src} : ∀ {l : List Src} {m : Nat} {r : List Blk × Nat}, renBlksS hp src m l = some (r, true) → renBlks hp src m l = some r
  | [], m, r, h => by simpa [renBlksS, renBlks] using h
  | .box id off n :: s, m, r, h => by
    simp only [renBlksS, Option.bind_eq_some_iff, Option.some.injEq, Prod.mk.injEq] at h
    obtain ⟨x, hx, y, hy, rfl, ho⟩ := h
    obtain ⟨o1, o2⟩ := and_t ho
    have h1 := renRowS_eq (r := x.1) (by rw [hx, ← o1])
    have h2 := renBlksS_eq (r := y.1) (by rw [hy, ← o2])
    simp [renBlks, h1, h2]
  | .lst id off len :: s, m, r, h => by
    simp only [renBlksS, Option.bind_eq_some_iff, Option.some.injEq, Prod.mk.injEq] at h
    obtain ⟨n, hn, x, hx, y, hy, rfl, ho⟩ := h
    obtain ⟨o1, o2⟩ := and_t ho
    have h1 := rowsOfS_eq (r := x.1) (by rw [hx, ← o1])
    have h2 := renBlksS_eq (r := y.1) (by rw [hy, ← o2])
    simp [renBlks, hn, h1, h2]
  | .nil n :: s, m, r, h => by
    simp only [renBlksS, Option.bind_eq_some_iff, Option.some.injEq, Prod.mk.injEq] at h
    obtain ⟨y, hy, rfl, ho⟩ := h
    have h2 := renBlksS_eq (r := y.1) (by rw [hy, ← ho])
    simp [renBlks, h2]
def renArgsS (hp : List Blk) (src : List Src) : Nat → List (SV × Nat × Bool) → Option (List SV × Bool)
  | _, [] => some ([], true)
  | m, (v, _, mv) :: r =>
    match v with
    | .one t =>
      if mv then (renS src m t).bind fun x => (renArgsS hp src x.1.2 r).bind fun r => some (.one x.1.1 :: r.1, x.2 && r.2)
      else (lendS hp src t).bind fun x => (renArgsS hp src m r).bind fun r => some (.one x.1 :: r.1, x.2 && r.2)
    | .agg ts =>
      if mv then (renRowS src m ts).bind fun x => (renArgsS hp src x.1.2 r).bind fun r => some (.agg x.1.1 :: r.1, x.2 && r.2)
      else (lendRowS hp src ts).bind fun x => (renArgsS hp src m r).bind fun r => some (.agg x.1 :: r.1, x.2 && r.2)
    | _ => none
theorem renArgsS_eq {hp : List Blk} {src : List Src} : ∀ {vs : List (SV × Nat × Bool)} {m : Nat} {r : List SV}, renArgsS hp src m vs = some (r, true) → renArgs hp src m vs = some r
  | [], m, r, h => by simpa [renArgsS, renArgs] using h
  | (v, n, mv) :: s, m, r, h => by
    unfold renArgsS at h
    unfold renArgs
    split at h
    · cases mv
      · simp only [Bool.false_eq_true, if_false, Option.bind_eq_some_iff, Option.some.injEq, Prod.mk.injEq] at h ⊢
        obtain ⟨x, hx, y, hy, rfl, ho⟩ := h
        obtain ⟨o1, o2⟩ := and_t ho
        exact ⟨x.1, lendS_eq (by rw [hx, ← o1]), y.1, renArgsS_eq (by rw [hy, ← o2]), rfl⟩
      · simp only [if_true, Option.bind_eq_some_iff, Option.some.injEq, Prod.mk.injEq] at h ⊢
        obtain ⟨x, hx, y, hy, rfl, ho⟩ := h
        obtain ⟨o1, o2⟩ := and_t ho
        exact ⟨x.1, renS_eq (by rw [hx, ← o1]), y.1, renArgsS_eq (by rw [hy, ← o2]), rfl⟩
    · cases mv
      · simp only [Bool.false_eq_true, if_false, Option.bind_eq_some_iff, Option.some.injEq, Prod.mk.injEq] at h ⊢
        obtain ⟨x, hx, y, hy, rfl, ho⟩ := h
        obtain ⟨o1, o2⟩ := and_t ho
        exact ⟨x.1, lendRowS_eq (by rw [hx, ← o1]), y.1, renArgsS_eq (by rw [hy, ← o2]), rfl⟩
      · simp only [if_true, Option.bind_eq_some_iff, Option.some.injEq, Prod.mk.injEq] at h ⊢
        obtain ⟨x, hx, y, hy, rfl, ho⟩ := h
        obtain ⟨o1, o2⟩ := and_t ho
        exact ⟨x.1, renRowS_eq (by rw [hx, ← o1]), y.1, renArgsS_eq (by rw [hy, ← o2]), rfl⟩
    · simp at h

/-! Collecting: a list is known by its number. -/
def hasL : List Src → Nat → Nat → Nat → Option Bool
  | [], _, _, _ => none
  | .lst id o l :: r, j, off, len => if id = j then some (decide (o = off) && decide (l = len)) else hasL r j off len
  | _ :: r, j, off, len => hasL r j off len
theorem hasL_some : ∀ {l : List Src} {j off len : Nat}, hasL l j off len = some true → Src.lst j off len ∈ l
  | [], j, off, len, h => by simp [hasL] at h
  | .lst id o l :: r, j, off, len, h => by
    simp only [hasL] at h
    split at h
    · rename_i e
      simp only [Option.some.injEq, Bool.and_eq_true, decide_eq_true_eq] at h
      rw [e, h.1, h.2]
      exact List.mem_cons_self ..
    · exact List.mem_cons_of_mem _ (hasL_some h)
  | .box _ _ _ :: r, j, off, len, h => List.mem_cons_of_mem _ (hasL_some (l := r) h)
  | .nil _ :: r, j, off, len, h => List.mem_cons_of_mem _ (hasL_some (l := r) h)
theorem hasL_none : ∀ {l : List Src} {j off len : Nat}, hasL l j off len = none → Src.lst j off len ∉ l
  | [], j, off, len, h => by simp
  | .lst id o l :: r, j, off, len, h => by
    simp only [hasL] at h
    split at h
    · simp at h
    · rename_i e
      simp only [List.mem_cons, Src.lst.injEq, not_or]
      exact ⟨fun x => e x.1.symm, hasL_none h⟩
  | .box _ _ _ :: r, j, off, len, h => by
    simp only [List.mem_cons, reduceCtorEq, false_or]
    exact hasL_none (l := r) h
  | .nil _ :: r, j, off, len, h => by
    simp only [List.mem_cons, reduceCtorEq, false_or]
    exact hasL_none (l := r) h
def visLS (l : List Src × Bool) : T → List Src × Bool
  | .sl id off len => match hasL l.1 id off len with
    | some b => (l.1, b && l.2)
    | none => (l.1 ++ [.lst id off len], l.2)
  | .nls n => (l.1 ++ [.nil n], l.2)
  | _ => l
theorem visLS_eq {l : List Src × Bool} {t : T} (h : (visLS l t).2 = true) : l.2 = true ∧ (visLS l t).1 = visL l.1 t := by
  cases t with
  | sl id off len =>
    simp only [visLS] at h ⊢
    cases hl : hasL l.1 id off len with
    | none =>
      simp only [hl] at h ⊢
      refine ⟨h, ?_⟩
      simp only [visL, addS, hasL_none hl, if_false]
    | some b =>
      simp only [hl] at h ⊢
      obtain ⟨h1, h2⟩ := and_t h
      subst h1
      refine ⟨h2, ?_⟩
      simp only [visL, addS, hasL_some hl, if_true]
  | _ => exact ⟨h, rfl⟩
theorem foldLS_eq : ∀ {ts : Row} {l : List Src × Bool}, (ts.foldl visLS l).2 = true → l.2 = true ∧ (ts.foldl visLS l).1 = ts.foldl visL l.1
  | [], l, h => ⟨h, rfl⟩
  | t :: r, l, h => by
    rw [List.foldl_cons] at h
    obtain ⟨h1, h2⟩ := foldLS_eq h
    obtain ⟨h3, h4⟩ := visLS_eq h1
    refine ⟨h3, ?_⟩
    rw [List.foldl_cons, h2, h4, List.foldl_cons]
def gatherS (hp : List Blk) (bx : List Src) (cells : Row) : List Src × Bool :=
  let bx := closeB hp 6 0 bx
  let r := cells.foldl visLS ((bx.flatMap (srcCells hp)).foldl visLS ([], true))
  (bx ++ r.1, r.2)
theorem gatherS_eq {hp : List Blk} {bx : List Src} {cells : Row} (h : (gatherS hp bx cells).2 = true) : (gatherS hp bx cells).1 = gather hp bx cells := by
  unfold gatherS at h ⊢
  simp only at h ⊢
  obtain ⟨h1, h2⟩ := foldLS_eq h
  obtain ⟨-, h4⟩ := foldLS_eq h1
  rw [h2, h4]
  rfl

def enterS (hp : List Blk) (vs : List (SV × Nat × Bool)) : Option (Ent × Bool) :=
  let src := gatherS hp (vs.foldl (fun l v => (svCells v.1).foldl (visB hp v.2.1) l) []) (vs.flatMap fun v => if v.2.2 then svCells v.1 else [])
  if srcOk hp src.1 then
    (renBlksS hp src.1 0 src.1).bind fun x => (renArgsS hp src.1 x.1.2 vs).bind fun args => some (⟨args.1, x.1.1, src.1, vs.any lentSl⟩, src.2 && (x.2 && args.2))
  else none
theorem enterS_eq {hp : List Blk} {vs : List (SV × Nat × Bool)} {e : Ent} (h : enterS hp vs = some (e, true)) : enter hp vs = some e := by
  unfold enterS at h
  simp only at h
  split at h
  · rename_i hs
    simp only [Option.bind_eq_some_iff, Option.some.injEq, Prod.mk.injEq] at h
    obtain ⟨x, hx, y, hy, rfl, ho⟩ := h
    obtain ⟨o1, ho⟩ := and_t ho
    obtain ⟨o2, o3⟩ := and_t ho
    have hg := gatherS_eq o1
    have h1 := renBlksS_eq (r := x.1) (by rw [hx, ← o2])
    have h2 := renArgsS_eq (r := y.1) (by rw [hy, ← o3])
    rw [hg] at hs h1 h2
    unfold enter
    simp only
    rw [if_pos hs]
    simp only [h1, h2, Option.bind_some, hg]
  · simp at h

def renResS (src : List Src) : Nat → List SV → Option (List SV × Bool)
  | _, [] => some ([], true)
  | m, .one t :: r => (renS src m t).bind fun x => (renResS src x.1.2 r).bind fun r => some (.one x.1.1 :: r.1, x.2 && r.2)
  | m, .agg ts :: r => (renRowS src m ts).bind fun x => (renResS src x.1.2 r).bind fun r => some (.agg x.1.1 :: r.1, x.2 && r.2)
  | _, _ :: _ => none
theorem renResS_eq {src : List Src} : ∀ {vs : List SV} {m : Nat} {r : List SV}, renResS src m vs = some (r, true) → renRes src m vs = some r
  | [], m, r, h => by simpa [renResS, renRes] using h
  | .one t :: s, m, r, h => by
    simp only [renResS, Option.bind_eq_some_iff, Option.some.injEq, Prod.mk.injEq] at h
    obtain ⟨x, hx, y, hy, rfl, ho⟩ := h
    obtain ⟨o1, o2⟩ := and_t ho
    have h1 := renS_eq (r := x.1) (by rw [hx, ← o1])
    have h2 := renResS_eq (r := y.1) (by rw [hy, ← o2])
    simp [renRes, h1, h2]
  | .agg t :: s, m, r, h => by
    simp only [renResS, Option.bind_eq_some_iff, Option.some.injEq, Prod.mk.injEq] at h
    obtain ⟨x, hx, y, hy, rfl, ho⟩ := h
    obtain ⟨o1, o2⟩ := and_t ho
    have h1 := renRowS_eq (r := x.1) (by rw [hx, ← o1])
    have h2 := renResS_eq (r := y.1) (by rw [hy, ← o2])
    simp [renRes, h1, h2]
  | .und :: s, m, r, h => by simp [renResS] at h
  | .tup _ :: s, m, r, h => by simp [renResS] at h
def leaveS (nb : Nat) (σ : St) (vs : List SV) : Option ((SV × List Blk) × Bool) :=
  let src := gatherS σ.hp ((vs.flatMap svCells).foldl (visB σ.hp 0) (parBoxes σ.hp nb)) (vs.flatMap svCells)
  if srcOk σ.hp src.1 = true ∧ src.1.take nb = parBoxes σ.hp nb then
    (renBlksS σ.hp src.1 0 src.1).bind fun x => (renResS src.1 x.1.2 vs).bind fun vs => some ((pack vs.1, x.1.1), src.2 && (x.2 && vs.2))
  else none
theorem leaveS_eq {nb : Nat} {σ : St} {vs : List SV} {r : SV × List Blk} (h : leaveS nb σ vs = some (r, true)) : leave nb σ vs = some r := by
  unfold leaveS at h
  simp only at h
  split at h
  · rename_i hs
    simp only [Option.bind_eq_some_iff, Option.some.injEq, Prod.mk.injEq] at h
    obtain ⟨x, hx, y, hy, rfl, ho⟩ := h
    obtain ⟨o1, ho⟩ := and_t ho
    obtain ⟨o2, o3⟩ := and_t ho
    have hg := gatherS_eq o1
    have h1 := renBlksS_eq (r := x.1) (by rw [hx, ← o2])
    have h2 := renResS_eq (r := y.1) (by rw [hy, ← o3])
    rw [hg] at hs h1 h2
    unfold leave
    simp only
    rw [if_pos hs]
    simp only [h1, h2, Option.bind_some]
    rfl
  · simp at h

def liveSlS (σ : St) (src : List Src) : Nat → List Nat → Option (List (Nat × SV) × Bool)
  | _, [] => some ([], true)
  | m, s :: r => (lookup s σ.sl).bind fun v => match v with
    | .one t => (renS src m t).bind fun x => (liveSlS σ src x.1.2 r).bind fun l => some ((s, .one x.1.1) :: l.1, x.2 && l.2)
    | .agg ts => (renRowS src m ts).bind fun x => (liveSlS σ src x.1.2 r).bind fun l => some ((s, .agg x.1.1) :: l.1, x.2 && l.2)
    | .und => (liveSlS σ src m r).bind fun l => some ((s, .und) :: l.1, l.2)
    | _ => none
theorem liveSlS_eq {σ : St} {src : List Src} : ∀ {l : List Nat} {m : Nat} {r : List (Nat × SV)}, liveSlS σ src m l = some (r, true) → liveSl σ src m l = some r
  | [], m, r, h => by simpa [liveSlS, liveSl] using h
  | s :: t, m, r, h => by
    simp only [liveSlS, Option.bind_eq_some_iff] at h
    obtain ⟨v, hv, h⟩ := h
    simp only [liveSl, hv, Option.bind_some]
    split at h
    · simp only [Option.bind_eq_some_iff, Option.some.injEq, Prod.mk.injEq] at h ⊢
      obtain ⟨x, hx, y, hy, rfl, ho⟩ := h
      obtain ⟨o1, o2⟩ := and_t ho
      exact ⟨x.1, renS_eq (by rw [hx, ← o1]), y.1, liveSlS_eq (by rw [hy, ← o2]), rfl⟩
    · simp only [Option.bind_eq_some_iff, Option.some.injEq, Prod.mk.injEq] at h ⊢
      obtain ⟨x, hx, y, hy, rfl, ho⟩ := h
      obtain ⟨o1, o2⟩ := and_t ho
      exact ⟨x.1, renRowS_eq (by rw [hx, ← o1]), y.1, liveSlS_eq (by rw [hy, ← o2]), rfl⟩
    · simp only [Option.bind_eq_some_iff, Option.some.injEq, Prod.mk.injEq] at h ⊢
      obtain ⟨y, hy, rfl, ho⟩ := h
      exact ⟨y.1, liveSlS_eq (by rw [hy, ← ho]), rfl⟩
    · simp at h
def canonS (nb : Nat) (live : List Nat) (σ : St) : Option (St × Bool) :=
  let src := gatherS σ.hp ((liveCells σ live).foldl (visB σ.hp 0) (parBoxes σ.hp nb)) (liveCells σ live)
  if srcOk σ.hp src.1 = true ∧ src.1.take nb = parBoxes σ.hp nb then
    (renBlksS σ.hp src.1 0 src.1).bind fun x => (liveSlS σ src.1 x.1.2 live).bind fun sl => some (⟨sl.1, x.1.1⟩, src.2 && (x.2 && sl.2))
  else none
theorem canonS_eq {nb : Nat} {live : List Nat} {σ σ' : St} (h : canonS nb live σ = some (σ', true)) : canon nb live σ = some σ' := by
  unfold canonS at h
  simp only at h
  split at h
  · rename_i hs
    simp only [Option.bind_eq_some_iff, Option.some.injEq, Prod.mk.injEq] at h
    obtain ⟨x, hx, y, hy, rfl, ho⟩ := h
    obtain ⟨o1, ho⟩ := and_t ho
    obtain ⟨o2, o3⟩ := and_t ho
    have hg := gatherS_eq o1
    have h1 := renBlksS_eq (r := x.1) (by rw [hx, ← o2])
    have h2 := liveSlS_eq (r := y.1) (by rw [hy, ← o3])
    rw [hg] at hs h1 h2
    unfold canon
    simp only
    rw [if_pos hs]
    simp only [h1, h2, Option.bind_some]
  · simp at h

/-! Operations on lists. -/
def tailS (hp : List Blk) : T → Option Bool
  | .nls _ => some true
  | .sl id off len => match hp[id]? with
    | some (.lst _ rows) => some (decide (off + len = rows.length))
    | _ => none
  | _ => none
theorem tailS_eq {hp : List Blk} {t : T} (h : tailS hp t = some true) : tail? hp t = true := by
  unfold tailS at h
  unfold tail?
  split at h
  · rfl
  · split at h
    · rename_i hb
      simp only [hb]
      simpa using h
    · simp at h
  · simp at h
def appS (hp : List Blk) (by_ sz : Nat) (t s : T) : Option ((SV × List Blk) × Bool) :=
  (rowsOfS hp t).bind fun xs => (rowsOfS hp s).bind fun ys => (tailS hp t).bind fun tl =>
  if szOf hp t = some sz ∧ szOf hp s = some sz then
    some ((.one (.sl hp.length 0 (xs.1 ++ ys.1).length), killT hp t ++ [.lst sz (xs.1 ++ ys.1)]), xs.2 && (ys.2 && (tl && (decide ((xs.1.length + ys.1.length) * by_ ≤ room) && decide (xs.1.length + ys.1.length ≤ room)))))
  else none
theorem appS_eq {R : Zq.Rt} {ev : Ev} {hp : List Blk} {d by_ sz : Nat} {x y : Opd} {v u : SV} {t s : T} {r : SV × List Blk} (hx : ev x = some v) (ht : asOne v = some t) (hy : ev y = some u) (hs : asOne u = some s) (h : appS hp by_ sz t s = some (r, true)) :
    (K.app d by_ sz x y).exec R ev hp = some r := by
  simp only [appS, Option.bind_eq_some_iff] at h
  obtain ⟨xs, h1, ys, h2, tl, h3, h⟩ := h
  split at h
  · rename_i hc
    simp only [Option.some.injEq, Prod.mk.injEq, Bool.and_eq_true, decide_eq_true_eq] at h
    obtain ⟨rfl, o1, o2, o3, o4, o5⟩ := h
    subst o3
    have e1 := rowsOfS_eq (r := xs.1) (by rw [h1, ← o1])
    have e2 := rowsOfS_eq (r := ys.1) (by rw [h2, ← o2])
    simp only [K.exec, hx, ht, hy, hs, Option.bind_some, e1, e2]
    rw [if_pos ⟨tailS_eq h3, hc.1, hc.2, o4, o5⟩]
  · simp at h
def lenS (hp : List Blk) : T → Option (Int × Bool)
  | .nls _ => some (0, true)
  | .imm _ _ rows => some ((rows.length : Int), true)
  | .sl id off len => match hp[id]? with
    | some (.lst _ rows) => some ((len : Int), decide (off + len ≤ rows.length))
    | _ => none
  | _ => none
theorem lenS_eq {hp : List Blk} {t : T} {n : Int} (h : lenS hp t = some (n, true)) : ∃ rows, rowsOf hp t = some rows ∧ (rows.length : Int) = n := by
  unfold lenS at h
  unfold rowsOf
  split at h
  · simp only [Option.some.injEq, Prod.mk.injEq, and_true] at h
    exact ⟨[], rfl, by simp [← h]⟩
  · simp only [Option.some.injEq, Prod.mk.injEq, and_true] at h
    exact ⟨_, rfl, h⟩
  · split at h
    · rename_i hb
      simp only [Option.some.injEq, Prod.mk.injEq, decide_eq_true_eq] at h
      refine ⟨_, by simp only [hb]; rw [if_pos h.2], ?_⟩
      rw [← h.1, List.length_take, List.length_drop, Nat.min_eq_left (by omega)]
    · simp at h
  · simp at h
def cutS (hp : List Blk) (sz : Nat) (t : T) (n l h : Int) : Option (T × Bool) :=
  (match t with
    | .sl id off ln => if szOf hp (.sl id off ln) = some sz then some (.sl id (off + l.toNat) (h.toNat - l.toNat)) else none
    | .imm p m rows => if m = sz then some (.imm p m ((rows.drop l.toNat).take (h.toNat - l.toNat))) else none
    | .nls m => some (.nls m)
    | _ => none : Option T).map (·, decide (0 ≤ l) && (decide (l ≤ h) && decide (h ≤ n)))
theorem cutS_eq {hp : List Blk} {sz : Nat} {t r : T} {rows : List Row} {n l h : Int} (hn : (rows.length : Int) = n) (hc : cutS hp sz t n l h = some (r, true)) : cut hp sz t rows l h = some r := by
  simp only [cutS, Option.map_eq_some_iff, Prod.mk.injEq, Bool.and_eq_true, decide_eq_true_eq] at hc
  obtain ⟨x, hx, rfl, h1, h2, h3⟩ := hc
  unfold cut
  rw [if_pos ⟨h1, h2, by omega⟩]
  exact hx
def mksS (hp : List Blk) (by_ : Nat) (z : Row) (n c : Int) : (SV × List Blk) × Bool :=
  ((.one (.sl hp.length 0 n.toNat), hp ++ [.lst z.length (List.replicate n.toNat z)]), decide (0 ≤ n) && (decide (n ≤ c) && (decide (c * by_ ≤ room) && decide (c ≤ room))))
theorem mksS_eq {R : Zq.Rt} {ev : Ev} {hp : List Blk} {d by_ : Nat} {z : Row} {n c : Opd} {v u : SV} {k k' : IntKind} {nn cc : Int} {r : SV × List Blk} (hn : ev n = some v) (hv : asInt v = some (k, nn)) (hc : ev c = some u) (hu : asInt u = some (k', cc)) (h : mksS hp by_ z nn cc = (r, true)) :
    (K.mks d by_ z n c).exec R ev hp = some r := by
  simp only [mksS, Prod.mk.injEq, Bool.and_eq_true, decide_eq_true_eq] at h
  obtain ⟨rfl, h1, h2, h3, h4⟩ := h
  simp only [K.exec, hn, hv, hc, hu, Option.bind_some]
  rw [if_pos ⟨h1, h2, h3, h4⟩]
end Go.Zq
