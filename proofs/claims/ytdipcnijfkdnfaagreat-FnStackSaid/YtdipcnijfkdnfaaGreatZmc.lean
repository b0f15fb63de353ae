import Derived.Test.YtdipcnijfkdnfaaGreatZmb
set_option linter.unusedVariables false
set_option linter.unusedSimpArgs false
namespace Go.Zq
open Option renaming bind_eq_some_iff → qB
open Option.some renaming injEq → qI
open Prod.mk renaming injEq → qP
open Go
theorem and_t {a b : Bool} (h : (a && b) = true) : a = true ∧ b = true := by simpa using h
def findLS : List Src → Nat → Nat → Nat → Nat → Option (Nat × Bool)
 | [], _, _, _, _ => none
 | .lst id o l :: r, k, j, off, len => if id = j then some (k, decide (o = off) && decide (l = len)) else findLS r (k + 1) j off len
 | _ :: r, k, j, off, len => findLS r (k + 1) j off len
theorem findLS_eq : ∀ {l : List Src} {k j off len n : Nat}, findLS l k j off len = some (n, true) → findL l k j off len = some n
 | [], k, j, off, len, n, h => by simp [findLS] at h
 | .lst id o l :: r, k, j, off, len, n, h => by
   simp only [findLS] at h
   simp only [findL]
   split at h
   ·rename_i e
    simp only [qI, qP, Bool.and_eq_true, decide_eq_true_eq] at h
    rw [if_pos ⟨e, h.2.1, h.2.2⟩, h.1]
   ·rename_i e
    rw [if_neg (fun x => e x.1)]
    exact findLS_eq h
 | .box _ _ _ :: r, k, j, off, len, n, h => findLS_eq (l := r) h
 | .nil _ :: r, k, j, off, len, n, h => findLS_eq (l := r) h
def renS (src : List Src) (m : Nat) : T → Option ((T × Nat) × Bool)
 | .lit v => some ((.lit v, m), true)
 | .nls _ => (findN src 0 m).bind fun k => some ((.sl k 0 0, m + 1), true)
 | .sl id off len => (findLS src 0 id off len).bind fun k => some ((.sl k.1 0 len, m), k.2)
 | .imm p n rows => some ((.imm p n rows, m), true)
 | .clo f caps => (renPs src caps).bind fun caps => some ((.clo f caps, m), true)
 | .ptr id row off => (renP src (.ptr id row off)).bind fun t => some ((t, m), true)
 | .ip _ => none
theorem renS_eq {src : List Src} {m : Nat} {t : T} {r : T × Nat} (h : renS src m t = some (r, true)) : ren src m t = some r := by
 cases t with
 | lit v => simpa [renS, ren] using h
 | nls n =>
   simp only [renS, qB, qI, qP, and_true] at h
   obtain ⟨k, hk, rfl⟩ := h
   simp [ren, hk]
 | sl id off len =>
   simp only [renS, qB, qI, qP] at h
   obtain ⟨k, hk, rfl, h2⟩ := h
   have := findLS_eq (n := k.1) (by rw [hk, ← h2])
   simp [ren, this]
 | imm p n rows => simpa [renS, ren] using h
 | clo f caps =>
   simp only [renS, qB, qI, qP, and_true] at h
   obtain ⟨k, hk, rfl⟩ := h
   simp [ren, hk]
 | ptr id row off =>
   simp only [renS, qB, qI, qP, and_true] at h
   obtain ⟨k, hk, rfl⟩ := h
   simp [ren, hk]
 | ip _ => simp [renS] at h
def renRowS (src : List Src) (m : Nat) : Row → Option ((Row × Nat) × Bool)
 | [] => some (([], m), true)
 | t :: r => (renS src m t).bind fun x => (renRowS src x.1.2 r).bind fun y => some ((x.1.1 :: y.1.1, y.1.2), x.2 && y.2)
theorem renRowS_eq {src : List Src} : ∀ {m : Nat} {t : Row} {r : Row × Nat}, renRowS src m t = some (r, true) → renRow src m t = some r
 | m, [], r, h => by simpa [renRowS, renRow] using h
 | m, t :: s, r, h => by
   simp only [renRowS, qB, qI, qP] at h
   obtain ⟨x, hx, y, hy, rfl, ho⟩ := h
   obtain ⟨o1, o2⟩ := and_t ho
   have h1 := renS_eq (r := x.1) (by rw [hx, ← o1])
   have h2 := renRowS_eq (r := y.1) (by rw [hy, ← o2])
   simp [renRow, h1, h2]
def rowsOfS (wm : Bool) (hp : List Blk) : T → Option (List Row × Bool)
 | .nls _ => some ([], true)
 | .imm _ _ rows => some (rows, true)
 | .sl id off len =>
   match hp[id]? with
   | some (.lst _ rows) => if wm = true then some (rows, decide (off = 0) && decide (len = rows.length)) else some ((rows.drop off).take len, decide (off + len ≤ rows.length))
   | _ => none
 | _ => none
theorem rowsOfS_eq {wm : Bool} {hp : List Blk} {t : T} {r : List Row} (h : rowsOfS wm hp t = some (r, true)) : rowsOf hp t = some r := by
 unfold rowsOfS at h
 unfold rowsOf
 split at h
 ·simpa using h
 ·simpa using h
 ·split at h
  ·rename_i hb
   simp only [hb]
   split at h
   ·simp only [qI, qP, Bool.and_eq_true, decide_eq_true_eq] at h
    obtain ⟨rfl, rfl, rfl⟩ := h
    simp
   ·simp only [qI, qP, decide_eq_true_eq] at h
    rw [if_pos h.2, h.1]
  ·simp at h
 ·simp at h
def lendS (wm : Bool) (hp : List Blk) (src : List Src) : T → Option (T × Bool)
 | .lit v => some (.lit v, true)
 | .nls n => some (.imm false n [], true)
 | .imm p n rows => some (.imm p n rows, true)
 | .sl id off len => (szOf hp (.sl id off len)).bind fun n => (rowsOfS wm hp (.sl id off len)).bind fun rows => if src.all (notLst id) then some (.imm false n rows.1, rows.2) else none
 | .clo f caps => (renPs src caps).bind fun caps => some (.clo f caps, true)
 | .ptr id row off => (renP src (.ptr id row off)).bind fun t => some (t, true)
 | .ip _ => none
theorem lendS_eq {wm : Bool} {hp : List Blk} {src : List Src} {t r : T} (h : lendS wm hp src t = some (r, true)) : lend hp src t = some r := by
 cases t with
 | lit v => simpa [lendS, lend] using h
 | nls n => simpa [lendS, lend] using h
 | sl id off len =>
   simp only [lendS, qB] at h
   obtain ⟨n, hn, rows, hr, h⟩ := h
   split at h
   ·rename_i e
    simp only [qI, qP] at h
    have := rowsOfS_eq (r := rows.1) (by rw [hr, ← h.2])
    simp [lend, hn, this, e, h.1]
   ·simp at h
 | imm p n rows => simpa [lendS, lend] using h
 | clo f caps =>
   simp only [lendS, qB, qI, qP, and_true] at h
   obtain ⟨k, hk, rfl⟩ := h
   simp [lend, hk]
 | ptr id row off =>
   simp only [lendS, qB, qI, qP, and_true] at h
   obtain ⟨k, hk, rfl⟩ := h
   simp [lend, hk]
 | ip _ => simp [lendS] at h
def lendRowS (wm : Bool) (hp : List Blk) (src : List Src) : Row → Option (Row × Bool)
 | [] => some ([], true)
 | t :: r => (lendS wm hp src t).bind fun t => (lendRowS wm hp src r).bind fun r => some (t.1 :: r.1, t.2 && r.2)
theorem lendRowS_eq {wm : Bool} {hp : List Blk} {src : List Src} : ∀ {t r : Row}, lendRowS wm hp src t = some (r, true) → lendRow hp src t = some r
 | [], r, h => by simpa [lendRowS, lendRow] using h
 | t :: s, r, h => by
   simp only [lendRowS, qB, qI, qP] at h
   obtain ⟨x, hx, y, hy, rfl, ho⟩ := h
   obtain ⟨o1, o2⟩ := and_t ho
   have h1 := lendS_eq (r := x.1) (by rw [hx, ← o1])
   have h2 := lendRowS_eq (r := y.1) (by rw [hy, ← o2])
   simp [lendRow, h1, h2]
def renBlksS (wm : Bool) (hp : List Blk) (src : List Src) : Nat → List Src → Option ((List Blk × Nat) × Bool)
 | m, [] => some (([], m), true)
 | m, s :: r =>
   match s with
   | .box id off n =>
     (renRowS src m (srcCells hp (.box id off n))).bind fun x => (renBlksS wm hp src x.1.2 r).bind fun y => some ((.box x.1.1 :: y.1.1, y.1.2), x.2 && y.2)
   | .lst id off len =>
     (szOf hp (.sl id off len)).bind fun n => (rowsOfS wm hp (.sl id off len)).bind fun rows => (renBlksS wm hp src m r).bind fun y => some ((.lst n rows.1 :: y.1.1, y.1.2), rows.2 && y.2)
   | .nil n => (renBlksS wm hp src m r).bind fun y => some ((.lst n [] :: y.1.1, y.1.2), y.2)
theorem renBlksS_eq {wm : Bool} {hp : List Blk} {src : List Src} : ∀ {l : List Src} {m : Nat} {r : List Blk × Nat}, renBlksS wm hp src m l = some (r, true) → renBlks hp src m l = some r
 | [], m, r, h => by simpa [renBlksS, renBlks] using h
 | .box id off n :: s, m, r, h => by
   simp only [renBlksS, qB, qI, qP] at h
   obtain ⟨x, hx, y, hy, rfl, ho⟩ := h
   obtain ⟨o1, o2⟩ := and_t ho
   have h1 := renRowS_eq (r := x.1) (by rw [hx, ← o1])
   have h2 := renBlksS_eq (r := y.1) (by rw [hy, ← o2])
   simp [renBlks, h1, h2]
 | .lst id off len :: s, m, r, h => by
   simp only [renBlksS, qB, qI, qP] at h
   obtain ⟨n, hn, x, hx, y, hy, rfl, ho⟩ := h
   obtain ⟨o1, o2⟩ := and_t ho
   have h1 := rowsOfS_eq (r := x.1) (by rw [hx, ← o1])
   have h2 := renBlksS_eq (r := y.1) (by rw [hy, ← o2])
   simp [renBlks, hn, h1, h2]
 | .nil n :: s, m, r, h => by
   simp only [renBlksS, qB, qI, qP] at h
   obtain ⟨y, hy, rfl, ho⟩ := h
   have h2 := renBlksS_eq (r := y.1) (by rw [hy, ← ho])
   simp [renBlks, h2]
def renArgsS (wm : Bool) (hp : List Blk) (src : List Src) : Nat → List (SV × Nat × Bool) → Option (List SV × Bool)
 | _, [] => some ([], true)
 | m, (v, _, mv) :: r =>
   match v with
   | .one t =>
     if mv then (renS src m t).bind fun x => (renArgsS wm hp src x.1.2 r).bind fun r => some (.one x.1.1 :: r.1, x.2 && r.2)
     else (lendS wm hp src t).bind fun x => (renArgsS wm hp src m r).bind fun r => some (.one x.1 :: r.1, x.2 && r.2)
   | .agg ts =>
     if mv then (renRowS src m ts).bind fun x => (renArgsS wm hp src x.1.2 r).bind fun r => some (.agg x.1.1 :: r.1, x.2 && r.2)
     else (lendRowS wm hp src ts).bind fun x => (renArgsS wm hp src m r).bind fun r => some (.agg x.1 :: r.1, x.2 && r.2)
   | _ => none
theorem renArgsS_eq {wm : Bool} {hp : List Blk} {src : List Src} : ∀ {vs : List (SV × Nat × Bool)} {m : Nat} {r : List SV}, renArgsS wm hp src m vs = some (r, true) → renArgs hp src m vs = some r
 | [], m, r, h => by simpa [renArgsS, renArgs] using h
 | (v, n, mv) :: s, m, r, h => by
   unfold renArgsS at h
   unfold renArgs
   split at h
   ·cases mv
    ·simp only [Bool.false_eq_true, if_false, qB, qI, qP] at h ⊢
     obtain ⟨x, hx, y, hy, rfl, ho⟩ := h
     obtain ⟨o1, o2⟩ := and_t ho
     exact ⟨x.1, lendS_eq (by rw [hx, ← o1]), y.1, renArgsS_eq (by rw [hy, ← o2]), rfl⟩
    ·simp only [if_true, qB, qI, qP] at h ⊢
     obtain ⟨x, hx, y, hy, rfl, ho⟩ := h
     obtain ⟨o1, o2⟩ := and_t ho
     exact ⟨x.1, renS_eq (by rw [hx, ← o1]), y.1, renArgsS_eq (by rw [hy, ← o2]), rfl⟩
   ·cases mv
    ·simp only [Bool.false_eq_true, if_false, qB, qI, qP] at h ⊢
     obtain ⟨x, hx, y, hy, rfl, ho⟩ := h
     obtain ⟨o1, o2⟩ := and_t ho
     exact ⟨x.1, lendRowS_eq (by rw [hx, ← o1]), y.1, renArgsS_eq (by rw [hy, ← o2]), rfl⟩
    ·simp only [if_true, qB, qI, qP] at h ⊢
     obtain ⟨x, hx, y, hy, rfl, ho⟩ := h
     obtain ⟨o1, o2⟩ := and_t ho
     exact ⟨x.1, renRowS_eq (by rw [hx, ← o1]), y.1, renArgsS_eq (by rw [hy, ← o2]), rfl⟩
   ·simp at h
def hasL : List Src → Nat → Nat → Nat → Option Bool
 | [], _, _, _ => none
 | .lst id o l :: r, j, off, len => if id = j then some (decide (o = off) && decide (l = len)) else hasL r j off len
 | _ :: r, j, off, len => hasL r j off len
theorem hasL_some : ∀ {l : List Src} {j off len : Nat}, hasL l j off len = some true → Src.lst j off len ∈ l
 | [], j, off, len, h => by simp [hasL] at h
 | .lst id o l :: r, j, off, len, h => by
   simp only [hasL] at h
   split at h
   ·rename_i e
    simp only [qI, Bool.and_eq_true, decide_eq_true_eq] at h
    rw [e, h.1, h.2]
    exact List.mem_cons_self ..
   ·exact List.mem_cons_of_mem _ (hasL_some h)
 | .box _ _ _ :: r, j, off, len, h => List.mem_cons_of_mem _ (hasL_some (l := r) h)
 | .nil _ :: r, j, off, len, h => List.mem_cons_of_mem _ (hasL_some (l := r) h)
theorem hasL_none : ∀ {l : List Src} {j off len : Nat}, hasL l j off len = none → Src.lst j off len ∉ l
 | [], j, off, len, h => by simp
 | .lst id o l :: r, j, off, len, h => by
   simp only [hasL] at h
   split at h
   ·simp at h
   ·rename_i e
    simp only [List.mem_cons, Src.lst.injEq, not_or]
    exact ⟨fun x => e x.1.symm, hasL_none h⟩
 | .box _ _ _ :: r, j, off, len, h => by
   simp only [List.mem_cons, reduceCtorEq, false_or]
   exact hasL_none (l := r) h
 | .nil _ :: r, j, off, len, h => by
   simp only [List.mem_cons, reduceCtorEq, false_or]
   exact hasL_none (l := r) h
def visLS (l : List Src × Bool) : T → List Src × Bool
 | .sl id off len => match hasL l.1 id off len with
   | some b => (l.1, b && l.2)
   | none => (l.1 ++ [.lst id off len], l.2)
 | .nls n => (l.1 ++ [.nil n], l.2)
 | _ => l
theorem visLS_eq {l : List Src × Bool} {t : T} (h : (visLS l t).2 = true) : l.2 = true ∧ (visLS l t).1 = visL l.1 t := by
 cases t with
 | sl id off len =>
   simp only [visLS] at h ⊢
   cases hl : hasL l.1 id off len with
   | none =>
     simp only [hl] at h ⊢
     refine ⟨h, ?_⟩
     simp only [visL, addS, hasL_none hl, if_false]
   | some b =>
     simp only [hl] at h ⊢
     obtain ⟨h1, h2⟩ := and_t h
     subst h1
     refine ⟨h2, ?_⟩
     simp only [visL, addS, hasL_some hl, if_true]
 | _ => exact ⟨h, rfl⟩
theorem foldLS_eq : ∀ {ts : Row} {l : List Src × Bool}, (ts.foldl visLS l).2 = true → l.2 = true ∧ (ts.foldl visLS l).1 = ts.foldl visL l.1
 | [], l, h => ⟨h, rfl⟩
 | t :: r, l, h => by
   rw [List.foldl_cons] at h
   obtain ⟨h1, h2⟩ := foldLS_eq h
   obtain ⟨h3, h4⟩ := visLS_eq h1
   refine ⟨h3, ?_⟩
   rw [List.foldl_cons, h2, h4, List.foldl_cons]
def gatherS (hp : List Blk) (bx : List Src) (cells : Row) : List Src × Bool :=
 let bx := closeB hp 6 0 bx
 let r := cells.foldl visLS ((bx.flatMap (srcCells hp)).foldl visLS ([], true))
 (bx ++ r.1, r.2)
theorem gatherS_eq {hp : List Blk} {bx : List Src} {cells : Row} (h : (gatherS hp bx cells).2 = true) : (gatherS hp bx cells).1 = gather hp bx cells := by
 unfold gatherS at h ⊢
 simp only at h ⊢
 obtain ⟨h1, h2⟩ := foldLS_eq h
 obtain ⟨-, h4⟩ := foldLS_eq h1
 rw [h2, h4]
 rfl
def enterS (wm : Bool) (hp : List Blk) (vs : List (SV × Nat × Bool)) : Option (Ent × Bool) :=
 let src := gatherS hp (vs.foldl (fun l v => (svCells v.1).foldl (visB hp v.2.1) l) []) (vs.flatMap fun v => if v.2.2 then svCells v.1 else [])
 if srcOk hp src.1 then
  (renBlksS wm hp src.1 0 src.1).bind fun x => (renArgsS wm hp src.1 x.1.2 vs).bind fun args => some (⟨args.1, x.1.1, src.1, vs.any lentSl⟩, src.2 && (x.2 && args.2))
 else none
theorem enterS_eq {wm : Bool} {hp : List Blk} {vs : List (SV × Nat × Bool)} {e : Ent} (h : enterS wm hp vs = some (e, true)) : enter hp vs = some e := by
 unfold enterS at h
 simp only at h
 split at h
 ·rename_i hs
  simp only [qB, qI, qP] at h
  obtain ⟨x, hx, y, hy, rfl, ho⟩ := h
  obtain ⟨o1, ho⟩ := and_t ho
  obtain ⟨o2, o3⟩ := and_t ho
  have hg := gatherS_eq o1
  have h1 := renBlksS_eq (r := x.1) (by rw [hx, ← o2])
  have h2 := renArgsS_eq (r := y.1) (by rw [hy, ← o3])
  rw [hg] at hs h1 h2
  unfold enter
  simp only
  rw [if_pos hs]
  simp only [h1, h2, Option.bind_some, hg]
 ·simp at h
def renResS (src : List Src) : Nat → List SV → Option (List SV × Bool)
 | _, [] => some ([], true)
 | m, .one t :: r => (renS src m t).bind fun x => (renResS src x.1.2 r).bind fun r => some (.one x.1.1 :: r.1, x.2 && r.2)
 | m, .agg ts :: r => (renRowS src m ts).bind fun x => (renResS src x.1.2 r).bind fun r => some (.agg x.1.1 :: r.1, x.2 && r.2)
 | _, _ :: _ => none
theorem renResS_eq {src : List Src} : ∀ {vs : List SV} {m : Nat} {r : List SV}, renResS src m vs = some (r, true) → renRes src m vs = some r
 | [], m, r, h => by simpa [renResS, renRes] using h
 | .one t :: s, m, r, h => by
   simp only [renResS, qB, qI, qP] at h
   obtain ⟨x, hx, y, hy, rfl, ho⟩ := h
   obtain ⟨o1, o2⟩ := and_t ho
   have h1 := renS_eq (r := x.1) (by rw [hx, ← o1])
   have h2 := renResS_eq (r := y.1) (by rw [hy, ← o2])
   simp [renRes, h1, h2]
 | .agg t :: s, m, r, h => by
   simp only [renResS, qB, qI, qP] at h
   obtain ⟨x, hx, y, hy, rfl, ho⟩ := h
   obtain ⟨o1, o2⟩ := and_t ho
   have h1 := renRowS_eq (r := x.1) (by rw [hx, ← o1])
   have h2 := renResS_eq (r := y.1) (by rw [hy, ← o2])
   simp [renRes, h1, h2]
 | .und :: s, m, r, h => by simp [renResS] at h
 | .tup _ :: s, m, r, h => by simp [renResS] at h
def leaveS (wm : Bool) (nb : Nat) (σ : St) (vs : List SV) : Option ((SV × List Blk) × Bool) :=
 let src := gatherS σ.hp ((vs.flatMap svCells).foldl (visB σ.hp 0) (parBoxes σ.hp nb)) (vs.flatMap svCells)
 if srcOk σ.hp src.1 = true ∧ src.1.take nb = parBoxes σ.hp nb then
  (renBlksS wm σ.hp src.1 0 src.1).bind fun x => (renResS src.1 x.1.2 vs).bind fun vs => some ((pack vs.1, x.1.1), src.2 && (x.2 && vs.2))
 else none
theorem leaveS_eq {wm : Bool} {nb : Nat} {σ : St} {vs : List SV} {r : SV × List Blk} (h : leaveS wm nb σ vs = some (r, true)) : leave nb σ vs = some r := by
 unfold leaveS at h
 simp only at h
 split at h
 ·rename_i hs
  simp only [qB, qI, qP] at h
  obtain ⟨x, hx, y, hy, rfl, ho⟩ := h
  obtain ⟨o1, ho⟩ := and_t ho
  obtain ⟨o2, o3⟩ := and_t ho
  have hg := gatherS_eq o1
  have h1 := renBlksS_eq (r := x.1) (by rw [hx, ← o2])
  have h2 := renResS_eq (r := y.1) (by rw [hy, ← o3])
  rw [hg] at hs h1 h2
  unfold leave
  simp only
  rw [if_pos hs]
  simp only [h1, h2, Option.bind_some]
  rfl
 ·simp at h
def liveSlS (σ : St) (src : List Src) : Nat → List Nat → Option (List (Nat × SV) × Bool)
 | _, [] => some ([], true)
 | m, s :: r => (lookup s σ.sl).bind fun v => match v with
   | .one t => (renS src m t).bind fun x => (liveSlS σ src x.1.2 r).bind fun l => some ((s, .one x.1.1) :: l.1, x.2 && l.2)
   | .agg ts => (renRowS src m ts).bind fun x => (liveSlS σ src x.1.2 r).bind fun l => some ((s, .agg x.1.1) :: l.1, x.2 && l.2)
   | .und => (liveSlS σ src m r).bind fun l => some ((s, .und) :: l.1, l.2)
   | _ => none
theorem liveSlS_eq {σ : St} {src : List Src} : ∀ {l : List Nat} {m : Nat} {r : List (Nat × SV)}, liveSlS σ src m l = some (r, true) → liveSl σ src m l = some r
 | [], m, r, h => by simpa [liveSlS, liveSl] using h
 | s :: t, m, r, h => by
   simp only [liveSlS, qB] at h
   obtain ⟨v, hv, h⟩ := h
   simp only [liveSl, hv, Option.bind_some]
   split at h
   ·simp only [qB, qI, qP] at h ⊢
    obtain ⟨x, hx, y, hy, rfl, ho⟩ := h
    obtain ⟨o1, o2⟩ := and_t ho
    exact ⟨x.1, renS_eq (by rw [hx, ← o1]), y.1, liveSlS_eq (by rw [hy, ← o2]), rfl⟩
   ·simp only [qB, qI, qP] at h ⊢
    obtain ⟨x, hx, y, hy, rfl, ho⟩ := h
    obtain ⟨o1, o2⟩ := and_t ho
    exact ⟨x.1, renRowS_eq (by rw [hx, ← o1]), y.1, liveSlS_eq (by rw [hy, ← o2]), rfl⟩
   ·simp only [qB, qI, qP] at h ⊢
    obtain ⟨y, hy, rfl, ho⟩ := h
    exact ⟨y.1, liveSlS_eq (by rw [hy, ← ho]), rfl⟩
   ·simp at h
def canonS (wm : Bool) (nb : Nat) (live : List Nat) (σ : St) : Option (St × Bool) :=
 let src := gatherS σ.hp ((liveCells σ live).foldl (visB σ.hp 0) (parBoxes σ.hp nb)) (liveCells σ live)
 if srcOk σ.hp src.1 = true ∧ src.1.take nb = parBoxes σ.hp nb then
  (renBlksS wm σ.hp src.1 0 src.1).bind fun x => (liveSlS σ src.1 x.1.2 live).bind fun sl => some (⟨sl.1, x.1.1⟩, src.2 && (x.2 && sl.2))
 else none
theorem canonS_eq {wm : Bool} {nb : Nat} {live : List Nat} {σ σ' : St} (h : canonS wm nb live σ = some (σ', true)) : canon nb live σ = some σ' := by
 unfold canonS at h
 simp only at h
 split at h
 ·rename_i hs
  simp only [qB, qI, qP] at h
  obtain ⟨x, hx, y, hy, rfl, ho⟩ := h
  obtain ⟨o1, ho⟩ := and_t ho
  obtain ⟨o2, o3⟩ := and_t ho
  have hg := gatherS_eq o1
  have h1 := renBlksS_eq (r := x.1) (by rw [hx, ← o2])
  have h2 := liveSlS_eq (r := y.1) (by rw [hy, ← o3])
  rw [hg] at hs h1 h2
  unfold canon
  simp only
  rw [if_pos hs]
  simp only [h1, h2, Option.bind_some]
 ·simp at h
def tailS (hp : List Blk) : T → Option Bool
 | .nls _ => some true
 | .sl id off len => match hp[id]? with
   | some (.lst _ rows) => some (decide (off + len = rows.length))
   | _ => none
 | _ => none
theorem tailS_eq {hp : List Blk} {t : T} (h : tailS hp t = some true) : tail? hp t = true := by
 unfold tailS at h
 unfold tail?
 split at h
 ·rfl
 ·split at h
  ·rename_i hb
   simp only [hb]
   simpa using h
  ·simp at h
 ·simp at h
def appS (wm : Bool) (hp : List Blk) (by_ sz : Nat) (t s : T) : Option ((SV × List Blk) × Bool) :=
 (rowsOfS wm hp t).bind fun xs => (rowsOfS wm hp s).bind fun ys => (tailS hp t).bind fun tl =>
 if szOf hp t = some sz ∧ szOf hp s = some sz then
  some ((.one (.sl hp.length 0 (xs.1 ++ ys.1).length), killT hp t ++ [.lst sz (xs.1 ++ ys.1)]), xs.2 && (ys.2 && (tl && (decide ((xs.1.length + ys.1.length) * by_ ≤ room) && decide (xs.1.length + ys.1.length ≤ room)))))
 else none
theorem appS_eq {wm : Bool} {R : Zq.Rt} {ev : Ev} {hp : List Blk} {d by_ sz : Nat} {x y : Opd} {v u : SV} {t s : T} {r : SV × List Blk} (hx : ev x = some v) (ht : asOne v = some t) (hy : ev y = some u) (hs : asOne u = some s) (h : appS wm hp by_ sz t s = some (r, true)) :
  (K.app d by_ sz x y).exec R ev hp = some r := by
 simp only [appS, qB] at h
 obtain ⟨xs, h1, ys, h2, tl, h3, h⟩ := h
 split at h
 ·rename_i hc
  simp only [qI, qP, Bool.and_eq_true, decide_eq_true_eq] at h
  obtain ⟨rfl, o1, o2, o3, o4, o5⟩ := h
  subst o3
  have e1 := rowsOfS_eq (r := xs.1) (by rw [h1, ← o1])
  have e2 := rowsOfS_eq (r := ys.1) (by rw [h2, ← o2])
  simp only [K.exec, hx, ht, hy, hs, Option.bind_some, e1, e2]
  rw [if_pos ⟨tailS_eq h3, hc.1, hc.2, o4, o5⟩]
 ·simp at h
def lenS (hp : List Blk) : T → Option (Int × Bool)
 | .nls _ => some (0, true)
 | .imm _ _ rows => some ((rows.length : Int), true)
 | .sl id off len => match hp[id]? with
   | some (.lst _ rows) => some ((len : Int), decide (off + len ≤ rows.length))
   | _ => none
 | _ => none
theorem lenS_eq {hp : List Blk} {t : T} {n : Int} (h : lenS hp t = some (n, true)) : ∃ rows, rowsOf hp t = some rows ∧ (rows.length : Int) = n := by
 unfold lenS at h
 unfold rowsOf
 split at h
 ·simp only [qI, qP, and_true] at h
  exact ⟨[], rfl, by simp [← h]⟩
 ·simp only [qI, qP, and_true] at h
  exact ⟨_, rfl, h⟩
 ·split at h
  ·rename_i hb
   simp only [qI, qP, decide_eq_true_eq] at h
   refine ⟨_, by simp only [hb]; rw [if_pos h.2], ?_⟩
   rw [← h.1, List.length_take, List.length_drop, Nat.min_eq_left (by omega)]
  ·simp at h
 ·simp at h
def cutS (hp : List Blk) (sz : Nat) (t : T) (n l h : Int) : Option (T × Bool) :=
 (match t with
   | .sl id off ln => if szOf hp (.sl id off ln) = some sz then some (.sl id (off + l.toNat) (h.toNat - l.toNat)) else none
   | .imm p m rows => if m = sz then some (.imm p m ((rows.drop l.toNat).take (h.toNat - l.toNat))) else none
   | .nls m => some (.nls m)
   | _ => none : Option T).map (·, decide (0 ≤ l) && (decide (l ≤ h) && decide (h ≤ n)))
theorem cutS_eq {hp : List Blk} {sz : Nat} {t r : T} {rows : List Row} {n l h : Int} (hn : (rows.length : Int) = n) (hc : cutS hp sz t n l h = some (r, true)) : cut hp sz t rows l h = some r := by
 simp only [cutS, Option.map_eq_some_iff, qP, Bool.and_eq_true, decide_eq_true_eq] at hc
 obtain ⟨x, hx, rfl, h1, h2, h3⟩ := hc
 unfold cut
 rw [if_pos ⟨h1, h2, by omega⟩]
 exact hx
def mksS (hp : List Blk) (by_ : Nat) (z : Row) (n c : Int) : (SV × List Blk) × Bool :=
 ((.one (.sl hp.length 0 n.toNat), hp ++ [.lst z.length (List.replicate n.toNat z)]), decide (0 ≤ n) && (decide (n ≤ c) && (decide (c * by_ ≤ room) && decide (c ≤ room))))
theorem mksS_eq {R : Zq.Rt} {ev : Ev} {hp : List Blk} {d by_ : Nat} {z : Row} {n c : Opd} {v u : SV} {k k' : IntKind} {nn cc : Int} {r : SV × List Blk} (hn : ev n = some v) (hv : asInt v = some (k, nn)) (hc : ev c = some u) (hu : asInt u = some (k', cc)) (h : mksS hp by_ z nn cc = (r, true)) :
  (K.mks d by_ z n c).exec R ev hp = some r := by
 simp only [mksS, qP, Bool.and_eq_true, decide_eq_true_eq] at h
 obtain ⟨rfl, h1, h2, h3, h4⟩ := h
 simp only [K.exec, hn, hv, hc, hu, Option.bind_some]
 rw [if_pos ⟨h1, h2, h3, h4⟩]
def cpyS (wm : Bool) (hp : List Blk) (sz : Nat) (t s : T) : Option ((SV × List Blk) × Bool) :=
 match t with
 | .sl id off len => match hp[id]? with
   | some (.lst n rows) => (rowsOfS wm hp s).bind fun ys => if n = sz ∧ szOf hp s = some sz then
      some ((.one (I (min ys.1.length len : Nat)), hp.set id (.lst n (rows.take off ++ (ys.1.take (min ys.1.length len) ++ rows.drop (off + min ys.1.length len))))), ys.2 && decide (off + len ≤ rows.length))
     else none
   | _ => none
 | _ => none
theorem cpyS_eq {R : Zq.Rt} {ev : Ev} {wm : Bool} {hp : List Blk} {d sz : Nat} {x y : Opd} {v u : SV} {t s : T} {r : SV × List Blk} (hx : ev x = some v) (ht : asOne v = some t) (hy : ev y = some u) (hs : asOne u = some s) (h : cpyS wm hp sz t s = some (r, true)) :
  (K.cpy d sz x y).exec R ev hp = some r := by
 unfold cpyS at h
 split at h
 ·split at h
  ·rename_i id off len _ n rows hb
   simp only [qB] at h
   obtain ⟨ys, h1, h⟩ := h
   split at h
   ·rename_i hc
    simp only [qI, qP, Bool.and_eq_true, decide_eq_true_eq] at h
    obtain ⟨rfl, o1, o2⟩ := h
    have e1 := rowsOfS_eq (r := ys.1) (by rw [h1, ← o1])
    have e2 : rowsOf hp (.sl id off len) = some ((rows.drop off).take len) := by
     simp only [rowsOf, hb]
     rw [if_pos o2]
    have e3 : ((rows.drop off).take len).length = len := by
     rw [List.length_take, List.length_drop]
     omega
    simp only [K.exec, hx, ht, hy, hs, Option.bind_some, e1, e2, hb, e3]
    rw [if_pos hc]
   ·simp at h
  ·simp at h
 ·simp at h
def clrS (hp : List Blk) (sz : Nat) (z : Row) (t : T) : Option ((SV × List Blk) × Bool) :=
 match t with
 | .sl id off len => match hp[id]? with
   | some (.lst n rows) => if n = sz then
      some ((.tup [], hp.set id (.lst n (rows.take off ++ (List.replicate len z ++ rows.drop (off + len))))), decide (off + len ≤ rows.length))
     else none
   | _ => none
 | _ => none
theorem clrS_eq {R : Zq.Rt} {ev : Ev} {hp : List Blk} {sz : Nat} {z : Row} {x : Opd} {v : SV} {t : T} {r : SV × List Blk} (hx : ev x = some v) (ht : asOne v = some t) (h : clrS hp sz z t = some (r, true)) :
  (K.clr sz z x).exec R ev hp = some r := by
 unfold clrS at h
 split at h
 ·split at h
  ·rename_i id off len _ n rows hb
   split at h
   ·rename_i hc
    simp only [qI, qP, decide_eq_true_eq] at h
    obtain ⟨rfl, o2⟩ := h
    simp only [K.exec, hx, ht, Option.bind_some, hb]
    rw [if_pos ⟨hc, o2⟩]
   ·simp at h
  ·simp at h
 ·simp at h
end Go.Zq

namespace Go.Zq
open Option renaming bind_eq_some_iff → qB
open Option.some renaming injEq → qI
open Prod.mk renaming injEq → qP
open Go
abbrev Qt := FuncId → List SV → List Blk → Option ((SV × List Blk) × Bool)
def Qt.val (Q : Qt) : Rt := fun f a h => (Q f a h).map (·.1)
def QOk (R : Rt) (Q : Qt) : Prop := ∀ f a h r, Q f a h = some (r, true) → R f a h = some r
def mergeV (b : Bool) : Value → Value → Option Value
 | .int k x, .int k' y => if k = k' then some (.int k (bif b then x else y)) else none
 | .bool x, .bool y => some (.bool (bif b then x else y))
 | .string x, .string y => some (.string (bif b then x else y))
 | _, _ => none
def mergeT (b : Bool) : T → T → Option T
 | .lit v, .lit u => (mergeV b v u).bind fun v => some (.lit v)
 | .ptr i r o, .ptr i' r' o' => if i = i' ∧ r = r' ∧ o = o' then some (.ptr i r o) else none
 | .sl i o l, .sl i' o' l' => if i = i' ∧ o = o' then some (.sl i o (bif b then l else l')) else none
 | .nls n, .nls n' => if n = n' then some (.nls n) else none
 | .imm p n rows, .imm p' n' rows' => if p = p' ∧ n = n' then some (.imm p n (bif b then rows else rows')) else none
 | _, _ => none
def mergeRow (b : Bool) : Row → Row → Option Row
 | [], [] => some []
 | x :: r, y :: s => (mergeT b x y).bind fun z => (mergeRow b r s).bind fun t => some (z :: t)
 | _, _ => none
def mergeFl (b : Bool) : SV → SV → Option SV
 | .und, .und => some .und
 | .one t, .one u => (mergeT b t u).bind fun t => some (.one t)
 | .agg ts, .agg us => (mergeRow b ts us).bind fun ts => some (.agg ts)
 | _, _ => none
def mergeFls (b : Bool) : List SV → List SV → Option (List SV)
 | [], [] => some []
 | x :: r, y :: s => (mergeFl b x y).bind fun z => (mergeFls b r s).bind fun t => some (z :: t)
 | _, _ => none
def mergeSV (b : Bool) : SV → SV → Option SV
 | .tup vs, .tup us => (mergeFls b vs us).bind fun vs => some (.tup vs)
 | v, u => mergeFl b v u
def mergeBlk (b : Bool) : Blk → Blk → Option Blk
 | .dead, .dead => some .dead
 | .box cs, .box ds => (mergeRow b cs ds).bind fun cs => some (.box cs)
 | .lst n rows, .lst n' rows' => if n = n' then some (.lst n (bif b then rows else rows')) else none
 | _, _ => none
def mergeHp (b : Bool) : List Blk → List Blk → Option (List Blk)
 | [], [] => some []
 | x :: r, y :: s => (mergeBlk b x y).bind fun z => (mergeHp b r s).bind fun t => some (z :: t)
 | _, _ => none
theorem mergeV_eq {b : Bool} {v u w : Value} (h : mergeV b v u = some w) : w = bif b then v else u := by
 unfold mergeV at h
 split at h
 ·split at h
  ·rename_i k x k' y e
   subst e
   cases b <;> simp_all
  ·simp at h
 ·cases b <;> simp_all
 ·cases b <;> simp_all
 ·simp at h
theorem mergeT_eq {b : Bool} {v u w : T} (h : mergeT b v u = some w) : w = bif b then v else u := by
 unfold mergeT at h
 split at h
 ·simp only [qB, qI] at h
  obtain ⟨z, hz, rfl⟩ := h
  rw [mergeV_eq hz]
  cases b <;> rfl
 ·split at h
  ·rename_i e; obtain ⟨rfl, rfl, rfl⟩ := e; cases b <;> simp_all
  ·simp at h
 ·split at h
  ·rename_i e; obtain ⟨rfl, rfl⟩ := e; cases b <;> simp_all
  ·simp at h
 ·split at h
  ·rename_i e; subst e; cases b <;> simp_all
  ·simp at h
 ·split at h
  ·rename_i e; obtain ⟨rfl, rfl⟩ := e; cases b <;> simp_all
  ·simp at h
 ·simp at h
theorem mergeRow_eq {b : Bool} : ∀ {v u w : Row}, mergeRow b v u = some w → w = bif b then v else u
 | [], [], w, h => by cases b <;> simp_all [mergeRow]
 | x :: r, y :: s, w, h => by
   simp only [mergeRow, qB, qI] at h
   obtain ⟨z, hz, t, ht, rfl⟩ := h
   rw [mergeT_eq hz, mergeRow_eq ht]
   cases b <;> rfl
 | [], _ :: _, w, h => by simp [mergeRow] at h
 | _ :: _, [], w, h => by simp [mergeRow] at h
theorem mergeFl_eq {b : Bool} {v u w : SV} (h : mergeFl b v u = some w) : w = bif b then v else u := by
 unfold mergeFl at h
 split at h
 ·cases b <;> simp_all
 ·simp only [qB, qI] at h
  obtain ⟨z, hz, rfl⟩ := h
  rw [mergeT_eq hz]
  cases b <;> rfl
 ·simp only [qB, qI] at h
  obtain ⟨z, hz, rfl⟩ := h
  rw [mergeRow_eq hz]
  cases b <;> rfl
 ·simp at h
theorem mergeFls_eq {b : Bool} : ∀ {v u w : List SV}, mergeFls b v u = some w → w = bif b then v else u
 | [], [], w, h => by cases b <;> simp_all [mergeFls]
 | x :: r, y :: s, w, h => by
   simp only [mergeFls, qB, qI] at h
   obtain ⟨z, hz, t, ht, rfl⟩ := h
   rw [mergeFl_eq hz, mergeFls_eq ht]
   cases b <;> rfl
 | [], _ :: _, w, h => by simp [mergeFls] at h
 | _ :: _, [], w, h => by simp [mergeFls] at h
theorem mergeSV_eq {b : Bool} {v u w : SV} (h : mergeSV b v u = some w) : w = bif b then v else u := by
 unfold mergeSV at h
 split at h
 ·simp only [qB, qI] at h
  obtain ⟨z, hz, rfl⟩ := h
  rw [mergeFls_eq hz]
  cases b <;> rfl
 ·exact mergeFl_eq h
theorem mergeBlk_eq {b : Bool} {v u w : Blk} (h : mergeBlk b v u = some w) : w = bif b then v else u := by
 unfold mergeBlk at h
 split at h
 ·cases b <;> simp_all
 ·simp only [qB, qI] at h
  obtain ⟨z, hz, rfl⟩ := h
  rw [mergeRow_eq hz]
  cases b <;> rfl
 ·split at h
  ·rename_i e; subst e; cases b <;> simp_all
  ·simp at h
 ·simp at h
theorem mergeHp_eq {b : Bool} : ∀ {v u w : List Blk}, mergeHp b v u = some w → w = bif b then v else u
 | [], [], w, h => by cases b <;> simp_all [mergeHp]
 | x :: r, y :: s, w, h => by
   simp only [mergeHp, qB, qI] at h
   obtain ⟨z, hz, t, ht, rfl⟩ := h
   rw [mergeBlk_eq hz, mergeHp_eq ht]
   cases b <;> rfl
 | [], _ :: _, w, h => by simp [mergeHp] at h
 | _ :: _, [], w, h => by simp [mergeHp] at h
def binS (o : BinOp) : Value → Value → Option (Value × Bool)
 | .int k x, .int k' y =>
   match o with
   | .shl => some (.int k (k.wrap (x * 2 ^ min y.toNat k.bits)), decide (0 ≤ y))
   | .shr => some (.int k (x.fdiv (2 ^ min y.toNat k.bits)), decide (0 ≤ y))
   | .quo => if k = k' then some (.int k (k.wrap (x.tdiv y)), y != 0) else none
   | .rem => if k = k' then some (.int k (x.tmod y), y != 0) else none
   | o => if k = k' then (binInt o k x y).map (·, true) else none
 | v, u => (binT o v u).map (·, true)
theorem binS_eq {o : BinOp} {v u r : Value} (h : binS o v u = some (r, true)) : binT o v u = some r := by
 unfold binS at h
 split at h
 ·rename_i k x k' y
  split at h
  ·simp only [qI, qP, decide_eq_true_eq] at h
   obtain ⟨rfl, hy⟩ := h
   simp [binT, show ¬ y < 0 by omega]
  ·simp only [qI, qP, decide_eq_true_eq] at h
   obtain ⟨rfl, hy⟩ := h
   simp [binT, show ¬ y < 0 by omega]
  ·split at h
   ·simp only [qI, qP, bne_iff_ne, ne_eq] at h
    obtain ⟨rfl, hy⟩ := h
    simp_all [binT, binInt]
   ·simp at h
  ·split at h
   ·simp only [qI, qP, bne_iff_ne, ne_eq] at h
    obtain ⟨rfl, hy⟩ := h
    simp_all [binT, binInt]
   ·simp at h
  ·split at h
   ·simp only [Option.map_eq_some_iff, qP, and_true] at h
    obtain ⟨r', hr, rfl⟩ := h
    rename_i hk _ _ _ _
    cases o <;> simp_all [binT]
   ·simp at h
 ·simp only [Option.map_eq_some_iff, qP, and_true] at h
  obtain ⟨r', hr, rfl⟩ := h
  exact hr
def frzTS (hp : List Blk) : T → Option (T × Bool)
 | .lit v => some (.lit v, true)
 | .nls n => some (.nls n, true)
 | .imm p n rows => some (.imm p n rows, true)
 | .sl id off len => match hp[id]? with
   | some (.lst n rows) => if off = 0 then some (.imm true n rows, decide (len = rows.length)) else none
   | _ => none
 | _ => none
theorem frzTS_eq {hp : List Blk} {t r : T} (h : frzTS hp t = some (r, true)) : frzT hp t = some r := by
 cases t with
 | sl id off len =>
   simp only [frzTS] at h
   split at h
   ·rename_i n rows hb
    split at h
    ·rename_i e
     subst e
     simp only [qI, qP, decide_eq_true_eq] at h
     obtain ⟨rfl, rfl⟩ := h
     simp [frzT, szOf, rowsOf, hb]
    ·simp at h
   ·simp at h
 | lit | nls | imm => simp only [frzTS, qI, qP, and_true] at h; rw [← h]; rfl
 | ptr | ip | clo => simp [frzTS] at h
def frzRowS (hp : List Blk) : Row → Option (Row × Bool)
 | [] => some ([], true)
 | t :: r => (frzTS hp t).bind fun t => (frzRowS hp r).bind fun r => some (t.1 :: r.1, t.2 && r.2)
theorem frzRowS_eq {hp : List Blk} : ∀ {t r : Row}, frzRowS hp t = some (r, true) → frzRow hp t = some r
 | [], r, h => by simp only [frzRowS, qI, qP, and_true] at h; subst h; rfl
 | t :: s, r, h => by
   simp only [frzRowS, qB, qI, qP] at h
   obtain ⟨x, hx, y, hy, rfl, ho⟩ := h
   obtain ⟨o1, o2⟩ := and_t ho
   simp only [frzRow, frzTS_eq (r := x.1) (by rw [hx, ← o1]), Option.bind_some, frzRowS_eq (r := y.1) (by rw [hy, ← o2])]
def frzFlS (hp : List Blk) : SV → Option (SV × Bool)
 | .one t => (frzTS hp t).bind fun t => some (.one t.1, t.2)
 | .agg ts => (frzRowS hp ts).bind fun ts => some (.agg ts.1, ts.2)
 | _ => none
theorem frzFlS_eq {hp : List Blk} {t r : SV} (h : frzFlS hp t = some (r, true)) : frzFl hp t = some r := by
 cases t with
 | one t =>
   simp only [frzFlS, qB, qI, qP] at h
   obtain ⟨x, hx, rfl, ho⟩ := h
   simp only [frzFl, frzTS_eq (r := x.1) (by rw [hx, ← ho]), Option.bind_some]
 | agg t =>
   simp only [frzFlS, qB, qI, qP] at h
   obtain ⟨x, hx, rfl, ho⟩ := h
   simp only [frzFl, frzRowS_eq (r := x.1) (by rw [hx, ← ho]), Option.bind_some]
 | und => simp [frzFlS] at h
 | tup => simp [frzFlS] at h
def frzFlsS (hp : List Blk) : List SV → Option (List SV × Bool)
 | [] => some ([], true)
 | t :: r => (frzFlS hp t).bind fun t => (frzFlsS hp r).bind fun r => some (t.1 :: r.1, t.2 && r.2)
theorem frzFlsS_eq {hp : List Blk} : ∀ {t r : List SV}, frzFlsS hp t = some (r, true) → frzFls hp t = some r
 | [], r, h => by simp only [frzFlsS, qI, qP, and_true] at h; subst h; rfl
 | t :: s, r, h => by
   simp only [frzFlsS, qB, qI, qP] at h
   obtain ⟨x, hx, y, hy, rfl, ho⟩ := h
   obtain ⟨o1, o2⟩ := and_t ho
   simp only [frzFls, frzFlS_eq (r := x.1) (by rw [hx, ← o1]), Option.bind_some, frzFlsS_eq (r := y.1) (by rw [hy, ← o2])]
def frzSVS (hp : List Blk) : SV → Option (SV × Bool)
 | .tup vs => (frzFlsS hp vs).bind fun vs => some (.tup vs.1, vs.2)
 | v => frzFlS hp v
theorem frzSVS_eq {hp : List Blk} {t r : SV} (h : frzSVS hp t = some (r, true)) : frzSV hp t = some r := by
 cases t with
 | tup vs =>
   simp only [frzSVS, qB, qI, qP] at h
   obtain ⟨x, hx, rfl, ho⟩ := h
   simp only [frzSV, frzFlsS_eq (r := x.1) (by rw [hx, ← ho]), Option.bind_some]
 | one t => exact frzFlS_eq (hp := hp) (t := .one t) h
 | agg t => exact frzFlS_eq (hp := hp) (t := .agg t) h
 | und => exact frzFlS_eq (hp := hp) (t := .und) h
noncomputable def frzR (R : Rt) : Rt := fun f a h => if f < 100000 then R f a h else (R (f - 100000) a h).bind fun r => (frzSV r.2 r.1).bind fun v => some (v, [])
theorem frz_lo {R : Rt} {f : FuncId} (h : f < 100000) {a : List SV} {hp : List Blk} : frzR R f a hp = R f a hp := by simp only [frzR]; rw [if_pos h]
theorem frz_hi {R : Rt} {f : FuncId} {a : List SV} {hp : List Blk} : frzR R (f + 100000) a hp = (R f a hp).bind fun r => (frzSV r.2 r.1).bind fun v => some (v, []) := by
 simp only [frzR]
 rw [if_neg (Nat.not_lt.2 (Nat.le_add_left 100000 f))]
 exact congrArg (fun g => (R g a hp).bind fun r => (frzSV r.2 r.1).bind fun v => some (v, [])) (Nat.add_sub_cancel (n := f) (m := 100000))
def doCallS (Q : Qt) (wm : Bool) (hp : List Blk) (pu : Bool) (f : FuncId) (vs : List (SV × Nat × Bool)) : Option ((SV × List Blk) × Bool) :=
 if pu = true then
  (renArgsS wm hp [] 0 vs).bind fun args => (Q (f + 100000) args.1 []).bind fun r =>
  if vs.any lentSl = false ∨ svNoLent r.1.1 = true then some ((r.1.1, hp), args.2 && r.2) else none
 else if f < 100000 then
  (enterS wm hp vs).bind fun e => (Q f e.1.args e.1.hp).bind fun r => (back hp e.1 r.1.1 r.1.2).bind fun x => some (x, e.2 && r.2)
 else none
theorem doCallS_sound {R : Rt} {Q : Qt} (hQ : QOk (frzR R) Q) {wm : Bool} {hp : List Blk} {pu : Bool} {f : FuncId} {vs : List (SV × Nat × Bool)} {r : SV × List Blk} (h : doCallS Q wm hp pu f vs = some (r, true)) : doCall R hp pu f vs = some r := by
 unfold doCallS at h
 unfold doCall
 split at h
 ·rename_i hpu
  rw [if_pos hpu]
  simp only [qB] at h ⊢
  obtain ⟨args, h1, q, hq, h⟩ := h
  split at h
  ·rename_i hc
   simp only [qI, qP] at h
   obtain ⟨rfl, ho⟩ := h
   obtain ⟨o1, o2⟩ := and_t ho
   have hR := hQ _ _ _ q.1 (by rw [hq, ← o2])
   rw [frz_hi] at hR
   simp only [qB, qI] at hR
   obtain ⟨r, hr, v, hv, e⟩ := hR
   refine ⟨args.1, renArgsS_eq (by rw [h1, ← o1]), r, hr, v, hv, ?_⟩
   rw [← e] at hc
   rw [if_pos hc, ← e]
  ·simp at h
 ·rename_i hpu
  rw [if_neg hpu]
  split at h
  ·rename_i hf
   simp only [qB, qI, qP] at h ⊢
   obtain ⟨e, h1, q, hq, x, hx, rfl, ho⟩ := h
   obtain ⟨o1, o2⟩ := and_t ho
   have hR := hQ _ _ _ q.1 (by rw [hq, ← o2])
   rw [frz_lo hf] at hR
   exact ⟨e.1, enterS_eq (by rw [h1, ← o1]), q.1, hR, hx⟩
  ·simp at h
inductive Kd where
 | int (k : IntKind)
 | bool
 | str
 | imm (n : Nat)
def isK : Kd → T → Bool
 | .int k, .lit (.int k' _) => k == k'
 | .bool, .lit (.bool _) => true
 | .str, .lit (.string _) => true
 | .imm n, .imm p n' _ => p && n == n'
 | _, _ => false
def areK : List Kd → Row → Bool
 | [], _ => true
 | k :: ks, t :: r => isK k t && areK ks r
 | _ :: _, [] => false
def cellAt (rows : List Row) (j i : Nat) : T := (rows.getD j []).getD i (.nls 0)
def tInt : T → Int
 | .lit (.int _ z) => z
 | _ => 0
def tBool : T → Bool
 | .lit (.bool z) => z
 | _ => false
def tStr : T → ByteArray
 | .lit (.string z) => z
 | _ => .empty
def tRows : T → List Row
 | .imm _ _ rows => rows
 | _ => []
def intAt (rows : List Row) (j i : Nat) : Int := tInt (cellAt rows j i)
def boolAt (rows : List Row) (j i : Nat) : Bool := tBool (cellAt rows j i)
def strAt (rows : List Row) (j i : Nat) : ByteArray := tStr (cellAt rows j i)
def rowsAt (rows : List Row) (j i : Nat) : List Row := tRows (cellAt rows j i)
def ofK (rows : List Row) (j i : Nat) : Kd → T
 | .int k => .lit (.int k (intAt rows j i))
 | .bool => .lit (.bool (boolAt rows j i))
 | .str => .lit (.string (strAt rows j i))
 | .imm n => .imm true n (rowsAt rows j i)
def rowAt (rows : List Row) (j : Nat) : Nat → List Kd → Row
 | _, [] => []
 | i, k :: ks => ofK rows j i k :: rowAt rows j (i + 1) ks
def hasRow (kds : List Kd) (rows : List Row) (j i : Nat) : Bool := Nat.blt j rows.length && areK kds ((rows.getD j []).drop i)
def inRow (kds : List Kd) (rows : List Row) (j : Int) : Bool := decide (0 ≤ j) && (hasRow kds rows j.toNat 0 && (rows.getD j.toNat []).length == kds.length)
theorem ofK_eq {rows : List Row} {j i : Nat} {k : Kd} {t : T} (ht : cellAt rows j i = t) (hk : isK k t = true) : ofK rows j i k = t := by
 unfold isK at hk
 split at hk
 ·simp only [ofK, intAt, ht, tInt, beq_iff_eq] at hk ⊢
  rw [hk]
 ·simp only [ofK, boolAt, ht, tBool]
 ·simp only [ofK, strAt, ht, tStr]
 ·simp only [Bool.and_eq_true, beq_iff_eq] at hk
  simp only [ofK, rowsAt, ht, tRows]
  rw [hk.1, hk.2]
 ·simp at hk
theorem rowAt_eq {rows : List Row} {j : Nat} : ∀ {kds : List Kd} {i : Nat}, areK kds ((rows.getD j []).drop i) = true → rowAt rows j i kds = ((rows.getD j []).drop i).take kds.length
 | [], i, h => by simp [rowAt]
 | k :: ks, i, h => by
   cases hd : (rows.getD j []).drop i with
   | nil => rw [hd] at h; simp [areK] at h
   | cons t r =>
     rw [hd] at h
     simp only [areK, Bool.and_eq_true] at h
     have hr : (rows.getD j []).drop (i + 1) = r := by
      rw [← List.drop_drop, hd]
      rfl
     have ht : cellAt rows j i = t := by
      have : (rows.getD j [])[i]? = some t := by
       have := congrArg (·[0]?) hd
       simpa [List.getElem?_drop] using this
      simp only [cellAt, List.getD_eq_getElem?_getD] at this ⊢
      rw [this]
      rfl
     simp only [rowAt, ofK_eq ht h.1, List.length_cons, List.take_succ_cons]
     rw [rowAt_eq (by rw [hr]; exact h.2), hr]
theorem getD_row {rows : List Row} {j : Nat} (h : Nat.blt j rows.length = true) : rows[j]? = some (rows.getD j []) := by
 have : j < rows.length := by simpa using h
 simp [List.getD_eq_getElem?_getD, this]
def kdOf (d : Nat) : List (Nat × List Kd) → Option (List Kd)
 | [] => none
 | (m, v) :: r => if m = d then some v else kdOf d r
def idxS (hp : List Blk) (sz : Nat) (kds : List Kd) (t : T) (j : Int) : Option (SV × Bool) :=
 match t with
 | .sl id off ln => if szOf hp (.sl id off ln) = some sz then some (.one (.ptr id (off + j.toNat) 0), decide (0 ≤ j) && decide (j < ln)) else none
 | .imm _ n rows => if n = sz then some (.one (.ip (rowAt rows j.toNat 0 kds)), inRow kds rows j) else none
 | _ => none
theorem idxS_eq {hp : List Blk} {sz : Nat} {kds : List Kd} {t : T} {j : Int} {v : SV} (h : idxS hp sz kds t j = some (v, true)) : idx hp sz t j = some v := by
 unfold idxS at h
 split at h
 ·split at h
  ·rename_i hs
   simp only [qI, qP, Bool.and_eq_true, decide_eq_true_eq] at h
   obtain ⟨rfl, h⟩ := h
   simp only [idx]
   rw [if_pos h, if_pos hs]
  ·simp at h
 ·split at h
  ·rename_i hs
   simp only [qI, qP, inRow, hasRow, Bool.and_eq_true, decide_eq_true_eq, beq_iff_eq] at h
   obtain ⟨rfl, h0, ⟨h1, h2⟩, h3⟩ := h
   simp only [idx]
   rw [if_pos ⟨h0, hs⟩, getD_row h1, Option.map_some, rowAt_eq h2, List.drop_zero, ← h3, List.take_length]
  ·simp at h
 ·simp at h
def ldS (hp : List Blk) (n : Option Nat) (kds : List Kd) (t : T) : Option (SV × Bool) :=
 match t with
 | .ptr id row off =>
   match hp[id]? with
   | some (.lst _ rows) => (SV.of n (rowAt rows row off kds)).bind fun v => some (v, hasRow kds rows row off)
   | _ => (cellsAt hp t).bind fun cs => (SV.of n cs).bind fun v => some (v, true)
 | _ => (cellsAt hp t).bind fun cs => (SV.of n cs).bind fun v => some (v, true)
theorem of_take {n : Option Nat} {cs : Row} {m : Nat} {v : SV} (h : SV.of n (cs.take m) = some v) : SV.of n cs = some v := by
 cases n with
 | none =>
   cases cs with
   | nil => simp [SV.of] at h
   | cons t r =>
     cases m with
     | zero => simp [SV.of] at h
     | succ m => simpa [SV.of] using h
 | some k =>
   simp only [SV.of] at h ⊢
   split at h
   ·rename_i hk
    rw [List.length_take] at hk
    rw [if_pos (by omega), ← h, List.take_take, Nat.min_eq_left (by omega)]
   ·simp at h
theorem ldS_eq {hp : List Blk} {n : Option Nat} {kds : List Kd} {t : T} {v : SV} (h : ldS hp n kds t = some (v, true)) : ((cellsAt hp t).bind fun cs => SV.of n cs) = some v := by
 unfold ldS at h
 split at h
 ·split at h
  ·rename_i id row off _ sz rows hb
   simp only [qB, qI, qP, hasRow, Bool.and_eq_true] at h
   obtain ⟨u, hu, rfl, h1, h2⟩ := h
   simp only [cellsAt, hb, getD_row h1, Option.map_some, Option.bind_some]
   rw [rowAt_eq h2] at hu
   exact of_take hu
  ·simp only [qB, qI, qP, and_true] at h ⊢
   obtain ⟨cs, hc, u, hu, rfl⟩ := h
   exact ⟨cs, hc, hu⟩
 ·simp only [qB, qI, qP, and_true] at h ⊢
  obtain ⟨cs, hc, u, hu, rfl⟩ := h
  exact ⟨cs, hc, hu⟩
def stS (hp : List Blk) (n : Nat) (t : T) (new : Row) : Option (List Blk × Bool) :=
 match t with
 | .ptr id row off =>
   match hp[id]? with
   | some (.lst sz rows) =>
     if off = 0 ∧ n = sz ∧ new.length = n ∧ new.all inList = true then some (hp.set id (.lst sz (rows.set row new)), Nat.blt row rows.length && (rows.getD row []).length == n)
     else if new.length = n ∧ new.all inList = true then some (hp.set id (.lst sz (rows.set row (wr (rows.getD row []) off new))), Nat.blt row rows.length && decide (off + n ≤ (rows.getD row []).length))
     else none
   | _ => (store hp n t new).map (·, true)
 | _ => (store hp n t new).map (·, true)
theorem stS_eq {hp hp' : List Blk} {n : Nat} {t : T} {new : Row} (h : stS hp n t new = some (hp', true)) : store hp n t new = some hp' := by
 unfold stS at h
 split at h
 ·split at h
  ·rename_i id row off _ sz rows hb
   split at h
   ·rename_i hc
    obtain ⟨rfl, rfl, hn, ha⟩ := hc
    simp only [qI, qP, Bool.and_eq_true, beq_iff_eq] at h
    obtain ⟨rfl, h1, h2⟩ := h
    simp only [store, hn, if_true, hb, getD_row h1, ha, and_true, Nat.zero_add, h2, Nat.le_refl]
    congr 4
    simp only [wr, List.take_zero, List.nil_append, Nat.zero_add, hn, ← h2, List.drop_length, List.append_nil]
   ·split at h
    ·rename_i hc
     obtain ⟨hn, ha⟩ := hc
     simp only [qI, qP, Bool.and_eq_true, decide_eq_true_eq] at h
     obtain ⟨rfl, h1, h2⟩ := h
     simp only [store, hn, if_true, hb, getD_row h1]
     rw [if_pos ⟨h2, ha⟩]
    ·simp at h
  ·simp only [Option.map_eq_some_iff, qP, and_true] at h
   obtain ⟨x, hx, rfl⟩ := h
   exact hx
 ·simp only [Option.map_eq_some_iff, qP, and_true] at h
  obtain ⟨x, hx, rfl⟩ := h
  exact hx
def exK (Q : Qt) (kd : List (Nat × List Kd)) (ev : Ev) (hp : List Blk) : K → Option ((SV × List Blk) × Bool)
 | .bin _ o x y => (ev x).bind fun v => (asLit v).bind fun v => (ev y).bind fun u => (asLit u).bind fun u => (binS o v u).bind fun r => some ((.one (.lit r.1), hp), r.2)
 | .pick _ c x y => (ev c).bind fun c => (asBool c).bind fun c => (ev x).bind fun v => (ev y).bind fun u => (mergeSV c v u).bind fun v => some ((v, hp), true)
 | .call d pu f xs => (argCells ev xs).bind fun vs => doCallS Q (kdOf (d.getD 0) kd).isNone hp pu f vs
 | .calv d pu f xs => (ev f).bind fun g => match g with
   | .one (.clo f caps) => (argCells ev xs).bind fun vs => doCallS Q (kdOf (d.getD 0) kd).isNone hp pu f (vs ++ caps.map fun c => (.one c, 0, false))
   | _ => none
 | .ia d sz x j => match kdOf d kd with
   | some kds => (ev x).bind fun v => (asOne v).bind fun t => (ev j).bind fun u => (asInt u).bind fun u => (idxS hp sz kds t u.2).bind fun r => some ((r.1, hp), r.2)
   | none => ((K.ia d sz x j).exec Q.val ev hp).map (·, true)
 | .ld d n x => match kdOf d kd with
   | some kds => (ev x).bind fun v => (asOne v).bind fun t => (ldS hp n kds t).bind fun r => some ((r.1, hp), r.2)
   | none => ((K.ld d n x).exec Q.val ev hp).map (·, true)
 | .st n x y => (ev x).bind fun v => (asOne v).bind fun t => (ev y).bind fun u => u.cells.bind fun cs => (stS hp n t cs).bind fun r => some ((.und, r.1), r.2)
 | .app d by_ sz x y => (ev x).bind fun v => (asOne v).bind fun t => (ev y).bind fun u => (asOne u).bind fun s => appS (kdOf d kd).isNone hp by_ sz t s
 | .len _ x => (ev x).bind fun v => (asOne v).bind fun t => (lenS hp t).bind fun r => some ((.one (I r.1), hp), r.2)
 | .slc _ sz x lo hi => (ev x).bind fun v => (asOne v).bind fun t => (lenS hp t).bind fun n => (bound ev 0 lo).bind fun l => (match hi with | none => some n.1 | some o => bound ev 0 (some o)).bind fun h => (cutS hp sz t n.1 l h).bind fun r => some ((.one r.1, hp), n.2 && r.2)
 | .mks _ by_ z n c => (ev n).bind fun v => (asInt v).bind fun v => (ev c).bind fun u => (asInt u).bind fun u => some (mksS hp by_ z v.2 u.2)
 | .cpy d sz x y => (ev x).bind fun v => (asOne v).bind fun t => (ev y).bind fun u => (asOne u).bind fun s => cpyS (kdOf d kd).isNone hp sz t s
 | .clr sz z x => (ev x).bind fun v => (asOne v).bind fun t => clrS hp sz z t
 | k => (k.exec Q.val ev hp).map (·, true)
def EvLe (ev ev' : Ev) : Prop := ∀ x v, ev x = some v → ev' x = some v
theorem fill_le {ev ev' : Ev} (he : EvLe ev ev') : ∀ {ps : List (Nat × Nat × Opd)} {cs r : Row}, fill ev cs ps = some r → fill ev' cs ps = some r
 | [], cs, r, h => h
 | (o, n, x) :: ps, cs, r, h => by
   simp only [fill, qB] at h ⊢
   obtain ⟨v, hv, new, hn, h⟩ := h
   refine ⟨v, he _ _ hv, new, hn, ?_⟩
   split at h
   ·rename_i hc; rw [if_pos hc]; exact fill_le he h
   ·simp at h
theorem fillRows_le {ev ev' : Ev} (he : EvLe ev ev') : ∀ {ps : List (Nat × Opd)} {cs r : List Row}, fillRows ev cs ps = some r → fillRows ev' cs ps = some r
 | [], cs, r, h => h
 | (o, x) :: ps, cs, r, h => by
   simp only [fillRows, qB] at h ⊢
   obtain ⟨v, hv, new, hn, h⟩ := h
   refine ⟨v, he _ _ hv, new, hn, ?_⟩
   split at h
   ·split at h
    ·rename_i hc; rw [if_pos hc]; exact fillRows_le he h
    ·simp at h
   ·simp at h
theorem argCells_le {ev ev' : Ev} (he : EvLe ev ev') : ∀ {xs : List (Opd × Nat × Bool)} {r : List (SV × Nat × Bool)}, argCells ev xs = some r → argCells ev' xs = some r
 | [], r, h => h
 | (x, n, m) :: xs, r, h => by
   simp only [argCells, qB] at h ⊢
   obtain ⟨v, hv, s, hs, h⟩ := h
   exact ⟨v, he _ _ hv, s, argCells_le he hs, h⟩
theorem capsOf_le {ev ev' : Ev} (he : EvLe ev ev') : ∀ {xs : List Opd} {r : List T}, capsOf ev xs = some r → capsOf ev' xs = some r
 | [], r, h => h
 | x :: xs, r, h => by
   simp only [capsOf, qB] at h ⊢
   obtain ⟨v, hv, t, ht, h⟩ := h
   refine ⟨v, he _ _ hv, t, ht, ?_⟩
   split at h
   ·simp only [qB] at h ⊢
    obtain ⟨s, hs, h⟩ := h
    exact ⟨s, capsOf_le he hs, h⟩
   ·simp at h
theorem bound_le {ev ev' : Ev} (he : EvLe ev ev') {n : Nat} {o : Option Opd} {r : Int} (h : bound ev n o = some r) : bound ev' n o = some r := by
 cases o with
 | none => exact h
 | some o =>
   simp only [bound, qB] at h ⊢
   obtain ⟨v, hv, h⟩ := h
   exact ⟨v, he _ _ hv, h⟩
theorem exec_le {R : Rt} {ev ev' : Ev} (he : EvLe ev ev') {hp : List Blk} {k : K} {r : SV × List Blk} (h : k.exec R ev hp = some r) : k.exec R ev' hp = some r := by
 cases k with
 | mv d x => simp only [K.exec, qB] at h ⊢; obtain ⟨v, hv, h⟩ := h; exact ⟨v, he _ _ hv, h⟩
 | pick d c x y =>
   simp only [K.exec, qB] at h ⊢
   obtain ⟨v, hv, c, hc, h⟩ := h
   refine ⟨v, he _ _ hv, c, hc, ?_⟩
   split at h
   ·simp only [qB] at h; obtain ⟨u, hu, h⟩ := h; simp [*, he _ _ hu]
   ·simp only [qB] at h; obtain ⟨u, hu, h⟩ := h; simp [*, he _ _ hu]
 | alc d z => exact h
 | box d x => simp only [K.exec, qB] at h ⊢; obtain ⟨v, hv, h⟩ := h; exact ⟨v, he _ _ hv, h⟩
 | bld d z ps => simp only [K.exec, qB] at h ⊢; obtain ⟨v, hv, h⟩ := h; exact ⟨v, fill_le he hv, h⟩
 | bsl d n z ps => simp only [K.exec, qB] at h ⊢; obtain ⟨v, hv, h⟩ := h; exact ⟨v, fillRows_le he hv, h⟩
 | ld d n x => simp only [K.exec, qB] at h ⊢; obtain ⟨v, hv, h⟩ := h; exact ⟨v, he _ _ hv, h⟩
 | st n x y => simp only [K.exec, qB] at h ⊢; obtain ⟨v, hv, t, ht, u, hu, h⟩ := h; exact ⟨v, he _ _ hv, t, ht, u, he _ _ hu, h⟩
 | nilc d x => simp only [K.exec, qB] at h ⊢; obtain ⟨v, hv, h⟩ := h; exact ⟨v, he _ _ hv, h⟩
 | bin d o x y => simp only [K.exec, qB] at h ⊢; obtain ⟨v, hv, t, ht, u, hu, h⟩ := h; exact ⟨v, he _ _ hv, t, ht, u, he _ _ hu, h⟩
 | bb d n x y => simp only [K.exec, qB] at h ⊢; obtain ⟨v, hv, t, ht, u, hu, h⟩ := h; exact ⟨v, he _ _ hv, t, ht, u, he _ _ hu, h⟩
 | eqs d n gs x y => simp only [K.exec, qB] at h ⊢; obtain ⟨v, hv, u, hu, h⟩ := h; exact ⟨v, he _ _ hv, u, he _ _ hu, h⟩
 | un d o x => simp only [K.exec, qB] at h ⊢; obtain ⟨v, hv, h⟩ := h; exact ⟨v, he _ _ hv, h⟩
 | cv d k x => simp only [K.exec, qB] at h ⊢; obtain ⟨v, hv, h⟩ := h; exact ⟨v, he _ _ hv, h⟩
 | mkf d f caps => simp only [K.exec, qB] at h ⊢; obtain ⟨v, hv, h⟩ := h; exact ⟨v, capsOf_le he hv, h⟩
 | mks d b z n c => simp only [K.exec, qB] at h ⊢; obtain ⟨v, hv, t, ht, u, hu, h⟩ := h; exact ⟨v, he _ _ hv, t, ht, u, he _ _ hu, h⟩
 | slc d sz x lo hi => simp only [K.exec, qB] at h ⊢; obtain ⟨v, hv, t, ht, rows, hr, l, hl, u, hu, h⟩ := h; exact ⟨v, he _ _ hv, t, ht, rows, hr, l, bound_le he hl, u, bound_le he hu, h⟩
 | sls d x lo hi =>
   simp only [K.exec, qB] at h ⊢
   obtain ⟨v, hv, t, ht, h⟩ := h
   refine ⟨v, he _ _ hv, t, ht, ?_⟩
   split at h
   ·simp only [qB] at h ⊢
    obtain ⟨l, hl, u, hu, h⟩ := h
    exact ⟨l, bound_le he hl, u, bound_le he hu, h⟩
   ·simp at h
 | fa d x o => simp only [K.exec, qB] at h ⊢; obtain ⟨v, hv, h⟩ := h; exact ⟨v, he _ _ hv, h⟩
 | fld d x o n => simp only [K.exec, qB] at h ⊢; obtain ⟨v, hv, h⟩ := h; exact ⟨v, he _ _ hv, h⟩
 | ia d sz x j => simp only [K.exec, qB] at h ⊢; obtain ⟨v, hv, t, ht, u, hu, h⟩ := h; exact ⟨v, he _ _ hv, t, ht, u, he _ _ hu, h⟩
 | ix d x j => simp only [K.exec, qB] at h ⊢; obtain ⟨v, hv, t, ht, u, hu, h⟩ := h; exact ⟨v, he _ _ hv, t, ht, u, he _ _ hu, h⟩
 | ext d x j => simp only [K.exec, qB] at h ⊢; obtain ⟨v, hv, h⟩ := h; exact ⟨v, he _ _ hv, h⟩
 | call d pu f xs => simp only [K.exec, qB] at h ⊢; obtain ⟨v, hv, h⟩ := h; exact ⟨v, argCells_le he hv, h⟩
 | calv d pu f xs =>
   simp only [K.exec, qB] at h ⊢
   obtain ⟨v, hv, h⟩ := h
   refine ⟨v, he _ _ hv, ?_⟩
   split at h
   ·simp only [qB] at h ⊢
    obtain ⟨vs, hvs, h⟩ := h
    exact ⟨vs, argCells_le he hvs, h⟩
   ·simp at h
 | len d x => simp only [K.exec, qB] at h ⊢; obtain ⟨v, hv, h⟩ := h; exact ⟨v, he _ _ hv, h⟩
 | lens d x => simp only [K.exec, qB] at h ⊢; obtain ⟨v, hv, h⟩ := h; exact ⟨v, he _ _ hv, h⟩
 | app d b sz x y => simp only [K.exec, qB] at h ⊢; obtain ⟨v, hv, t, ht, u, hu, h⟩ := h; exact ⟨v, he _ _ hv, t, ht, u, he _ _ hu, h⟩
 | cpy d sz x y => simp only [K.exec, qB] at h ⊢; obtain ⟨v, hv, t, ht, u, hu, h⟩ := h; exact ⟨v, he _ _ hv, t, ht, u, he _ _ hu, h⟩
 | clr sz z x => simp only [K.exec, qB] at h ⊢; obtain ⟨v, hv, h⟩ := h; exact ⟨v, he _ _ hv, h⟩
 | mm d m x y => simp only [K.exec, qB] at h ⊢; obtain ⟨v, hv, t, ht, u, hu, h⟩ := h; exact ⟨v, he _ _ hv, t, ht, u, he _ _ hu, h⟩
def noCall : K → Bool
 | .call .. | .calv .. => false
 | _ => true
theorem exec_noCall {R R' : Rt} {ev : Ev} {hp : List Blk} {k : K} (hk : noCall k = true) : k.exec R ev hp = k.exec R' ev hp := by
 cases k <;> first | rfl | simp [noCall] at hk
theorem exK_sound {R : Rt} {Q : Qt} (hQ : QOk (frzR R) Q) {kd : List (Nat × List Kd)} {ev ev' : Ev} (he : EvLe ev ev') {hp : List Blk} {k : K} {r : SV × List Blk} (h : exK Q kd ev hp k = some (r, true)) : k.exec R ev' hp = some r := by
 refine exec_le he ?_
 unfold exK at h
 split at h
 ·simp only [qB, qI, qP, K.exec] at h ⊢
  obtain ⟨v, hv, t, ht, u, hu, s, hs, q, hq, h1, h2⟩ := h
  refine ⟨v, hv, t, ht, u, hu, s, hs, q.1, binS_eq (by rw [hq, ← h2]), h1⟩
 ·simp only [qB, qI, qP, K.exec] at h ⊢
  obtain ⟨c, hc, b, hb, v, hv, u, hu, m, hm, h1, -⟩ := h
  refine ⟨c, hc, b, hb, ?_⟩
  rw [← h1, mergeSV_eq hm]
  cases b <;> simp [hv, hu]
 ·simp only [qB, qI, qP, K.exec] at h ⊢
  obtain ⟨vs, hvs, h⟩ := h
  exact ⟨vs, hvs, doCallS_sound hQ h⟩
 ·simp only [qB, K.exec] at h ⊢
  obtain ⟨g, hg, h⟩ := h
  refine ⟨g, hg, ?_⟩
  split at h
  ·simp only [qB, qI, qP] at h ⊢
   obtain ⟨vs, hvs, h⟩ := h
   exact ⟨vs, hvs, doCallS_sound hQ h⟩
  ·simp at h
 ·split at h
  ·simp only [qB, qI, qP, K.exec] at h ⊢
   obtain ⟨v, hv, t, ht, u, hu, w, hw, q, hq, h1, h2⟩ := h
   exact ⟨v, hv, t, ht, u, hu, w, hw, q.1, idxS_eq (by rw [hq, ← h2]), h1⟩
  ·simp only [Option.map_eq_some_iff, qP, and_true] at h
   obtain ⟨q, hq, rfl⟩ := h
   rw [exec_noCall (R' := Q.val) rfl]
   exact hq
 ·split at h
  ·simp only [qB, qI, qP, K.exec] at h ⊢
   obtain ⟨v, hv, t, ht, q, hq, h1, h2⟩ := h
   have := ldS_eq (v := q.1) (by rw [hq, ← h2])
   simp only [qB] at this
   obtain ⟨cs, hc, hs⟩ := this
   exact ⟨v, hv, t, ht, cs, hc, q.1, hs, h1⟩
  ·simp only [Option.map_eq_some_iff, qP, and_true] at h
   obtain ⟨q, hq, rfl⟩ := h
   rw [exec_noCall (R' := Q.val) rfl]
   exact hq
 ·simp only [qB, qI, qP, K.exec] at h ⊢
  obtain ⟨v, hv, t, ht, u, hu, cs, hc, q, hq, h1, h2⟩ := h
  exact ⟨v, hv, t, ht, u, hu, cs, hc, q.1, stS_eq (by rw [hq, ← h2]), h1⟩
 ·simp only [qB] at h
  obtain ⟨v, hv, t, ht, u, hu, s, hs, h⟩ := h
  exact appS_eq hv ht hu hs h
 ·simp only [qB, qI, qP, K.exec] at h ⊢
  obtain ⟨v, hv, t, ht, n, hn, h1, h2⟩ := h
  obtain ⟨rows, hr, hl⟩ := lenS_eq (n := n.1) (by rw [hn, ← h2])
  exact ⟨v, hv, t, ht, rows, hr, by rw [hl, h1]⟩
 ·rename_i d sz x lo hi
  simp only [qB, qI, qP, K.exec] at h ⊢
  obtain ⟨v, hv, t, ht, n, hn, l, hl, hh, hb, q, hq, h1, h2⟩ := h
  obtain ⟨o1, o2⟩ := and_t h2
  obtain ⟨rows, hr, hlen⟩ := lenS_eq (n := n.1) (by rw [hn, ← o1])
  refine ⟨v, hv, t, ht, rows, hr, l, hl, hh, ?_, q.1, cutS_eq hlen (by rw [hq, ← o2]), h1⟩
  cases hi with
  | none => simp only [bound, hlen]; exact hb
  | some o => exact hb
 ·simp only [qB, qI] at h
  obtain ⟨v, hv, k, hk, u, hu, k', hk', h⟩ := h
  exact mksS_eq (k := k.1) (nn := k.2) (k' := k'.1) (cc := k'.2) hv hk hu hk' h
 ·simp only [qB] at h
  obtain ⟨v, hv, t, ht, u, hu, s, hs, h⟩ := h
  exact cpyS_eq hv ht hu hs h
 ·simp only [qB] at h
  obtain ⟨v, hv, t, ht, h⟩ := h
  exact clrS_eq hv ht h
 ·simp only [Option.map_eq_some_iff, qP, and_true] at h
  obtain ⟨q, hq, rfl⟩ := h
  have hk : noCall k = true := by
   cases k with
   | call d pu f xs => cases pu <;> simp_all
   | calv d pu f xs => cases pu <;> simp_all
   | _ => rfl
  rw [exec_noCall (R' := Q.val) hk]
  exact hq
def quietK : K → Bool
 | .alc .. | .box .. | .bsl .. | .st .. | .mks .. | .app .. | .cpy .. | .clr .. => false
 | .call _ pu _ _ | .calv _ pu _ _ => pu
 | _ => true
theorem doCall_calm {R : Rt} {hp : List Blk} {f : FuncId} {vs : List (SV × Nat × Bool)} {r : SV × List Blk} (h : doCall R hp true f vs = some r) : r.2 = hp := by
 simp only [doCall, if_true, qB] at h
 obtain ⟨_, _, _, _, _, _, h⟩ := h
 split at h
 ·obtain rfl := Option.some.inj h; rfl
 ·simp at h
def Calm (hp : List Blk) (o : Option (SV × List Blk)) : Prop := ∀ r, o = some r → r.2 = hp
theorem calm_bind {α : Type} {hp : List Blk} {o : Option α} {f : α → Option (SV × List Blk)} (h : ∀ v, Calm hp (f v)) : Calm hp (o.bind f) := fun r hr => by
 simp only [qB] at hr
 obtain ⟨v, _, hv⟩ := hr
 exact h v r hv
theorem calm_some {hp : List Blk} {v : SV} : Calm hp (some (v, hp)) := fun r hr => by
 obtain rfl := Option.some.inj hr
 rfl
theorem calm_none {hp : List Blk} : Calm hp none := fun r hr => by simp at hr
theorem exec_calm {R : Rt} {ev : Ev} {hp : List Blk} {k : K} {r : SV × List Blk} (hk : quietK k = true) (h : k.exec R ev hp = some r) : r.2 = hp := by
 have : Calm hp (k.exec R ev hp) := by
  cases k <;> simp only [quietK, Bool.false_eq_true] at hk
  case call d pu f xs =>
   subst hk
   exact calm_bind fun vs r hr => doCall_calm hr
  case calv d pu f xs =>
   subst hk
   refine calm_bind fun g => ?_
   split
   ·exact calm_bind fun vs r hr => doCall_calm hr
   ·exact calm_none
  all_goals
   unfold K.exec
   repeat (first | exact calm_some | exact calm_none | (refine calm_bind fun _ => ?_) | split)
 exact this r h
end Go.Zq

namespace Go.Zq
open Option renaming bind_eq_some_iff → qB
open Option.some renaming injEq → qI
open Go
def K.dsts (k : K) : List Nat := match k.dst with | some d => [d] | none => []
inductive Its where
 | nil
 | op (k : K) (r : Its)
 | iff (s : Nat) (w : Bool) (its : Its) (d : Nat) (x y : Opd) (r : Its)
def Its.flat (g : Option (Nat × Bool)) : Its → List G
 | .nil => []
 | .op k r => (g, k) :: r.flat g
 | .iff s w its d x y r => its.flat (some (s, w)) ++ (g, .pick d (.t s) x y) :: r.flat g
def Its.dsts : Its → List Nat
 | .nil => []
 | .op k r => k.dsts ++ r.dsts
 | .iff _ _ its d _ _ r => its.dsts ++ d :: r.dsts
def Its.quiet : Its → Bool
 | .nil => true
 | .op k r => quietK k && r.quiet
 | .iff _ _ its _ _ _ r => its.quiet && r.quiet
def Its.inner (ds : List Nat) : Its → Bool
 | .nil => true
 | .op k r => r.inner (k.dsts ++ ds)
 | .iff s _ its d _ _ r => ds.contains s && its.inner [] && r.inner (d :: (its.dsts ++ ds))
def eqG : Option (Nat × Bool) → Option (Nat × Bool) → Bool
 | none, none => true
 | some (s, w), some (s', w') => Nat.beq s s' && (w == w')
 | _, _ => false
theorem eqG_eq : ∀ {g h : Option (Nat × Bool)}, eqG g h = true → g = h
 | none, none, _ => rfl
 | some (s, w), some (s', w'), h => by
   simp only [eqG, Bool.and_eq_true, beq_iff_eq] at h
   rw [Nat.eq_of_beq_eq_true h.1, h.2]
 | none, some _, h => by simp [eqG] at h
 | some _, none, h => by simp [eqG] at h
def parse : Nat → Option (Nat × Bool) → List G → Its × List G
 | 0, _, l => (.nil, l)
 | _ + 1, _, [] => (.nil, [])
 | n + 1, cur, (g, k) :: r =>
   if eqG g cur then let p := parse n cur r; (.op k p.1, p.2)
   else match g with
    | none => (.nil, (g, k) :: r)
    | some (s, w) =>
      let q := parse n (some (s, w)) ((g, k) :: r)
      match q.2 with
      | (g', .pick d (.t s') x y) :: r' =>
        if eqG g' cur && Nat.beq s' s then let p := parse n cur r'; (.iff s w q.1 d x y p.1, p.2) else (.nil, (g, k) :: r)
      | _ => (.nil, (g, k) :: r)
theorem parse_flat : ∀ (n : Nat) (cur : Option (Nat × Bool)) (l : List G), (parse n cur l).1.flat cur ++ (parse n cur l).2 = l
 | 0, _, l => rfl
 | _ + 1, _, [] => rfl
 | n + 1, cur, (g, k) :: r => by
   unfold parse
   split
   ·rename_i h
    simp only [Its.flat, List.cons_append, parse_flat n cur r, eqG_eq h]
   ·split
    ·rfl
    ·rename_i s w hh
     simp only
     split
     ·rename_i g' d s' x y r' hq
      split
      ·rename_i hc
       simp only [Bool.and_eq_true] at hc
       obtain rfl := eqG_eq hc.1
       obtain rfl := Nat.eq_of_beq_eq_true hc.2
       have h1 := parse_flat n (some (s', w)) ((some (s', w), k) :: r)
       rw [hq] at h1
       simp only [Its.flat, List.append_assoc, List.cons_append, parse_flat n g' r']
       exact h1
      ·rfl
     ·rfl
def dropSl (sl : List (Nat × SV)) (ds : List Nat) : List (Nat × SV) := sl.filter fun p => !ds.contains p.1
theorem lookup_drop {ds : List Nat} {n : Nat} {v : SV} : ∀ {sl : List (Nat × SV)}, lookup n (dropSl sl ds) = some v → n ∉ ds ∧ lookup n sl = some v
 | [], h => by simp [dropSl, lookup] at h
 | (m, u) :: r, h => by
   unfold dropSl at h
   rw [List.filter_cons] at h
   split at h
   ·rename_i hm
    simp only [lookup] at h ⊢
    split at h
    ·rename_i e
     subst e
     exact ⟨by simpa using hm, by rw [if_pos rfl]; exact h⟩
    ·rename_i e
     rw [if_neg e]
     exact lookup_drop h
   ·rename_i hm
    have := lookup_drop (sl := r) h
    refine ⟨this.1, ?_⟩
    simp only [lookup]
    split
    ·rename_i e
     subst e
     exact absurd (by simpa using hm) this.1
    ·exact this.2
structure Le (σ σ' : St) : Prop where
 sl : ∀ n v, lookup n σ.sl = some v → lookup n σ'.sl = some v
 hp : σ'.hp = σ.hp
theorem Le.rfl {σ : St} : Le σ σ := ⟨fun _ _ h => h, Eq.refl _⟩
theorem Le.trans {a b c : St} (h : Le a b) (k : Le b c) : Le a c := ⟨fun n v x => k.sl n v (h.sl n v x), k.hp.trans h.hp⟩
theorem Le.ev {σ σ' : St} (h : Le σ σ') : EvLe σ.ev σ'.ev := fun x v hx => by
 cases x with
 | t n => exact h.sl n v hx
 | c u => exact hx
theorem Le.set {σ σ' : St} (h : Le σ σ') (d : Nat) (v : SV) : Le (σ.set d v) (σ'.set d v) := ⟨fun n u hn => by
 simp only [St.set, lookup] at hn ⊢
 split
 ·rename_i e; rw [if_pos e] at hn; exact hn
 ·rename_i e; rw [if_neg e] at hn; exact h.sl n u hn, h.hp⟩
theorem Le.setD {σ σ' : St} (h : Le σ σ') (d : Option Nat) (v : SV) : Le (setD σ d v) (setD σ' d v) := by
 cases d with
 | none => exact h
 | some d => exact h.set d v
theorem Le.heap {σ σ' : St} (h : Le σ σ') (hp : List Blk) : Le ⟨σ.sl, hp⟩ ⟨σ'.sl, hp⟩ := ⟨h.sl, Eq.refl _⟩
theorem lookup_set {σ : St} {d n : Nat} {v : SV} (h : n ≠ d) : lookup n (σ.set d v).sl = lookup n σ.sl := by
 simp only [St.set, lookup]
 rw [if_neg (Ne.symm h)]
theorem lookup_set_self {σ : St} {d : Nat} {v : SV} : lookup d (σ.set d v).sl = some v := by
 simp [St.set, lookup]
theorem lookup_dsts {σ : St} {k : K} {n : Nat} {v : SV} (h : n ∉ k.dsts) : lookup n (Zq.setD σ k.dst v).sl = lookup n σ.sl := by
 unfold K.dsts at h
 cases hd : k.dst with
 | none => rfl
 | some d =>
   rw [hd] at h
   exact lookup_set (by simpa using h)
def evI (Q : Qt) (kd : List (Nat × List Kd)) : Its → St → Option (St × Bool)
 | .nil, σ => some (σ, true)
 | .op k r, σ => (exK Q kd σ.ev σ.hp k).bind fun x => (evI Q kd r (setD ⟨σ.sl, x.1.2⟩ k.dst x.1.1)).bind fun y => some (y.1, x.2 && y.2)
 | .iff s w its d x y r, σ =>
   (lookup s σ.sl).bind fun c => (asBool c).bind fun b => (evI Q kd its σ).bind fun i =>
   if (its.inner [] && !its.dsts.contains s) = true then
    (if its.quiet then some σ.hp else mergeHp (if w then b else !b) i.1.hp σ.hp).bind fun hp =>
    ((if w then i.1 else ⟨dropSl σ.sl its.dsts, σ.hp⟩ : St).ev x).bind fun vx => ((if w then ⟨dropSl σ.sl its.dsts, σ.hp⟩ else i.1 : St).ev y).bind fun vy => (mergeSV b vx vy).bind fun m =>
    (evI Q kd r (St.set ⟨dropSl σ.sl its.dsts, hp⟩ d m)).bind fun z => some (z.1, (i.2 || (if w then !b else b)) && z.2)
   else none
def Skips (s : Nat) (w : Bool) (σ : St) : Prop := lookup s σ.sl = some .und ∨ lookup s σ.sl = some (.one (B (!w)))
theorem Skips.setD {s : Nat} {w : Bool} {σ : St} (h : Skips s w σ) (k : K) : Skips s w (Zq.setD σ k.dst .und) := by
 by_cases e : s ∈ k.dsts
 ·left
  unfold K.dsts at e
  cases hd : k.dst with
  | none => rw [hd] at e; simp at e
  | some d =>
    rw [hd] at e
    obtain rfl : s = d := by simpa using e
    exact lookup_set_self
 ·rcases h with h | h
  ·left; rw [lookup_dsts e]; exact h
  ·right; rw [lookup_dsts e]; exact h
theorem runG_skip {R : Rt} {s : Nat} {w : Bool} {σ : St} (h : Skips s w σ) (k : K) : runG R σ (some (s, w), k) = some (setD σ k.dst .und) := by
 unfold runG
 rcases h with h | h
 ·simp only [h]
 ·simp only [h]
  rw [if_neg (by cases w <;> simp)]
theorem runGs_append {R : Rt} : ∀ {l l' : List G} {σ σ1 : St}, runGs R l σ = some σ1 → runGs R (l ++ l') σ = runGs R l' σ1
 | [], l', σ, σ1, h => by simp only [runGs, qI] at h; subst h; rfl
 | g :: r, l', σ, σ1, h => by
   simp only [runGs, qB] at h
   obtain ⟨σ2, h1, h2⟩ := h
   simp only [List.cons_append, runGs, h1, Option.bind_some]
   exact runGs_append h2
theorem skip_run {R : Rt} : ∀ {its : Its} {s : Nat} {w : Bool} {ds : List Nat} {σ : St}, Skips s w σ → its.inner ds = true → (∀ n ∈ ds, lookup n σ.sl = some .und) →
  ∃ σ', runGs R (its.flat (some (s, w))) σ = some σ' ∧ σ'.hp = σ.hp ∧ (∀ n, n ∉ its.dsts → lookup n σ'.sl = lookup n σ.sl) ∧ (∀ n, (n ∈ its.dsts ∨ n ∈ ds) → lookup n σ'.sl = some .und) ∧ Skips s w σ'
 | .nil, s, w, ds, σ, hs, hi, hd => ⟨σ, rfl, rfl, fun _ _ => rfl, fun n hn => by rcases hn with hn | hn; · simp [Its.dsts] at hn
                                                                                 ·exact hd n hn, hs⟩
 | .op k r, s, w, ds, σ, hs, hi, hd => by
   simp only [Its.inner] at hi
   obtain ⟨σ', h1, h2, h3, h4, h5⟩ := skip_run (R := R) (its := r) (σ := setD σ k.dst .und) (ds := k.dsts ++ ds) (hs.setD k) hi (fun n hn => by
    by_cases e : n ∈ k.dsts
    ·unfold K.dsts at e
     cases hk : k.dst with
     | none => rw [hk] at e; simp at e
     | some d =>
       rw [hk] at e
       obtain rfl : n = d := by simpa using e
       exact lookup_set_self
    ·rw [lookup_dsts e]
     exact hd n ((List.mem_append.1 hn).resolve_left e))
   refine ⟨σ', ?_, ?_, ?_, ?_, h5⟩
   ·simp only [Its.flat, runGs, runG_skip hs, Option.bind_some]
    exact h1
   ·rw [h2]
    cases k.dst <;> rfl
   ·intro n hn
    simp only [Its.dsts, List.mem_append, not_or] at hn
    rw [h3 n hn.2, lookup_dsts hn.1]
   ·intro n hn
    simp only [Its.dsts, List.mem_append] at hn
    exact h4 n (by simp only [List.mem_append]; rcases hn with (hn | hn) | hn <;> simp [hn])
 | .iff s2 w2 its d x y r, s, w, ds, σ, hs, hi, hd => by
   simp only [Its.inner, Bool.and_eq_true, List.contains_iff_mem] at hi
   obtain ⟨σ1, h1, h2, h3, h4, h5⟩ := skip_run (R := R) (its := its) (s := s2) (w := w2) (σ := σ) (ds := []) (.inl (hd s2 hi.1.1)) hi.1.2 (by simp)
   have hs1 : Skips s w σ1 := by
    by_cases e : s ∈ its.dsts
    ·exact .inl (h4 s (.inl e))
    ·rcases hs with hs | hs
     ·left; rw [h3 s e]; exact hs
     ·right; rw [h3 s e]; exact hs
   obtain ⟨σ', k1, k2, k3, k4, k5⟩ := skip_run (R := R) (its := r) (s := s) (w := w) (σ := setD σ1 (some d) .und) (ds := d :: (its.dsts ++ ds)) (hs1.setD (.pick d (.t s2) x y)) hi.2 (fun n hn => by
    by_cases e : n = d
    ·subst e; exact lookup_set_self
    ·show lookup n (σ1.set d .und).sl = _
     rw [lookup_set e]
     simp only [List.mem_cons, e, false_or, List.mem_append] at hn
     by_cases f : n ∈ its.dsts
     ·exact h4 n (.inl f)
     ·rw [h3 n f]
      exact hd n (hn.resolve_left f))
   refine ⟨σ', ?_, ?_, ?_, ?_, k5⟩
   ·rw [Its.flat, runGs_append h1]
    simp only [runGs, runG_skip hs1, Option.bind_some]
    exact k1
   ·rw [k2]
    exact h2
   ·intro n hn
    simp only [Its.dsts, List.mem_append, List.mem_cons, not_or] at hn
    rw [k3 n hn.2.2]
    show lookup n (σ1.set d .und).sl = _
    rw [lookup_set hn.2.1, h3 n hn.1]
   ·intro n hn
    simp only [Its.dsts, List.mem_append, List.mem_cons] at hn
    refine k4 n ?_
    simp only [List.mem_cons, List.mem_append]
    rcases hn with (hn | hn | hn) | hn <;> simp [hn]
def Holds (g : Option (Nat × Bool)) (σ : St) : Prop := ∀ s w, g = some (s, w) → lookup s σ.sl = some (.one (B w))
def apartG (g : Option (Nat × Bool)) (ds : List Nat) : Prop := ∀ s w, g = some (s, w) → s ∉ ds
theorem runG_holds {R : Rt} {g : Option (Nat × Bool)} {σ : St} (h : Holds g σ) (k : K) : runG R σ (g, k) = k.run R σ := by
 unfold runG
 cases g with
 | none => rfl
 | some x => simp only [h x.1 x.2 rfl, if_true]
theorem runGs_frame {R : Rt} : ∀ {l : List G} {σ σ' : St}, runGs R l σ = some σ' → ∀ n, (∀ g ∈ l, n ∉ g.2.dsts) → lookup n σ'.sl = lookup n σ.sl
 | [], σ, σ', h, n, hn => by simp only [runGs, qI] at h; rw [h]
 | g :: r, σ, σ', h, n, hn => by
   simp only [runGs, qB] at h
   obtain ⟨σ1, h1, h2⟩ := h
   rw [runGs_frame h2 n (fun g hg => hn g (List.mem_cons_of_mem _ hg))]
   have hk := hn g (List.mem_cons_self ..)
   have hrun : ∀ {τ : St}, g.2.run R σ = some τ → lookup n τ.sl = lookup n σ.sl := fun {τ} ht => by
    simp only [K.run, qB, qI] at ht
    obtain ⟨q, -, rfl⟩ := ht
    rw [lookup_dsts hk]
   unfold runG at h1
   split at h1
   ·exact hrun h1
   ·split at h1
    ·split at h1
     ·exact hrun h1
     ·obtain rfl := Option.some.inj h1
      rw [lookup_dsts hk]
    ·obtain rfl := Option.some.inj h1
     rw [lookup_dsts hk]
    ·simp at h1
theorem flat_dsts {n : Nat} : ∀ {its : Its} {g : Option (Nat × Bool)}, n ∉ its.dsts → ∀ x ∈ its.flat g, n ∉ x.2.dsts
 | .nil, g, h, x, hx => by simp [Its.flat] at hx
 | .op k r, g, h, x, hx => by
   simp only [Its.dsts, List.mem_append, not_or] at h
   simp only [Its.flat, List.mem_cons] at hx
   rcases hx with rfl | hx
   ·exact h.1
   ·exact flat_dsts h.2 x hx
 | .iff s w its d a b r, g, h, x, hx => by
   simp only [Its.dsts, List.mem_append, List.mem_cons, not_or] at h
   simp only [Its.flat, List.mem_append, List.mem_cons] at hx
   rcases hx with hx | rfl | hx
   ·exact flat_dsts h.1 x hx
   ·simpa [K.dsts, K.dst] using h.2.1
   ·exact flat_dsts h.2.2 x hx
theorem evI_frame {Q : Qt} {kd : List (Nat × List Kd)} : ∀ {its : Its} {σ : St} {r : St × Bool}, evI Q kd its σ = some r → ∀ n v, n ∉ its.dsts → lookup n r.1.sl = some v → lookup n σ.sl = some v
 | .nil, σ, r, h, n, v, hn, hv => by simp only [evI, qI] at h; subst h; exact hv
 | .op k t, σ, r, h, n, v, hn, hv => by
   simp only [evI, qB, qI] at h
   obtain ⟨x, hx, y, hy, rfl⟩ := h
   simp only [Its.dsts, List.mem_append, not_or] at hn
   have := evI_frame hy n v hn.2 hv
   rw [lookup_dsts hn.1] at this
   exact this
 | .iff s w its d a b t, σ, r, h, n, v, hn, hv => by
   simp only [evI, qB] at h
   obtain ⟨c, hc, e, he, i, hi, h⟩ := h
   split at h
   ·simp only [qB, qI] at h
    obtain ⟨hp1, hh, vx, hx, vy, hy, m, hm, z, hz, rfl⟩ := h
    simp only [Its.dsts, List.mem_append, List.mem_cons, not_or] at hn
    have := evI_frame hz n v hn.2.2 hv
    rw [lookup_set hn.2.1] at this
    exact (lookup_drop this).2
   ·simp at h
theorem doCallS_calm {Q : Qt} {wm : Bool} {hp : List Blk} {f : FuncId} {vs : List (SV × Nat × Bool)} {r : (SV × List Blk) × Bool} (h : doCallS Q wm hp true f vs = some r) : r.1.2 = hp := by
 simp only [doCallS, if_true, qB] at h
 obtain ⟨args, h1, q, hq, h⟩ := h
 split at h
 ·obtain rfl := Option.some.inj h
  rfl
 ·simp at h
theorem exK_quiet {Q : Qt} {kd : List (Nat × List Kd)} {ev : Ev} {hp : List Blk} {k : K} {r : (SV × List Blk) × Bool} (hk : quietK k = true) (h : exK Q kd ev hp k = some r) : r.1.2 = hp := by
 unfold exK at h
 split at h
 ·simp only [qB, qI] at h
  obtain ⟨v, hv, t, ht, u, hu, s, hs, q, hq, rfl⟩ := h
  rfl
 ·simp only [qB, qI] at h
  obtain ⟨c, hc, b, hb, v, hv, u, hu, m, hm, rfl⟩ := h
  rfl
 ·simp only [qB, qI] at h
  obtain ⟨vs, hvs, h⟩ := h
  simp only [quietK] at hk
  subst hk
  exact doCallS_calm h
 ·simp only [qB] at h
  obtain ⟨g, hg, h⟩ := h
  split at h
  ·simp only [qB, qI] at h
   obtain ⟨vs, hvs, h⟩ := h
   simp only [quietK] at hk
   subst hk
   exact doCallS_calm h
  ·simp at h
 ·split at h
  ·simp only [qB, qI] at h
   obtain ⟨v, hv, t, ht, u, hu, w, hw, q, hq, rfl⟩ := h
   rfl
  ·simp only [Option.map_eq_some_iff] at h
   obtain ⟨q, hq, rfl⟩ := h
   exact exec_calm hk hq
 ·split at h
  ·simp only [qB, qI] at h
   obtain ⟨v, hv, t, ht, q, hq, rfl⟩ := h
   rfl
  ·simp only [Option.map_eq_some_iff] at h
   obtain ⟨q, hq, rfl⟩ := h
   exact exec_calm hk hq
 ·simp [quietK] at hk
 ·simp [quietK] at hk
 ·simp only [qB, qI] at h
  obtain ⟨v, hv, t, ht, n, hn, rfl⟩ := h
  rfl
 ·simp only [qB, qI] at h
  obtain ⟨v, hv, t, ht, n, hn, l, hl, hh, hb, q, hq, rfl⟩ := h
  rfl
 ·simp [quietK] at hk
 ·simp [quietK] at hk
 ·simp [quietK] at hk
 ·simp only [Option.map_eq_some_iff] at h
  obtain ⟨q, hq, rfl⟩ := h
  exact exec_calm hk hq
theorem setD_heap {σ : St} {d : Option Nat} {v : SV} : (setD σ d v).hp = σ.hp := by cases d <;> rfl
theorem evI_quiet {Q : Qt} {kd : List (Nat × List Kd)} : ∀ {its : Its} {σ : St} {r : St × Bool}, its.quiet = true → evI Q kd its σ = some r → r.1.hp = σ.hp
 | .nil, σ, r, hq, h => by simp only [evI, qI] at h; subst h; rfl
 | .op k t, σ, r, hq, h => by
   simp only [evI, qB, qI] at h
   obtain ⟨x, hx, y, hy, rfl⟩ := h
   simp only [Its.quiet, Bool.and_eq_true] at hq
   rw [evI_quiet hq.2 hy, setD_heap]
   exact exK_quiet hq.1 hx
 | .iff s w its d a b t, σ, r, hq, h => by
   simp only [evI, qB] at h
   obtain ⟨c, hc, e, he, i, hi, h⟩ := h
   simp only [Its.quiet, Bool.and_eq_true] at hq
   split at h
   ·simp only [qB, qI] at h
    obtain ⟨hp1, hh, vx, hx, vy, hy, m, hm, z, hz, rfl⟩ := h
    rw [evI_quiet hq.2 hz]
    rw [if_pos hq.1] at hh
    obtain rfl := Option.some.inj hh
    rfl
   ·simp at h
theorem evI_run {R : Rt} {Q : Qt} (hQ : QOk (frzR R) Q) {kd : List (Nat × List Kd)} : ∀ {its : Its} {g : Option (Nat × Bool)} {σ σr σ' : St}, evI Q kd its σ = some (σ', true) → Le σ σr → Holds g σr → apartG g its.dsts →
  ∃ σr', runGs R (its.flat g) σr = some σr' ∧ Le σ' σr'
 | .nil, g, σ, σr, σ', h, hl, hg, ha => by
   simp only [evI, qI, Prod.mk.injEq] at h
   obtain ⟨rfl, -⟩ := h
   exact ⟨σr, rfl, hl⟩
 | .op k t, g, σ, σr, σ', h, hl, hg, ha => by
   simp only [evI, qB, qI, Prod.mk.injEq, Bool.and_eq_true] at h
   obtain ⟨x, hx, y, hy, rfl, h1, h2⟩ := h
   have hx' : k.exec R σr.ev σr.hp = some x.1 := by
    rw [hl.hp]
    exact exK_sound hQ hl.ev (by rw [hx, ← h1])
   have hl' := (hl.heap x.1.2).setD k.dst x.1.1
   have hg' : Holds g (setD ⟨σr.sl, x.1.2⟩ k.dst x.1.1) := fun s w e => by
    have := ha s w e
    simp only [Its.dsts, List.mem_append, not_or] at this
    rw [lookup_dsts this.1]
    exact hg s w e
   obtain ⟨σr', k1, k2⟩ := evI_run hQ (its := t) (g := g) (by rw [hy, ← h2]) hl' hg' (fun s w e => by
    have := ha s w e
    simp only [Its.dsts, List.mem_append, not_or] at this
    exact this.2)
   refine ⟨σr', ?_, k2⟩
   simp only [Its.flat, runGs, runG_holds hg, K.run, hx', Option.bind_some]
   exact k1
 | .iff s w its d a b t, g, σ, σr, σ', h, hl, hg, ha => by
   simp only [evI, qB] at h
   obtain ⟨c, hc, e, he, i, hi, h⟩ := h
   split at h
   case isFalse => simp at h
   rename_i hcond
   simp only [Bool.and_eq_true, Bool.not_eq_true', List.contains_eq_mem, decide_eq_false_iff_not] at hcond
   obtain ⟨hin, hs⟩ := hcond
   simp only [qB, qI, Prod.mk.injEq, Bool.and_eq_true, Bool.or_eq_true] at h
   obtain ⟨hp1, hh, vx, hx, vy, hy, m, hm, z, hz, rfl, ho1, ho2⟩ := h
   have hcs : lookup s σr.sl = some (.one (B e)) := by
    have := hl.sl s c hc
    rw [this]
    revert he
    unfold asBool
    split
    ·intro he; obtain rfl := Option.some.inj he; rfl
    ·intro he; simp at he
   have hdrop : ∀ {τ : St} {hp : List Blk}, τ.hp = hp → (∀ n, n ∉ its.dsts → lookup n τ.sl = lookup n σr.sl) → Le ⟨dropSl σ.sl its.dsts, hp⟩ τ := fun {τ hp} h1 h2 => ⟨fun n v hn => by
    have := lookup_drop hn
    rw [h2 n this.1]
    exact hl.sl n v this.2, h1⟩
   have ha' : ∀ {n : Nat} {w' : Bool}, g = some (n, w') → n ∉ its.dsts ∧ n ≠ d ∧ n ∉ t.dsts := fun {n w'} e' => by
    have := ha n w' e'
    simpa only [Its.dsts, List.mem_append, List.mem_cons, not_or] using this
   have main : ∃ τ, runGs R (its.flat (some (s, w))) σr = some τ ∧ τ.hp = hp1 ∧ (∀ n, n ∉ its.dsts → lookup n τ.sl = lookup n σr.sl) ∧ (if e then τ.ev a else τ.ev b) = some m := by
    by_cases hw : e = w
    ·subst hw
     have hok : i.2 = true := by
      rcases ho1 with h | h
      ·exact h
      ·cases e <;> simp at h
     have hih : i.1.hp = hp1 := by
      split at hh
      ·rename_i hq
       obtain rfl := Option.some.inj hh
       exact evI_quiet hq hi
      ·rw [mergeHp_eq hh]
       cases e <;> rfl
     obtain ⟨τ, k1, k2⟩ := evI_run hQ (its := its) (g := some (s, e)) (σ := σ) (σ' := i.1) (by rw [hi, ← hok]) hl (fun s' w' e' => by
      simp only [qI, Prod.mk.injEq] at e'
      obtain ⟨rfl, rfl⟩ := e'
      exact hcs) (fun s' w' e' => by
      simp only [qI, Prod.mk.injEq] at e'
      obtain ⟨rfl, rfl⟩ := e'
      exact hs)
     refine ⟨τ, k1, by rw [k2.hp]; exact hih, fun n hn => runGs_frame k1 n (flat_dsts hn), ?_⟩
     rw [mergeSV_eq hm]
     cases e
     ·simp only [Bool.false_eq_true, if_false, cond_false] at hy ⊢
      exact k2.ev _ _ hy
     ·simp only [if_true, cond_true] at hx ⊢
      exact k2.ev _ _ hx
    ·have hw' : e = !w := by cases e <;> cases w <;> simp_all
     subst hw'
     have hih : hp1 = σ.hp := by
      split at hh
      ·exact (Option.some.inj hh).symm
      ·rw [mergeHp_eq hh]
       cases w <;> rfl
     obtain ⟨τ, k1, k2, k3, k4, k5⟩ := skip_run (R := R) (its := its) (s := s) (w := w) (ds := []) (σ := σr) (.inr hcs) hin (by simp)
     refine ⟨τ, k1, by rw [k2, hih]; exact hl.hp, k3, ?_⟩
     have hd := hdrop (τ := τ) (hp := σ.hp) (by rw [k2]; exact hl.hp) k3
     rw [mergeSV_eq hm]
     cases w
     ·simp only [Bool.not_false, if_true, cond_true, Bool.false_eq_true, if_false] at hx ⊢
      exact hd.ev _ _ hx
     ·simp only [Bool.not_true, Bool.false_eq_true, if_false, cond_false, if_true] at hy ⊢
      exact hd.ev _ _ hy
   obtain ⟨τ, m1, m2, m3, m4⟩ := main
   have hgτ : Holds g τ := fun s' w' e' => by rw [m3 s' (ha' e').1]; exact hg s' w' e'
   have hpick : (K.pick d (.t s) a b).run R τ = some (τ.set d m) := by
    have hct : τ.ev (.t s) = some (.one (B e)) := by
     show lookup s τ.sl = _
     rw [m3 s hs]
     exact hcs
    simp only [K.run, K.exec, hct, Option.bind_some, asBool, K.dst, Zq.setD]
    cases e
    ·simp only [Bool.false_eq_true, if_false] at m4 ⊢
     simp [m4]
    ·simp only [if_true] at m4 ⊢
     simp [m4]
   obtain ⟨σr', k1, k2⟩ := evI_run hQ (its := t) (g := g) (σr := τ.set d m) (by rw [hz, ← ho2]) ((hdrop m2 m3).set d m) (fun s' w' e' => by
    rw [lookup_set (ha' e').2.1]
    exact hgτ s' w' e') (fun s' w' e' => (ha' e').2.2)
   refine ⟨σr', ?_, k2⟩
   rw [Its.flat, runGs_append m1]
   simp only [runGs, runG_holds hgτ, hpick, Option.bind_some]
   exact k1
end Go.Zq

namespace Go.Zq
open Go
inductive Tr where
 | leaf (σ : St)
 | br (b : Bool) (x y : Tr)
def Tr.st : Tr → St
 | .leaf σ => σ
 | .br b x y => bif b then x.st else y.st
def Tr.All (P : St → Prop) : Tr → Prop
 | .leaf σ => P σ
 | .br _ x y => x.All P ∧ y.All P
theorem Tr.All.st {P : St → Prop} : ∀ {t : Tr}, t.All P → P t.st
 | .leaf σ, h => h
 | .br b x y, h => by
   cases b
   ·exact Tr.All.st (t := y) h.2
   ·exact Tr.All.st (t := x) h.1
theorem Tr.All.mono {P P' : St → Prop} (hp : ∀ σ, P σ → P' σ) : ∀ {t : Tr}, t.All P → t.All P'
 | .leaf σ, h => hp σ h
 | .br b x y, h => ⟨Tr.All.mono hp (t := x) h.1, Tr.All.mono hp (t := y) h.2⟩
inductive Ex where
 | ret
 | brk (id : Nat)
def Ex.out : Ex → St → Out
 | .ret, σ => .ret σ
 | .brk id, σ => .brk id σ
structure O where
 ex : List (Ex × Bool × Tr)
 nor : Option Tr
def denL : List (Ex × Bool × Tr) → Option Tr → Option Out
 | [], none => none
 | [], some t => some (.nor t.st)
 | (k, b, t) :: r, n => bif b then some (k.out t.st) else denL r n
def O.den (o : O) : Option Out := denL o.ex o.nor
structure O.All (P : St → Prop) (o : O) : Prop where
 ex : ∀ e ∈ o.ex, e.2.2.All P
 nor : ∀ t, o.nor = some t → t.All P
theorem O.All.mono {P P' : St → Prop} (hp : ∀ σ, P σ → P' σ) {o : O} (h : o.All P) : o.All P' := ⟨fun e he => (h.ex e he).mono hp, fun t ht => (h.nor t ht).mono hp⟩
inductive LeOut : Out → Out → Prop where
 | nor {σ σ' : St} (h : Le σ σ') : LeOut (.nor σ) (.nor σ')
 | brk {id : Nat} {σ σ' : St} (h : Le σ σ') : LeOut (.brk id σ) (.brk id σ')
 | ret {σ σ' : St} (h : Le σ σ') : LeOut (.ret σ) (.ret σ')
theorem LeOut.refl : ∀ {o : Out}, LeOut o o
 | .nor _ => .nor .rfl
 | .brk _ _ => .brk .rfl
 | .ret _ => .ret .rfl
theorem LeOut.trans {a b c : Out} (h : LeOut a b) (k : LeOut b c) : LeOut a c := by
 cases h <;> cases k
 ·exact .nor (Le.trans ‹_› ‹_›)
 ·exact .brk (Le.trans ‹_› ‹_›)
 ·exact .ret (Le.trans ‹_› ‹_›)
def inAsg (asg : Option (List Nat)) (n : Nat) : Bool := match asg with | some l => l.contains n | none => true
def mergeSl (b : Bool) (asg : Option (List Nat)) (s1 s2 : List (Nat × SV)) : List Nat → List (Nat × SV)
 | [] => []
 | n :: r =>
   match lookup n s1 with
   | none => mergeSl b asg s1 s2 r
   | some v =>
     match lookup n s2 with
     | none => mergeSl b asg s1 s2 r
     | some u =>
       if inAsg asg n = true then
        match mergeSV b v u with
        | some m => (n, m) :: mergeSl b asg s1 s2 r
        | none => mergeSl b asg s1 s2 r
       else (n, v) :: mergeSl b asg s1 s2 r
def mergeSt (b : Bool) (asg : Option (List Nat)) (quiet : Bool) (σ1 σ2 : St) : Option St :=
 (if quiet then some σ1.hp else mergeHp b σ1.hp σ2.hp).map fun hp => ⟨mergeSl b asg σ1.sl σ2.sl (σ1.sl.map (·.1)), hp⟩
structure Fr (asg : Option (List Nat)) (quiet : Bool) (σ0 σ : St) : Prop where
 sl : ∀ l, asg = some l → ∀ n v, n ∉ l → lookup n σ.sl = some v → lookup n σ0.sl = some v
 hp : quiet = true → σ.hp = σ0.hp
theorem mergeSl_lookup {b : Bool} {asg : Option (List Nat)} {s1 s2 : List (Nat × SV)} {n : Nat} {v : SV} : ∀ {l : List Nat}, lookup n (mergeSl b asg s1 s2 l) = some v →
  ∃ x y, lookup n s1 = some x ∧ lookup n s2 = some y ∧ ((inAsg asg n = true ∧ mergeSV b x y = some v) ∨ (inAsg asg n = false ∧ v = x))
 | [], h => by simp [mergeSl, lookup] at h
 | m :: r, h => by
   unfold mergeSl at h
   cases hx : lookup m s1 with
   | none => simp only [hx] at h; exact mergeSl_lookup h
   | some x =>
     cases hy : lookup m s2 with
     | none => simp only [hx, hy] at h; exact mergeSl_lookup h
     | some y =>
       simp only [hx, hy] at h
       by_cases hc : inAsg asg m = true
       ·rw [if_pos hc] at h
        cases hz : mergeSV b x y with
        | none => simp only [hz] at h; exact mergeSl_lookup h
        | some z =>
          simp only [hz, lookup] at h
          by_cases e : m = n
          ·rw [if_pos e] at h
           subst e
           obtain rfl := Option.some.inj h
           exact ⟨x, y, hx, hy, .inl ⟨hc, hz⟩⟩
          ·rw [if_neg e] at h
           exact mergeSl_lookup h
       ·rw [if_neg hc] at h
        simp only [lookup] at h
        by_cases e : m = n
        ·rw [if_pos e] at h
         subst e
         obtain rfl := Option.some.inj h
         exact ⟨x, y, hx, hy, .inr ⟨by simpa using hc, rfl⟩⟩
        ·rw [if_neg e] at h
         exact mergeSl_lookup h
theorem inAsg_some {l : List Nat} {n : Nat} : inAsg (some l) n = true ↔ n ∈ l := by simp [inAsg]
theorem mergeSt_le {b : Bool} {asg : Option (List Nat)} {quiet : Bool} {σ0 σ1 σ2 σ : St} (h : mergeSt b asg quiet σ1 σ2 = some σ) (h1 : Fr asg quiet σ0 σ1) (h2 : Fr asg quiet σ0 σ2) : Le σ (bif b then σ1 else σ2) := by
 simp only [mergeSt, Option.map_eq_some_iff] at h
 obtain ⟨hp, hh, rfl⟩ := h
 constructor
 ·intro n v hn
  obtain ⟨x, y, hx, hy, ⟨-, hm⟩ | ⟨hnl, rfl⟩⟩ := mergeSl_lookup hn
  ·rw [mergeSV_eq hm]
   cases b
   ·exact hy
   ·exact hx
  ·cases b
   ·cases asg with
    | none => simp [inAsg] at hnl
    | some l =>
      have hnl' : n ∉ l := fun e => by rw [inAsg_some.2 e] at hnl; simp at hnl
      have e1 := h1.sl l rfl n _ hnl' hx
      have e2 := h2.sl l rfl n _ hnl' hy
      rw [e1] at e2
      obtain rfl := Option.some.inj e2
      exact hy
   ·exact hx
 ·split at hh
  ·rename_i hq
   obtain rfl := Option.some.inj hh
   cases b
   ·exact (h2.hp hq).trans (h1.hp hq).symm
   ·rfl
  ·rw [mergeHp_eq hh]
   cases b <;> rfl
theorem mergeSt_fr {b : Bool} {asg : Option (List Nat)} {quiet : Bool} {σ0 σ1 σ2 σ : St} (h : mergeSt b asg quiet σ1 σ2 = some σ) (h1 : Fr asg quiet σ0 σ1) : Fr asg quiet σ0 σ := by
 simp only [mergeSt, Option.map_eq_some_iff] at h
 obtain ⟨hp, hh, rfl⟩ := h
 constructor
 ·intro l hl n v hn hv
  obtain ⟨x, y, hx, hy, ⟨hnl, -⟩ | ⟨-, rfl⟩⟩ := mergeSl_lookup hv
  ·subst hl
   exact absurd (inAsg_some.1 hnl) hn
  ·exact h1.sl l hl n _ hn hx
 ·intro hq
  rw [if_pos hq] at hh
  obtain rfl := Option.some.inj hh
  exact h1.hp hq
def joinTr (mg : Bool → St → St → Option St) (b : Bool) : Tr → Tr → Tr
 | .leaf σ1, .leaf σ2 => match mg b σ1 σ2 with
   | some σ => .leaf σ
   | none => .br b (.leaf σ1) (.leaf σ2)
 | x, y => .br b x y
structure MgOk (mg : Bool → St → St → Option St) (P : St → Prop) : Prop where
 le : ∀ b σ1 σ2 σ, P σ1 → P σ2 → mg b σ1 σ2 = some σ → Le σ (bif b then σ1 else σ2)
 all : ∀ b σ1 σ2 σ, P σ1 → P σ2 → mg b σ1 σ2 = some σ → P σ
theorem joinTr_le {mg : Bool → St → St → Option St} {P : St → Prop} (hm : MgOk mg P) {b : Bool} {x y : Tr} (hx : x.All P) (hy : y.All P) : Le (joinTr mg b x y).st (bif b then x.st else y.st) := by
 unfold joinTr
 split
 ·split
  ·rename_i h
   exact hm.le _ _ _ _ hx hy h
  ·exact .rfl
 ·exact .rfl
theorem joinTr_all {mg : Bool → St → St → Option St} {P : St → Prop} (hm : MgOk mg P) {b : Bool} {x y : Tr} (hx : x.All P) (hy : y.All P) : (joinTr mg b x y).All P := by
 unfold joinTr
 split
 ·split
  ·rename_i h
   exact hm.all _ _ _ _ hx hy h
  ·exact ⟨hx, hy⟩
 ·exact ⟨hx, hy⟩
def joinNor (mg : Bool → St → St → Option St) (b : Bool) : Option Tr → Option Tr → Option Tr
 | none, t => t
 | some t, none => some t
 | some x, some y => some (joinTr mg b x y)
def joinO (mg : Bool → St → St → Option St) (b : Bool) (o1 o2 : O) : O :=
 ⟨o1.ex.map (fun e => (e.1, e.2.1 && b, e.2.2)) ++ o2.ex.map (fun e => (e.1, e.2.1 && !b, e.2.2)), joinNor mg b o1.nor o2.nor⟩
theorem denL_off : ∀ {l : List (Ex × Bool × Tr)} {l' : List (Ex × Bool × Tr)} {n : Option Tr}, (∀ e ∈ l, e.2.1 = false) → denL (l ++ l') n = denL l' n
 | [], l', n, h => rfl
 | e :: r, l', n, h => by
   have he := h e (List.mem_cons_self ..)
   obtain ⟨k, b, t⟩ := e
   simp only at he
   subst he
   simp only [List.cons_append, denL, cond_false]
   exact denL_off fun e he => h e (List.mem_cons_of_mem _ he)
theorem denL_map {l l' : List (Ex × Bool × Tr)} {n n' : Option Tr} {f : Bool → Bool} (hf : ∀ b, f b = b) {out : Out} (h : denL l n = some out) (hl : ∀ e ∈ l', e.2.1 = false) (hn : ∀ t, n = some t → ∃ t', n' = some t' ∧ Le t'.st t.st) :
  ∃ out', denL (l.map (fun e => (e.1, f e.2.1, e.2.2)) ++ l') n' = some out' ∧ LeOut out' out := by
 induction l with
 | nil =>
   rw [List.map_nil, List.nil_append]
   have := denL_off (l' := []) (n := n') hl
   rw [List.append_nil] at this
   rw [this]
   cases n with
   | none => simp [denL] at h
   | some t =>
     simp only [denL, Option.some.injEq] at h
     subst h
     obtain ⟨t', rfl, ht⟩ := hn t rfl
     exact ⟨_, rfl, .nor ht⟩
 | cons e r ih =>
   obtain ⟨k, b, t⟩ := e
   cases b
   ·simp only [denL, cond_false] at h
    simp only [List.map_cons, List.cons_append, denL]
    rw [hf]
    exact ih h
   ·simp only [denL, cond_true] at h
    simp only [List.map_cons, List.cons_append, denL]
    rw [hf]
    exact ⟨_, h, .refl⟩
theorem joinO_den {mg : Bool → St → St → Option St} {P : St → Prop} (hm : MgOk mg P) {b : Bool} {o1 o2 : O} (h1 : o1.All P) (h2 : o2.All P) {out : Out} (h : (bif b then o1.den else o2.den) = some out) :
  ∃ out', (joinO mg b o1 o2).den = some out' ∧ LeOut out' out := by
 cases b
 ·simp only [cond_false] at h
  unfold O.den joinO at *
  simp only
  rw [denL_off (by intro e he; obtain ⟨e', -, rfl⟩ := List.mem_map.1 he; simp)]
  have := denL_map (l' := []) (n' := joinNor mg false o1.nor o2.nor) (f := fun b => b && !false) (by simp) h (by simp) (fun t ht => by
   rw [ht]
   cases hn : o1.nor with
   | none => exact ⟨t, rfl, .rfl⟩
   | some t1 => exact ⟨_, rfl, joinTr_le hm (h1.nor _ hn) (h2.nor _ ht)⟩)
  rwa [List.append_nil] at this
 ·simp only [cond_true] at h
  unfold O.den joinO at *
  simp only
  exact denL_map (f := fun b => b && true) (by simp) h (by intro e he; obtain ⟨e', -, rfl⟩ := List.mem_map.1 he; simp) (fun t ht => by
   rw [ht]
   cases hn : o2.nor with
   | none => exact ⟨t, rfl, .rfl⟩
   | some t2 => exact ⟨_, rfl, joinTr_le hm (h1.nor _ ht) (h2.nor _ hn)⟩)
theorem joinO_all {mg : Bool → St → St → Option St} {P : St → Prop} (hm : MgOk mg P) {b : Bool} {o1 o2 : O} (h1 : o1.All P) (h2 : o2.All P) : (joinO mg b o1 o2).All P := by
 constructor
 ·intro e he
  simp only [joinO, List.mem_append, List.mem_map] at he
  rcases he with ⟨e', he', rfl⟩ | ⟨e', he', rfl⟩
  ·exact h1.ex e' he'
  ·exact h2.ex e' he'
 ·intro t ht
  simp only [joinO] at ht
  cases hn1 : o1.nor with
  | none => rw [hn1] at ht; exact h2.nor t ht
  | some t1 =>
    cases hn2 : o2.nor with
    | none => rw [hn1, hn2] at ht; obtain rfl := Option.some.inj ht; exact h1.nor _ hn1
    | some t2 => rw [hn1, hn2] at ht; obtain rfl := Option.some.inj ht; exact joinTr_all hm (h1.nor _ hn1) (h2.nor _ hn2)
def mgAll (b : Bool) (σ1 σ2 : St) : Option St := mergeSt b none false σ1 σ2
theorem mgAll_ok : MgOk mgAll (fun _ => True) := ⟨fun b σ1 σ2 σ _ _ h => mergeSt_le (σ0 := σ) h ⟨by simp, by simp⟩ ⟨by simp, by simp⟩, fun _ _ _ _ _ _ _ => trivial⟩
theorem O.All.triv (o : O) : o.All fun _ => True := by
 have : ∀ t : Tr, t.All fun _ => True := by
  intro t
  induction t with
  | leaf => trivial
  | br b x y ihx ihy => exact ⟨ihx, ihy⟩
 exact ⟨fun e _ => this _, fun t _ => this t⟩
def evTr (f : St → Option (O × Bool)) : Tr → Option (O × Bool)
 | .leaf σ => f σ
 | .br b x y => (evTr f x).bind fun r1 => (evTr f y).bind fun r2 => some (joinO mgAll b r1.1 r2.1, (r1.2 || !b) && (r2.2 || b))
def orEx : List (Ex × Bool × Tr) → Bool → Bool
 | [], ok => ok
 | e :: r, ok => orEx r ok || e.2.1
def thenO (r : O × Bool) (f : St → Option (O × Bool)) : Option (O × Bool) :=
 match r.1.nor with
 | none => some r
 | some t => (evTr f t).bind fun r2 => some (⟨r.1.ex ++ r2.1.ex, r2.1.nor⟩, r.2 && orEx r.1.ex r2.2)
def Tells (f : St → Option (O × Bool)) (g : St → Option Out) : Prop := ∀ σ σr o, f σ = some (o, true) → Le σ σr → ∃ out0 out, o.den = some out0 ∧ g σr = some out ∧ LeOut out0 out
theorem evTr_tells {f : St → Option (O × Bool)} {g : St → Option Out} (hf : Tells f g) : ∀ {t : Tr} {σr : St} {o : O}, evTr f t = some (o, true) → Le t.st σr → ∃ out0 out, o.den = some out0 ∧ g σr = some out ∧ LeOut out0 out
 | .leaf σ, σr, o, h, hl => hf σ σr o h hl
 | .br b x y, σr, o, h, hl => by
   simp only [evTr, Option.bind_eq_some_iff, Option.some.injEq, Prod.mk.injEq, Bool.and_eq_true, Bool.or_eq_true] at h
   obtain ⟨r1, h1, r2, h2, rfl, k1, k2⟩ := h
   cases b
   ·have k : r2.2 = true := by simpa using k2
    obtain ⟨out0, out, a1, a2, a3⟩ := evTr_tells hf (t := y) (σr := σr) (o := r2.1) (by rw [h2, ← k]) hl
    obtain ⟨out', b1, b2⟩ := joinO_den (b := false) (o1 := r1.1) mgAll_ok (.triv _) (.triv _) a1
    exact ⟨out', out, b1, a2, b2.trans a3⟩
   ·have k : r1.2 = true := by simpa using k1
    obtain ⟨out0, out, a1, a2, a3⟩ := evTr_tells hf (t := x) (σr := σr) (o := r1.1) (by rw [h1, ← k]) hl
    obtain ⟨out', b1, b2⟩ := joinO_den (b := true) (o2 := r2.1) mgAll_ok (.triv _) (.triv _) a1
    exact ⟨out', out, b1, a2, b2.trans a3⟩
theorem orEx_true : ∀ {l : List (Ex × Bool × Tr)} {ok : Bool} {t : Tr} {out : Out}, orEx l ok = true → denL l (some t) = some out → (∃ σ, out = .nor σ) → ok = true
 | [], ok, t, out, h, hd, hn => h
 | (k, b, u) :: r, ok, t, out, h, hd, hn => by
   cases b
   ·simp only [orEx, Bool.or_false] at h
    simp only [denL, cond_false] at hd
    exact orEx_true h hd hn
   ·simp only [denL, cond_true, Option.some.injEq] at hd
    obtain ⟨σ, rfl⟩ := hn
    cases k <;> simp [Ex.out] at hd
theorem denL_cases : ∀ {l : List (Ex × Bool × Tr)} {n : Option Tr} {out : Out}, denL l n = some out → (∃ k σ, out = Ex.out k σ ∧ ∀ l' m, denL (l ++ l') m = some out) ∨ (∃ t, n = some t ∧ out = .nor t.st ∧ ∀ l' m, denL (l ++ l') m = denL l' m)
 | [], none, out, h => by simp [denL] at h
 | [], some t, out, h => by
   simp only [denL, Option.some.injEq] at h
   exact .inr ⟨t, rfl, h.symm, fun _ _ => rfl⟩
 | (k, b, t) :: r, n, out, h => by
   cases b
   ·simp only [denL, cond_false] at h
    simp only [List.cons_append, denL, cond_false]
    exact denL_cases h
   ·simp only [denL, cond_true, Option.some.injEq] at h
    subst h
    exact .inl ⟨k, t.st, rfl, fun l' m => by simp [denL]⟩
theorem thenO_tells {r : O × Bool} {f : St → Option (O × Bool)} {g : St → Option Out} (hf : Tells f g) {o : O} (h : thenO r f = some (o, true)) {out0 out : Out} (hd : r.2 = true → r.1.den = some out0 ∧ LeOut out0 out) :
  ∃ out0' out', o.den = some out0' ∧ (match out with | .nor σ => g σ | o => some o) = some out' ∧ LeOut out0' out' := by
 unfold thenO at h
 split at h
 ·rename_i hn
  obtain ⟨rfl, hr⟩ : r.1 = o ∧ r.2 = true := by
   have := Option.some.inj h
   rw [this]; exact ⟨rfl, rfl⟩
  obtain ⟨hden, hl⟩ := hd hr
  refine ⟨out0, out, hden, ?_, hl⟩
  unfold O.den at hden
  cases hl with
  | nor hl =>
    rcases denL_cases hden with ⟨k, σ, e, -⟩ | ⟨t, e, -⟩
    ·cases k <;> simp [Ex.out] at e
    ·rw [hn] at e; simp at e
  | brk hl => rfl
  | ret hl => rfl
 ·rename_i t hn
  simp only [Option.bind_eq_some_iff, Option.some.injEq, Prod.mk.injEq, Bool.and_eq_true] at h
  obtain ⟨r2, h2, rfl, k1, k2⟩ := h
  obtain ⟨hden, hl⟩ := hd k1
  unfold O.den at hden
  rcases denL_cases hden with ⟨k, σ, rfl, e⟩ | ⟨t', e1, rfl, e2⟩
  ·refine ⟨Ex.out k σ, out, e _ _, ?_, hl⟩
   cases k <;> cases hl <;> rfl
  ·rw [hn] at e1 hden
   obtain rfl := Option.some.inj e1
   cases hl with
   | nor hl =>
     have hok := orEx_true k2 hden ⟨_, rfl⟩
     obtain ⟨o0, o1, a1, a2, a3⟩ := evTr_tells hf (t := t) (o := r2.1) (by rw [h2, ← hok]) hl
     exact ⟨o0, o1, by unfold O.den; rw [e2]; exact a1, a2, a3⟩
end Go.Zq

namespace Go.Zq
open Option renaming bind_eq_some_iff → qB
open Option.some renaming injEq → qI
open Option.some renaming inj → qi
open Prod.mk renaming injEq → qP
open Go
theorem mgAll_fr {a : Option (List Nat)} {q : Bool} {σ0 : St} : MgOk mgAll (Fr a q σ0) where
 le b σ1 σ2 σ _ _ h := mgAll_ok.le b σ1 σ2 σ trivial trivial h
 all b σ1 σ2 σ h1 h2 h := by
  have hle := mgAll_ok.le b σ1 σ2 σ trivial trivial h
  cases b
  ·exact ⟨fun l hl n v hn hv => h2.sl l hl n v hn (hle.sl n v hv), fun hq => hle.hp.symm.trans (h2.hp hq)⟩
  ·exact ⟨fun l hl n v hn hv => h1.sl l hl n v hn (hle.sl n v hv), fun hq => hle.hp.symm.trans (h1.hp hq)⟩
def unO (a b : Option (List Nat)) : Option (List Nat) :=
 match a, b with
 | some x, some y => some (x ++ y)
 | _, _ => none
def asgC : C → Option (List Nat)
 | .ops l _ => some (l.flatMap fun g => g.2.dsts)
 | .seq x y => unO (asgC x) (asgC y)
 | .cond _ x y => unO (asgC x) (asgC y)
 | .blk _ x => asgC x
 | .loop _ _ => none
 | .drw (l :: _) _ false => some (l.flatMap fun g => g.2.dsts)
 | .drw _ _ _ => none
 | _ => some []
def quietC : C → Bool
 | .ops l _ => l.all fun g => quietK g.2
 | .seq x y => quietC x && quietC y
 | .cond _ x y => quietC x && quietC y
 | .blk _ x => quietC x
 | .loop _ _ => false
 | .drw .. => false
 | _ => true
theorem Fr.rfl {a : Option (List Nat)} {q : Bool} {σ : St} : Fr a q σ σ := ⟨fun _ _ _ _ _ h => h, fun _ => Eq.refl _⟩
theorem Fr.left {a b : Option (List Nat)} {q r : Bool} {σ τ : St} (h : Fr a q σ τ) : Fr (unO a b) (q && r) σ τ := ⟨fun l hl n v hn hv => by
 unfold unO at hl
 split at hl
 ·obtain rfl := qi hl
  simp only [List.mem_append, not_or] at hn
  exact h.sl _ (Eq.refl _) n v hn.1 hv
 ·simp at hl, fun hq => h.hp (by simp at hq; exact hq.1)⟩
theorem Fr.right {a b : Option (List Nat)} {q r : Bool} {σ τ : St} (h : Fr b r σ τ) : Fr (unO a b) (q && r) σ τ := ⟨fun l hl n v hn hv => by
 unfold unO at hl
 split at hl
 ·obtain rfl := qi hl
  simp only [List.mem_append, not_or] at hn
  exact h.sl _ (Eq.refl _) n v hn.2 hv
 ·simp at hl, fun hq => h.hp (by simp at hq; exact hq.2)⟩
theorem Fr.trans {a b : Option (List Nat)} {q r : Bool} {σ τ ω : St} (h : Fr a q σ τ) (k : Fr b r τ ω) : Fr (unO a b) (q && r) σ ω := ⟨fun l hl n v hn hv => by
 unfold unO at hl
 split at hl
 ·obtain rfl := qi hl
  simp only [List.mem_append, not_or] at hn
  exact h.sl _ (Eq.refl _) n v hn.1 (k.sl _ (Eq.refl _) n v hn.2 hv)
 ·simp at hl, fun hq => by
 simp only [Bool.and_eq_true] at hq
 exact (k.hp hq.2).trans (h.hp hq.1)⟩
theorem evTr_all {a : Option (List Nat)} {q : Bool} {σ0 : St} {f : St → Option (O × Bool)} : ∀ {t : Tr} {r : O × Bool}, (∀ σ r, f σ = some r → t.All (fun _ => True) → r.1.All (Fr a q σ)) → evTr f t = some r → ∀ {a0 : Option (List Nat)} {q0 : Bool}, t.All (Fr a0 q0 σ0) → r.1.All (Fr (unO a0 a) (q0 && q) σ0)
 | .leaf σ, r, hf, h, a0, q0, ht => (hf σ r h trivial).mono fun τ hτ => Fr.trans ht hτ
 | .br b x y, r, hf, h, a0, q0, ht => by
   have htr : ∀ t : Tr, t.All fun _ => True := by
    intro t
    induction t with
    | leaf => trivial
    | br b x y ihx ihy => exact ⟨ihx, ihy⟩
   simp only [evTr, qB, qI] at h
   obtain ⟨r1, h1, r2, h2, rfl⟩ := h
   exact joinO_all mgAll_fr (evTr_all (fun σ r h _ => hf σ r h (htr _)) h1 ht.1) (evTr_all (fun σ r h _ => hf σ r h (htr _)) h2 ht.2)
theorem thenO_all {a a0 : Option (List Nat)} {q q0 : Bool} {σ0 : St} {f : St → Option (O × Bool)} {r r' : O × Bool} (hf : ∀ σ r, f σ = some r → r.1.All (Fr a q σ)) (hr : r.1.All (Fr a0 q0 σ0)) (h : thenO r f = some r') : r'.1.All (Fr (unO a0 a) (q0 && q) σ0) := by
 unfold thenO at h
 split at h
 ·obtain rfl := qi h
  exact hr.mono fun _ h => h.left
 ·rename_i t hn
  simp only [qB, qI] at h
  obtain ⟨r2, h2, rfl⟩ := h
  have h3 := evTr_all (fun σ r h _ => hf σ r h) h2 (hr.nor t hn)
  refine ⟨fun e he => ?_, h3.nor⟩
  simp only [List.mem_append] at he
  rcases he with he | he
  ·exact (hr.ex e he).mono fun _ h => h.left
  ·exact h3.ex e he
def unbrk (mg : Bool → St → St → Option St) (id : Nat) : List (Ex × Bool × Tr) → Option Tr → List (Ex × Bool × Tr) × Option Tr
 | [], n => ([], n)
 | (k, p, t) :: r, n =>
   match k with
   | .ret => let q := unbrk mg id r n; ((.ret, p, t) :: q.1, q.2)
   | .brk j =>
     if j = id then let q := unbrk mg id r n; (q.1.map (fun e => (e.1, e.2.1 && !p, e.2.2)), joinNor mg p (some t) q.2)
     else let q := unbrk mg id r n; ((.brk j, p, t) :: q.1, q.2)
def blkOut (id : Nat) : Out → Out
 | .brk j σ => if j = id then .nor σ else .brk j σ
 | o => o
theorem unbrk_all {mg : Bool → St → St → Option St} {P : St → Prop} (hm : MgOk mg P) {id : Nat} : ∀ {l : List (Ex × Bool × Tr)} {n : Option Tr}, (O.mk l n).All P → (O.mk (unbrk mg id l n).1 (unbrk mg id l n).2).All P
 | [], n, h => h
 | (k, p, t) :: r, n, h => by
   have ih := unbrk_all hm (id := id) (l := r) (n := n) ⟨fun e he => h.ex e (List.mem_cons_of_mem _ he), h.nor⟩
   have ht : t.All P := h.ex _ (List.mem_cons_self ..)
   unfold unbrk
   split
   ·refine ⟨fun e he => ?_, ih.nor⟩
    simp only [List.mem_cons] at he
    rcases he with rfl | he
    ·exact ht
    ·exact ih.ex e he
   ·split
    ·refine ⟨fun e he => ?_, fun u hu => ?_⟩
     ·obtain ⟨e', he', rfl⟩ := List.mem_map.1 he
      exact ih.ex e' he'
     ·simp only at hu
      cases hn : (unbrk mg id r n).2 with
      | none => rw [hn] at hu; obtain rfl := qi hu; exact ht
      | some t2 => rw [hn] at hu; obtain rfl := qi hu; exact joinTr_all hm ht (ih.nor _ hn)
    ·refine ⟨fun e he => ?_, ih.nor⟩
     simp only [List.mem_cons] at he
     rcases he with rfl | he
     ·exact ht
     ·exact ih.ex e he
theorem unbrk_den {mg : Bool → St → St → Option St} {P : St → Prop} (hm : MgOk mg P) {id : Nat} : ∀ {l : List (Ex × Bool × Tr)} {n : Option Tr} {out : Out}, (O.mk l n).All P → denL l n = some out → ∃ out', denL (unbrk mg id l n).1 (unbrk mg id l n).2 = some out' ∧ LeOut out' (blkOut id out)
 | [], none, out, h, hd => by simp [denL] at hd
 | [], some t, out, h, hd => by
   simp only [denL, qI] at hd
   subst hd
   exact ⟨_, rfl, .refl⟩
 | (k, p, t) :: r, n, out, h, hd => by
   have hr : (O.mk r n).All P := ⟨fun e he => h.ex e (List.mem_cons_of_mem _ he), h.nor⟩
   have ha := unbrk_all hm (id := id) hr
   have ht : t.All P := h.ex _ (List.mem_cons_self ..)
   unfold unbrk
   cases p
   ·simp only [denL, cond_false] at hd
    obtain ⟨out', i1, i2⟩ := unbrk_den hm (id := id) hr hd
    split
    ·exact ⟨out', by simp only [denL, cond_false]; exact i1, i2⟩
    ·split
     ·simp only
      have := denL_map (l' := []) (n' := joinNor mg false (some t) (unbrk mg id r n).2) (f := fun b => b && !false) (by simp) i1 (by simp) (fun u hu => by
       rw [hu]
       exact ⟨_, rfl, joinTr_le (b := false) hm ht (ha.nor _ hu)⟩)
      rw [List.append_nil] at this
      obtain ⟨o2, j1, j2⟩ := this
      exact ⟨o2, j1, j2.trans i2⟩
     ·exact ⟨out', by simp only [denL, cond_false]; exact i1, i2⟩
   ·simp only [denL, cond_true, qI] at hd
    subst hd
    split
    ·exact ⟨_, rfl, .refl⟩
    ·rename_i j
     split
     ·rename_i e
      subst e
      simp only
      have := denL_off (l := (unbrk mg j r n).1.map (fun e => (e.1, e.2.1 && !true, e.2.2))) (l' := []) (n := joinNor mg true (some t) (unbrk mg j r n).2) (by intro e he; obtain ⟨e', -, rfl⟩ := List.mem_map.1 he; simp)
      rw [List.append_nil] at this
      rw [this]
      simp only [Ex.out, blkOut, if_true]
      cases hn : (unbrk mg j r n).2 with
      | none => exact ⟨_, rfl, .refl⟩
      | some t2 => exact ⟨_, rfl, .nor (joinTr_le (b := true) hm ht (ha.nor _ hn))⟩
     ·rename_i e
      refine ⟨.brk j t.st, rfl, ?_⟩
      simp only [Ex.out, blkOut, e, if_false]
      exact .refl
def iterO (nb : Nat) (live : List Nat) (f : St → Option (O × Bool)) : Nat → St → Option (O × Bool)
 | 0, _ => some (⟨[], none⟩, false)
 | n + 1, σ => (canonS true nb live σ).bind fun c => (f c.1).bind fun r => (thenO r (iterO nb live f n)).bind fun o => some (o.1, c.2 && o.2)
def isCl (cl : List Nat) : Opd → Bool
 | .t n => cl.contains n
 | .c _ => true
abbrev Lq := List Nat → St → Option (O × Bool)
def lqN : Lq := fun _ _ => none
def Loops (T : List Nat → C → Prop) : C → Prop
 | .seq x y => Loops T x ∧ Loops T y
 | .cond _ x y => Loops T x ∧ Loops T y
 | .blk _ x => Loops T x
 | .loop live x => T live x ∧ Loops T x
 | _ => True
noncomputable def same {α : Type} (a b : α) : Bool := @decide (a = b) (Classical.propDecidable _)
theorem same_eq {α : Type} {a b : α} (h : same a b = true) : a = b := by
 unfold same at h
 exact @of_decide_eq_true _ (Classical.propDecidable _) h
theorem same_self {α : Type} (a : α) : same a a = true := by
 unfold same
 exact @decide_eq_true _ (Classical.propDecidable _) rfl
noncomputable def sameR (a b : List Row) : Bool := same a b
theorem sameR_self (a : List Row) : sameR a a = true := same_self a
noncomputable def eqV : Value → Value → Bool
 | .int k x, .int k' y => decide (k = k') && same x y
 | .bool x, .bool y => same x y
 | .string x, .string y => same x y
 | v, u => same v u
theorem eqV_eq {v u : Value} (h : eqV v u = true) : v = u := by
 unfold eqV at h
 split at h
 ·obtain ⟨h1, h2⟩ := and_t h
  rw [of_decide_eq_true h1, same_eq h2]
 ·rw [same_eq h]
 ·rw [same_eq h]
 ·exact same_eq h
noncomputable def eqT : T → T → Bool
 | .lit v, .lit u => eqV v u
 | .ptr i r o, .ptr i' r' o' => Nat.beq i i' && (Nat.beq r r' && Nat.beq o o')
 | .sl i o l, .sl i' o' l' => Nat.beq i i' && (Nat.beq o o' && same l l')
 | .nls n, .nls m => Nat.beq n m
 | .imm p n r, .imm p' n' r' => same p p' && (Nat.beq n n' && sameR r r')
 | .clo f c, .clo f' c' => Nat.beq f f' && same c c'
 | t, u => same t u
theorem eqT_eq {v u : T} (h : eqT v u = true) : v = u := by
 unfold eqT at h
 split at h
 ·rw [eqV_eq h]
 ·obtain ⟨h1, h2⟩ := and_t h
  obtain ⟨h2, h3⟩ := and_t h2
  rw [Nat.eq_of_beq_eq_true h1, Nat.eq_of_beq_eq_true h2, Nat.eq_of_beq_eq_true h3]
 ·obtain ⟨h1, h2⟩ := and_t h
  obtain ⟨h2, h3⟩ := and_t h2
  rw [Nat.eq_of_beq_eq_true h1, Nat.eq_of_beq_eq_true h2, same_eq h3]
 ·rw [Nat.eq_of_beq_eq_true h]
 ·obtain ⟨h1, h2⟩ := and_t h
  obtain ⟨h2, h3⟩ := and_t h2
  rw [same_eq h1, Nat.eq_of_beq_eq_true h2, same_eq h3]
 ·obtain ⟨h1, h2⟩ := and_t h
  rw [Nat.eq_of_beq_eq_true h1, same_eq h2]
 ·exact same_eq h
noncomputable def eqRw : Row → Row → Bool
 | [], [] => true
 | t :: r, u :: s => eqT t u && eqRw r s
 | _, _ => false
theorem eqRw_eq : ∀ {v u : Row}, eqRw v u = true → v = u
 | [], [], _ => rfl
 | t :: r, u :: s, h => by
   obtain ⟨h1, h2⟩ := and_t h
   rw [eqT_eq h1, eqRw_eq h2]
 | [], _ :: _, h => by simp [eqRw] at h
 | _ :: _, [], h => by simp [eqRw] at h
noncomputable def eqSV : SV → SV → Bool
 | .und, .und => true
 | .one t, .one u => eqT t u
 | .agg t, .agg u => eqRw t u
 | v, u => same v u
theorem eqSV_eq {v u : SV} (h : eqSV v u = true) : v = u := by
 unfold eqSV at h
 split at h
 ·rfl
 ·rw [eqT_eq h]
 ·rw [eqRw_eq h]
 ·exact same_eq h
noncomputable def eqSl : List (Nat × SV) → List (Nat × SV) → Bool
 | [], [] => true
 | (n, v) :: r, (m, u) :: s => Nat.beq n m && (eqSV v u && eqSl r s)
 | _, _ => false
theorem eqSl_eq : ∀ {v u : List (Nat × SV)}, eqSl v u = true → v = u
 | [], [], _ => rfl
 | (n, v) :: r, (m, u) :: s, h => by
   obtain ⟨h1, h2⟩ := and_t h
   obtain ⟨h2, h3⟩ := and_t h2
   rw [Nat.eq_of_beq_eq_true h1, eqSV_eq h2, eqSl_eq h3]
 | [], _ :: _, h => by simp [eqSl] at h
 | _ :: _, [], h => by simp [eqSl] at h
noncomputable def eqBlk : Blk → Blk → Bool
 | .dead, .dead => true
 | .box t, .box u => eqRw t u
 | .lst n t, .lst m u => Nat.beq n m && sameR t u
 | v, u => same v u
theorem eqBlk_eq {v u : Blk} (h : eqBlk v u = true) : v = u := by
 unfold eqBlk at h
 split at h
 ·rfl
 ·rw [eqRw_eq h]
 ·obtain ⟨h1, h2⟩ := and_t h
  rw [Nat.eq_of_beq_eq_true h1, same_eq h2]
 ·exact same_eq h
noncomputable def eqHp : List Blk → List Blk → Bool
 | [], [] => true
 | t :: r, u :: s => eqBlk t u && eqHp r s
 | _, _ => false
theorem eqHp_eq : ∀ {v u : List Blk}, eqHp v u = true → v = u
 | [], [], _ => rfl
 | t :: r, u :: s, h => by
   obtain ⟨h1, h2⟩ := and_t h
   rw [eqBlk_eq h1, eqHp_eq h2]
 | [], _ :: _, h => by simp [eqHp] at h
 | _ :: _, [], h => by simp [eqHp] at h
noncomputable def eqSt (σ τ : St) : Bool := eqSl σ.sl τ.sl && eqHp σ.hp τ.hp
theorem eqSt_eq {σ τ : St} (h : eqSt σ τ = true) : σ = τ := by
 obtain ⟨h1, h2⟩ := and_t h
 cases σ; cases τ
 simp only at h1 h2
 rw [eqSl_eq h1, eqHp_eq h2]
def fixS (nb : Nat) (kp : List Nat) (cn : Bool) (σ : St) : Option (St × Bool) :=
 if cn = true then
  if kp.contains 999998 = true then if ((kp.filter (· != 999998)).all fun n => (lookup n σ.sl).isSome) = true then (permSt nb (trim (some (kp.filter (· != 999998))) σ)).bind fun c => some (c, true) else none
  else canonS true nb kp σ
 else if (kp.all fun n => (lookup n σ.sl).isSome) = true then some (trim (some kp) σ, true) else none
theorem keep_all {σ σr : St} (hl : Le σ σr) : ∀ {kp : List Nat}, (kp.all fun n => (lookup n σ.sl).isSome) = true → keep σr.sl kp = keep σ.sl kp ∧ (kp.all fun n => (lookup n σr.sl).isSome) = true
 | [], _ => ⟨rfl, rfl⟩
 | n :: r, h => by
   simp only [List.all_cons, Bool.and_eq_true] at h
   obtain ⟨h1, h2⟩ := h
   obtain ⟨v, hv⟩ := Option.isSome_iff_exists.1 h1
   have hr := hl.sl n v hv
   obtain ⟨i1, i2⟩ := keep_all hl h2
   constructor
   ·simp only [keep, hv, hr, i1]
   ·simp only [List.all_cons, hr, i2]; rfl
noncomputable def evDrw (Q : Qt) (kd : List (Nat × List Kd)) (nb : Nat) (kp : List Nat) (cn : Bool) : List (List G) → St → Option (St × Bool)
 | [], _ => none
 | l :: r, σ =>
   match (parse (2 * l.length + 2) none l).2 with
   | [] => (evI Q kd (parse (2 * l.length + 2) none l).1 σ).bind fun x => (fixS nb kp cn x.1).bind fun c => match r with
     | [] => some (c.1, x.2 && c.2)
     | _ :: _ => (evDrw Q kd nb kp cn r σ).bind fun c' => some (c.1, (x.2 && c.2) && (c'.2 && eqSt c'.1 c.1))
   | _ :: _ => none
noncomputable def evt (Q : Qt) (kd : List (Nat × List Kd)) (cl : List Nat) (lq : Lq) (nb n : Nat) : C → St → Option (O × Bool)
 | .drw ls kp cn, σ => (evDrw Q kd nb kp cn ls σ).bind fun r => some (⟨[], some (.leaf r.1)⟩, r.2)
 | .ops l kp, σ =>
   match (parse (2 * l.length + 2) none l).2 with
   | [] => (evI Q kd (parse (2 * l.length + 2) none l).1 σ).bind fun r => some (⟨[], some (.leaf (trim kp r.1))⟩, r.2)
   | _ :: _ => none
 | .seq x y, σ => (evt Q kd cl lq nb n x σ).bind fun r => thenO r (evt Q kd cl lq nb n y)
 | .cond c x y, σ => (σ.ev c).bind fun v => (asBool v).bind fun b =>
   if isCl cl c = true then match b with
    | true => evt Q kd cl lq nb n x σ
    | false => evt Q kd cl lq nb n y σ
   else (evt Q kd cl lq nb n x σ).bind fun r1 => (evt Q kd cl lq nb n y σ).bind fun r2 =>
    some (joinO (fun b => mergeSt b (unO (asgC x) (asgC y)) (quietC x && quietC y)) b r1.1 r2.1, (r1.2 || !b) && (r2.2 || b))
 | .blk id x, σ => (evt Q kd cl lq nb n x σ).bind fun r =>
   let q := unbrk (fun b => mergeSt b (asgC x) (quietC x)) id r.1.ex r.1.nor
   some (⟨q.1, q.2⟩, r.2)
 | .loop live x, σ => match lq live σ with
   | some r => some r
   | none => iterO nb live (evt Q kd cl lq nb n x) n σ
 | .brk id, σ => some (⟨[(.brk id, true, .leaf σ)], none⟩, true)
 | .ret, σ => some (⟨[(.ret, true, .leaf σ)], none⟩, true)
 | .skip, σ => some (⟨[], some (.leaf σ)⟩, true)
theorem mergeSt_ok {a : Option (List Nat)} {q : Bool} {σ0 : St} : MgOk (fun b => mergeSt b a q) (Fr a q σ0) where
 le b σ1 σ2 σ h1 h2 h := mergeSt_le h h1 h2
 all b σ1 σ2 σ h1 h2 h := mergeSt_fr h h1
theorem lookup_keep {n : Nat} {v : SV} {sl : List (Nat × SV)} : ∀ {l : List Nat}, lookup n (keep sl l) = some v → n ∈ l ∧ lookup n sl = some v
 | [], h => by simp [keep, lookup] at h
 | m :: r, h => by
   unfold keep at h
   split at h
   ·rename_i u hu
    simp only [lookup] at h
    split at h
    ·rename_i e
     subst e
     obtain rfl := qi h
     exact ⟨List.mem_cons_self .., hu⟩
    ·have := lookup_keep h
     exact ⟨List.mem_cons_of_mem _ this.1, this.2⟩
   ·have := lookup_keep h
    exact ⟨List.mem_cons_of_mem _ this.1, this.2⟩
theorem keep_has {n : Nat} {v : SV} {sl : List (Nat × SV)} : ∀ {l : List Nat}, n ∈ l → lookup n sl = some v → lookup n (keep sl l) = some v
 | m :: r, hm, h => by
   unfold keep
   by_cases e : m = n
   ·subst e
    rw [h]
    simp [lookup]
   ·have hr : n ∈ r := by
     rcases List.mem_cons.1 hm with h | h
     ·exact absurd h.symm e
     ·exact h
    split
    ·simp only [lookup, e, if_false]
     exact keep_has hr h
    ·exact keep_has hr h
theorem trim_le {kp : Option (List Nat)} {σ σr : St} (h : Le σ σr) : Le (trim kp σ) (trim kp σr) := by
 cases kp with
 | none => exact h
 | some l => exact ⟨fun n v hn => by
    have := lookup_keep hn
    exact keep_has this.1 (h.sl n v this.2), h.hp⟩
theorem trim_sub {kp : Option (List Nat)} {σ : St} {n : Nat} {v : SV} (h : lookup n (trim kp σ).sl = some v) : lookup n σ.sl = some v := by
 cases kp with
 | none => exact h
 | some l => exact (lookup_keep h).2
theorem trim_hp {kp : Option (List Nat)} {σ : St} : (trim kp σ).hp = σ.hp := by cases kp <;> rfl
theorem dsts_flat {n : Nat} : ∀ {its : Its} {g : Option (Nat × Bool)}, (∀ x ∈ its.flat g, n ∉ x.2.dsts) → n ∉ its.dsts
 | .nil, g, h => by simp [Its.dsts]
 | .op k r, g, h => by
   simp only [Its.flat, List.mem_cons, forall_eq_or_imp] at h
   simp only [Its.dsts, List.mem_append, not_or]
   exact ⟨h.1, dsts_flat h.2⟩
 | .iff s w its d a b r, g, h => by
   simp only [Its.flat, List.mem_append, List.mem_cons] at h
   simp only [Its.dsts, List.mem_append, List.mem_cons, not_or]
   refine ⟨dsts_flat fun x hx => h x (.inl hx), ?_, dsts_flat fun x hx => h x (.inr (.inr hx))⟩
   have := h _ (.inr (.inl rfl))
   simpa [K.dsts, K.dst] using this
theorem quiet_flat : ∀ {its : Its} {g : Option (Nat × Bool)}, (∀ x ∈ its.flat g, quietK x.2 = true) → its.quiet = true
 | .nil, g, h => rfl
 | .op k r, g, h => by
   simp only [Its.flat, List.mem_cons, forall_eq_or_imp] at h
   simp only [Its.quiet, Bool.and_eq_true]
   exact ⟨h.1, quiet_flat h.2⟩
 | .iff s w its d a b r, g, h => by
   simp only [Its.flat, List.mem_append, List.mem_cons] at h
   simp only [Its.quiet, Bool.and_eq_true]
   exact ⟨quiet_flat fun x hx => h x (.inl hx), quiet_flat fun x hx => h x (.inr (.inr hx))⟩
theorem parse_all {n : Nat} {l : List G} (h : (parse n none l).2 = []) : (parse n none l).1.flat none = l := by
 have := parse_flat n none l
 rwa [h, List.append_nil] at this
theorem evDrw_frame {Q : Qt} {kd : List (Nat × List Kd)} {nb : Nat} {kp : List Nat} {l : List G} {r : List (List G)} {σ : St} {c : St × Bool} (h : evDrw Q kd nb kp false (l :: r) σ = some c) (n : Nat) (v : SV) (hn : n ∉ l.flatMap fun g => g.2.dsts) (hv : lookup n c.1.sl = some v) :
  lookup n σ.sl = some v := by
 unfold evDrw at h
 split at h
 ·rename_i hp
  simp only [qB] at h
  obtain ⟨i, hi, x, hx, h⟩ := h
  have hc : c.1 = x.1 := by
   split at h
   ·obtain rfl := qi h; rfl
   ·simp only [qB, qI] at h
    obtain ⟨_, _, rfl⟩ := h; rfl
  rw [hc] at hv
  unfold fixS at hx
  rw [if_neg (by simp)] at hx
  obtain ⟨-, hx1⟩ := of_ite hx
  obtain rfl := qi hx1
  have hf := parse_all hp
  refine evI_frame hi n v (dsts_flat (g := none) fun x hx => ?_) (trim_sub hv)
  rw [hf] at hx
  exact fun e => hn (List.mem_flatMap.2 ⟨x, hx, e⟩)
 ·simp at h
theorem evt_all {Q : Qt} {kd : List (Nat × List Kd)} {cl : List Nat} {lq : Lq} {nb n : Nat} : ∀ {c : C} {σ : St} {r : O × Bool}, evt Q kd cl lq nb n c σ = some r → r.1.All (Fr (asgC c) (quietC c) σ)
 | .drw ls kp cn, σ, r, h => by
   simp only [evt, qB, qI] at h
   obtain ⟨c, hc, rfl⟩ := h
   refine ⟨by simp, fun t ht => ?_⟩
   obtain rfl := qi ht
   refine ⟨fun l' hl' m v hm hv => ?_, fun hq => by simp [quietC] at hq⟩
   cases ls with
   | nil => simp [evDrw] at hc
   | cons l ls =>
     cases cn with
     | true => simp [asgC] at hl'
     | false =>
       simp only [asgC, qI] at hl'
       subst hl'
       exact evDrw_frame hc m v hm hv
 | .ops l kp, σ, r, h => by
   unfold evt at h
   split at h
   ·rename_i hp
    simp only [qB, qI] at h
    obtain ⟨i, hi, rfl⟩ := h
    have hf := parse_all hp
    refine ⟨by simp, fun t ht => ?_⟩
    obtain rfl := qi ht
    refine ⟨fun l' hl' m v hm hv => ?_, fun hq => ?_⟩
    ·simp only [asgC, qI] at hl'
     subst hl'
     refine evI_frame hi m v (dsts_flat (g := none) fun x hx => ?_) (trim_sub hv)
     rw [hf] at hx
     exact fun e => hm (List.mem_flatMap.2 ⟨x, hx, e⟩)
    ·rw [trim_hp]
     refine evI_quiet (quiet_flat (g := none) fun x hx => ?_) hi
     rw [hf] at hx
     simp only [quietC, List.all_eq_true] at hq
     exact hq x hx
   ·simp at h
 | .seq x y, σ, r, h => by
   simp only [evt, qB] at h
   obtain ⟨r1, h1, h2⟩ := h
   exact thenO_all (fun σ r h => evt_all h) (evt_all h1) h2
 | .cond c x y, σ, r, h => by
   simp only [evt, qB] at h
   obtain ⟨v, hv, b, hb, h⟩ := h
   split at h
   ·split at h
    ·exact (evt_all h).mono fun _ h => h.left
    ·exact (evt_all h).mono fun _ h => h.right
   ·simp only [qB, qI] at h
    obtain ⟨r1, h1, r2, h2, rfl⟩ := h
    exact joinO_all mergeSt_ok ((evt_all h1).mono fun _ h => h.left) ((evt_all h2).mono fun _ h => h.right)
 | .blk id x, σ, r, h => by
   simp only [evt, qB, qI] at h
   obtain ⟨r1, h1, rfl⟩ := h
   have h2 := unbrk_all (mergeSt_ok (a := asgC x) (q := quietC x)) (id := id) (evt_all (c := x) h1)
   exact h2
 | .loop live x, σ, r, h => by
   have htr : ∀ t : Tr, t.All (Fr none false σ) := by
    intro t
    induction t with
    | leaf => exact ⟨by simp, by simp⟩
    | br b x y ihx ihy => exact ⟨ihx, ihy⟩
   exact ⟨fun e _ => htr _, fun t _ => htr t⟩
 | .brk id, σ, r, h => by
   simp only [evt, qI] at h
   subst h
   exact ⟨fun e he => by simp only [List.mem_singleton] at he; subst he; exact Fr.rfl, by simp⟩
 | .ret, σ, r, h => by
   simp only [evt, qI] at h
   subst h
   exact ⟨fun e he => by simp only [List.mem_singleton] at he; subst he; exact Fr.rfl, by simp⟩
 | .skip, σ, r, h => by
   simp only [evt, qI] at h
   subst h
   exact ⟨by simp, fun t ht => by obtain rfl := qi ht; exact Fr.rfl⟩
theorem canon_le {nb : Nat} {live : List Nat} {σ σr σ' : St} (h : canon nb live σ = some σ') (hl : Le σ σr) : canon nb live σr = some σ' := by
 have h0 : ∃ src m, ∃ r, liveSl σ src m live = some r := by
  unfold canon at h
  simp only at h
  split at h
  ·simp only [qB] at h
   obtain ⟨x, hx, s, hs, h⟩ := h
   exact ⟨_, _, _, hs⟩
  ·simp at h
 have hlook : ∀ s ∈ live, lookup s σr.sl = lookup s σ.sl := by
  obtain ⟨src, m, r, h0⟩ := h0
  clear h
  induction live generalizing m r with
  | nil => simp
  | cons s t ih =>
    simp only [liveSl, qB] at h0
    obtain ⟨v, hv, h0⟩ := h0
    intro s' hs'
    rcases List.mem_cons.1 hs' with rfl | hs'
    ·rw [hv, hl.sl _ _ hv]
    ·split at h0
     ·simp only [qB] at h0
      obtain ⟨x, hx, l, h0, -⟩ := h0
      exact ih _ _ h0 _ hs'
     ·simp only [qB] at h0
      obtain ⟨x, hx, l, h0, -⟩ := h0
      exact ih _ _ h0 _ hs'
     ·simp only [qB] at h0
      obtain ⟨l, h0, -⟩ := h0
      exact ih _ _ h0 _ hs'
     ·simp at h0
 have hc : ∀ live, (∀ s ∈ live, lookup s σr.sl = lookup s σ.sl) → liveCells σr live = liveCells σ live := by
  intro live
  induction live with
  | nil => intro _; rfl
  | cons s t ih =>
    intro h
    have := ih fun s' hs' => h s' (List.mem_cons_of_mem _ hs')
    unfold liveCells at *
    rw [List.flatMap_cons, List.flatMap_cons, this, h s (List.mem_cons_self ..)]
 have hs : ∀ live src m, (∀ s ∈ live, lookup s σr.sl = lookup s σ.sl) → liveSl σr src m live = liveSl σ src m live := by
  intro live
  induction live with
  | nil => intro _ _ _; rfl
  | cons s t ih =>
    intro src m h
    have := fun m => ih src m fun s' hs' => h s' (List.mem_cons_of_mem _ hs')
    unfold liveSl
    rw [h s (List.mem_cons_self ..)]
    simp only [this]
 rw [← h]
 unfold canon
 simp only [hc live hlook, hl.hp, hs live _ _ hlook]
theorem iterO_tells {nb : Nat} {live : List Nat} {f : St → Option (O × Bool)} {g : St → Option Out} (hf : Tells f g) : ∀ n, Tells (iterO nb live f n) (iter nb live g n)
 | 0 => fun σ σr o h hl => by simp [iterO] at h
 | n + 1 => fun σ σr o h hl => by
   simp only [iterO, qB, qI, qP] at h
   obtain ⟨σ1, h1, r, hr, o2, h2, rfl, ho⟩ := h
   obtain ⟨ok1, ok2⟩ := and_t ho
   have hc := canon_le (canonS_eq (σ' := σ1.1) (by rw [h1, ← ok1])) hl
   have h2' : thenO r (iterO nb live f n) = some (o2.1, true) := by rw [h2, ← ok2]
   simp only [iter, hc, Option.bind_some]
   have hr2 : r.2 = true := by
    unfold thenO at h2'
    split at h2'
    ·rw [qi h2']
    ·simp only [qB, qI, qP, Bool.and_eq_true] at h2'
     obtain ⟨_, _, _, h, _⟩ := h2'
     exact h
   obtain ⟨out0, out, a1, a2, a3⟩ := hf σ1.1 σ1.1 r.1 (by rw [hr, ← hr2]) .rfl
   obtain ⟨o0, o1, b1, b2, b3⟩ := thenO_tells (iterO_tells hf n) h2' (fun _ => ⟨a1, a3⟩)
   refine ⟨o0, o1, b1, ?_, b3⟩
   rw [a2, Option.bind_some, ← b2]
   cases out <;> rfl
theorem thenO_ok {r r' : O × Bool} {f : St → Option (O × Bool)} (h : thenO r f = some r') (hr : r'.2 = true) : r.2 = true := by
 unfold thenO at h
 split at h
 ·rw [qi h, hr]
 ·simp only [qB, qI] at h
  obtain ⟨_, _, h⟩ := h
  subst h
  simp only [Bool.and_eq_true] at hr
  exact hr.1
theorem fixS_le {nb : Nat} {kp : List Nat} {cn : Bool} {σ σr c : St} (h : fixS nb kp cn σ = some (c, true)) (hl : Le σ σr) : fixSt nb kp cn σr = some c := by
 unfold fixS at h
 unfold fixSt
 split at h
 ·rename_i e
  rw [if_pos e]
  split at h
  ·rename_i e1
   rw [if_pos e1]
   obtain ⟨h1, h2⟩ := of_ite h
   obtain ⟨k1, k2⟩ := keep_all hl h1
   rw [if_pos k2]
   simp only [qB, qI, qP, and_true] at h2
   obtain ⟨c', hc, rfl⟩ := h2
   rw [← hc]
   simp only [trim, k1, hl.hp]
  ·rename_i e1
   rw [if_neg e1]
   exact canon_le (canonS_eq h) hl
 ·rename_i e
  rw [if_neg e]
  obtain ⟨h1, h2⟩ := of_ite h
  obtain ⟨k1, k2⟩ := keep_all hl h1
  rw [if_pos k2]
  simp only [qI, qP, and_true] at h2
  rw [← h2]
  simp only [trim, k1, hl.hp]
theorem evDrw_tells {R : Rt} {Q : Qt} (hQ : QOk (frzR R) Q) {kd : List (Nat × List Kd)} {nb : Nat} {kp : List Nat} {cn : Bool} {σ σr : St} (hl : Le σ σr) : ∀ {ls : List (List G)} {c : St}, evDrw Q kd nb kp cn ls σ = some (c, true) → drwSt R nb kp cn ls σr = some c
 | [], c, h => by simp [evDrw] at h
 | l :: r, c, h => by
   unfold evDrw at h
   split at h
   case h_2 => simp at h
   rename_i hp
   simp only [qB] at h
   obtain ⟨i, hi, x, hx, h⟩ := h
   have run : i.2 = true → ∃ τ, runGs R l σr = some τ ∧ Le i.1 τ := fun ho => by
    obtain ⟨τ, h1, h2⟩ := evI_run hQ (g := none) (by rw [hi, ← ho]) hl (fun s w e => by simp at e) (fun s w e => by simp at e)
    rw [parse_all hp] at h1
    exact ⟨τ, h1, h2⟩
   cases r with
   | nil =>
     simp only [qI, qP] at h
     obtain ⟨rfl, ho⟩ := h
     obtain ⟨o1, o2⟩ := and_t ho
     obtain ⟨τ, h1, h2⟩ := run o1
     simp only [drwSt, h1, Option.bind_some]
     rw [fixS_le (c := x.1) (by rw [hx, ← o2]) h2]
     rfl
   | cons m r =>
     simp only [qB, qI, qP] at h
     obtain ⟨c', hc', rfl, ho⟩ := h
     obtain ⟨o1, o2⟩ := and_t ho
     obtain ⟨o1, o3⟩ := and_t o1
     obtain ⟨o2, o4⟩ := and_t o2
     obtain ⟨τ, h1, h2⟩ := run o1
     have h3 := evDrw_tells hQ hl (ls := m :: r) (c := c'.1) (by rw [hc', ← o2])
     unfold drwSt
     rw [h1, Option.bind_some, fixS_le (c := x.1) (by rw [hx, ← o3]) h2, Option.bind_some]
     simp only
     rw [h3, Option.bind_some, if_pos (eqSt_eq o4)]
theorem evt_tells {R : Rt} {Q : Qt} (hQ : QOk (frzR R) Q) {kd : List (Nat × List Kd)} {cl : List Nat} {lq : Lq} {nb n : Nat} : ∀ {c : C}, Loops (fun live x => Tells (lq live) (evc R nb n (.loop live x))) c → Tells (evt Q kd cl lq nb n c) (evc R nb n c)
 | .drw ls kp cn, hL => fun σ σr o h hl => by
   simp only [evt, qB, qI, qP] at h
   obtain ⟨c, hc, rfl, ho⟩ := h
   have := evDrw_tells hQ hl (c := c.1) (by rw [hc, ← ho])
   exact ⟨.nor c.1, .nor c.1, rfl, by simp [evc, this], .nor .rfl⟩
 | .ops l kp, hL => fun σ σr o h hl => by
   unfold evt at h
   split at h
   ·rename_i hp
    simp only [qB, qI, qP] at h
    obtain ⟨i, hi, rfl, ho⟩ := h
    obtain ⟨τ, h1, h2⟩ := evI_run hQ (g := none) (by rw [hi, ← ho]) hl (fun s w e => by simp at e) (fun s w e => by simp at e)
    rw [parse_all hp] at h1
    exact ⟨.nor (trim kp i.1), .nor (trim kp τ), rfl, by simp [evc, h1], .nor (trim_le h2)⟩
   ·simp at h
 | .seq x y, hL => fun σ σr o h hl => by
   simp only [evt, qB] at h
   obtain ⟨r, hr, h⟩ := h
   obtain ⟨out0, out, a1, a2, a3⟩ := evt_tells hQ (c := x) hL.1 σ σr r.1 (by rw [hr, ← thenO_ok h rfl]) hl
   obtain ⟨o0, o1, b1, b2, b3⟩ := thenO_tells (evt_tells hQ (c := y) hL.2) h (fun _ => ⟨a1, a3⟩)
   refine ⟨o0, o1, b1, ?_, b3⟩
   rw [evc, a2, Option.bind_some, ← b2]
   cases out <;> rfl
 | .cond c x y, hL => fun σ σr o h hl => by
   simp only [evt, qB] at h
   obtain ⟨v, hv, b, hb, h⟩ := h
   have hv' := hl.ev _ _ hv
   simp only [evc, hv', hb, Option.bind_some]
   split at h
   ·split at h
    ·simp only [if_true]
     exact evt_tells hQ (c := x) hL.1 σ σr o h hl
    ·simp only [Bool.false_eq_true, if_false]
     exact evt_tells hQ (c := y) hL.2 σ σr o h hl
   ·simp only [qB, qI, qP, Bool.and_eq_true, Bool.or_eq_true] at h
    obtain ⟨r1, h1, r2, h2, rfl, k1, k2⟩ := h
    have f1 := (evt_all h1).mono fun _ h => Fr.left (b := asgC y) (r := quietC y) h
    have f2 := (evt_all h2).mono fun _ h => Fr.right (a := asgC x) (q := quietC x) h
    cases b
    ·have k : r2.2 = true := by simpa using k2
     obtain ⟨out0, out, a1, a2, a3⟩ := evt_tells hQ (c := y) hL.2 σ σr r2.1 (by rw [h2, ← k]) hl
     obtain ⟨out', b1, b2⟩ := joinO_den (b := false) (o1 := r1.1) mergeSt_ok f1 f2 a1
     exact ⟨out', out, b1, by simpa using a2, b2.trans a3⟩
    ·have k : r1.2 = true := by simpa using k1
     obtain ⟨out0, out, a1, a2, a3⟩ := evt_tells hQ (c := x) hL.1 σ σr r1.1 (by rw [h1, ← k]) hl
     obtain ⟨out', b1, b2⟩ := joinO_den (b := true) (o2 := r2.1) mergeSt_ok f1 f2 a1
     exact ⟨out', out, b1, by simpa using a2, b2.trans a3⟩
 | .blk id x, hL => fun σ σr o h hl => by
   simp only [evt, qB, qI, qP] at h
   obtain ⟨r, hr, rfl, ho⟩ := h
   obtain ⟨out0, out, a1, a2, a3⟩ := evt_tells hQ (c := x) hL σ σr r.1 (by rw [hr, ← ho]) hl
   obtain ⟨out', b1, b2⟩ := unbrk_den (id := id) mergeSt_ok (evt_all hr) a1
   refine ⟨out', blkOut id out, b1, ?_, b2.trans ?_⟩
   ·rw [evc, a2, Option.bind_some]
    cases out with
    | nor σ => rfl
    | ret σ => rfl
    | brk j σ =>
      simp only [blkOut]
      split <;> rfl
   ·cases a3 with
    | nor h => exact .nor h
    | ret h => exact .ret h
    | brk h =>
      simp only [blkOut]
      split
      ·exact .nor h
      ·exact .brk h
 | .loop live x, hL => fun σ σr o h hl => by
   simp only [evt] at h
   split at h
   ·rename_i r hr
    rw [h] at hr
    exact hL.1 σ σr o hr hl
   ·rw [evc]
    exact iterO_tells (evt_tells hQ (c := x) hL.2) n σ σr o h hl
 | .brk id, hL => fun σ σr o h hl => by
   simp only [evt, qI, qP] at h
   obtain ⟨rfl, -⟩ := h
   exact ⟨.brk id σ, .brk id σr, rfl, rfl, .brk hl⟩
 | .ret, hL => fun σ σr o h hl => by
   simp only [evt, qI, qP] at h
   obtain ⟨rfl, -⟩ := h
   exact ⟨.ret σ, .ret σr, rfl, rfl, .ret hl⟩
 | .skip, hL => fun σ σr o h hl => by
   simp only [evt, qI, qP] at h
   obtain ⟨rfl, -⟩ := h
   exact ⟨.nor σ, .nor σr, rfl, rfl, .nor hl⟩
def resSt (res : List Rv) (nb : Nat) (σ : St) : Option (SV × List Blk) := (resVals σ res).bind fun vs => leave nb σ vs
theorem resVals_le {σ σr : St} (hl : Le σ σr) : ∀ {res : List Rv} {vs : List SV}, resVals σ res = some vs → resVals σr res = some vs
 | [], vs, h => h
 | .tmp n :: r, vs, h => by
   simp only [resVals, qB] at h ⊢
   obtain ⟨v, hv, us, hu, h⟩ := h
   exact ⟨v, hl.sl _ _ hv, us, resVals_le hl hu, h⟩
 | .cell n k :: r, vs, h => by
   simp only [resVals, qB] at h ⊢
   obtain ⟨v, hv, t, ht, cs, hc, u, hu, us, hus, h⟩ := h
   exact ⟨v, hl.sl _ _ hv, t, ht, cs, by rw [hl.hp]; exact hc, u, hu, us, resVals_le hl hus, h⟩
theorem resSt_le {res : List Rv} {nb : Nat} {σ σr : St} (hl : Le σ σr) {r : SV × List Blk} (h : resSt res nb σ = some r) : resSt res nb σr = some r := by
 simp only [resSt, qB] at h ⊢
 obtain ⟨vs, hv, h⟩ := h
 refine ⟨vs, resVals_le hl hv, ?_⟩
 unfold leave at h ⊢
 rw [hl.hp]
 exact h
def qcons (f : FuncId) (q : List SV → List Blk → Option ((SV × List Blk) × Bool)) (Q : Qt) : Qt := fun g args hp => if g = f then match q args hp with | some r => some r | none => Q g args hp else Q g args hp
theorem qcons_ok {R : Rt} {f : FuncId} {q : List SV → List Blk → Option ((SV × List Blk) × Bool)} {Q : Qt} (h : ∀ args hp r, q args hp = some (r, true) → R f args hp = some r) (hQ : QOk R Q) : QOk R (qcons f q Q) := fun g args hp r hg => by
 unfold qcons at hg
 split at hg
 ·rename_i e
  subst e
  split at hg
  ·rename_i r' hr
   obtain rfl := qi hg
   exact h _ _ _ hr
  ·exact hQ _ _ _ _ hg
 ·exact hQ _ _ _ _ hg
def qnil : Qt := fun _ _ _ => none
theorem qnil_ok {R : Rt} : QOk R qnil := fun _ _ _ _ h => by simp [qnil] at h
end Go.Zq

namespace Go.Zq
open Option renaming bind_eq_some_iff → qB
open Option.some renaming injEq → qI
open Option.some renaming inj → qi
open Go
inductive Pt (α : Type) where
 | leaf (a : α)
 | br (b : Bool) (x y : Pt α)
 | ok (b : Bool) (x : Pt α)
def Pt.val {α : Type} : Pt α → α
 | .leaf a => a
 | .br b x y => bif b then x.val else y.val
 | .ok _ x => x.val
def Pt.okv {α : Type} : Pt α → Bool
 | .leaf _ => true
 | .br b x y => bif b then x.okv else y.okv
 | .ok b x => b && x.okv
def Pt.map {α β : Type} (f : α → β) : Pt α → Pt β
 | .leaf a => .leaf (f a)
 | .br b x y => .br b (x.map f) (y.map f)
 | .ok b x => .ok b (x.map f)
def Pt.bindO {α β : Type} (f : α → Option (Pt β)) : Pt α → Option (Pt β)
 | .leaf a => f a
 | .br b x y => (x.bindO f).bind fun x => (y.bindO f).bind fun y => some (.br b x y)
 | .ok b x => (x.bindO f).bind fun x => some (.ok b x)
theorem Pt.val_map {α β : Type} (f : α → β) : ∀ t : Pt α, (t.map f).val = f t.val
 | .leaf a => rfl
 | .br b x y => by
   simp only [Pt.map, Pt.val, Pt.val_map f x, Pt.val_map f y]
   cases b <;> rfl
 | .ok b x => Pt.val_map f x
theorem Pt.okv_map {α β : Type} (f : α → β) : ∀ t : Pt α, (t.map f).okv = t.okv
 | .leaf a => rfl
 | .br b x y => by simp only [Pt.map, Pt.okv, Pt.okv_map f x, Pt.okv_map f y]
 | .ok b x => by simp only [Pt.map, Pt.okv, Pt.okv_map f x]
theorem Pt.bindO_val {α β : Type} {f : α → Option (Pt β)} : ∀ {t : Pt α} {u : Pt β}, t.bindO f = some u → u.okv = true → t.okv = true ∧ ∃ w, f t.val = some w ∧ w.okv = true ∧ u.val = w.val
 | .leaf a, u, h, ho => ⟨rfl, u, h, ho, rfl⟩
 | .br b x y, u, h, ho => by
   simp only [Pt.bindO, qB, qI] at h
   obtain ⟨x', hx, y', hy, rfl⟩ := h
   cases b
   ·have := Pt.bindO_val (t := y) (u := y') hy ho
    exact this
   ·have := Pt.bindO_val (t := x) (u := x') hx ho
    exact this
 | .ok b x, u, h, ho => by
   simp only [Pt.bindO, qB, qI] at h
   obtain ⟨x', hx, rfl⟩ := h
   obtain ⟨h1, h2⟩ := and_t ho
   obtain ⟨k1, k2⟩ := Pt.bindO_val (t := x) hx h2
   exact ⟨by simp only [Pt.okv, h1, k1]; rfl, k2⟩
def TellsP (f : St → Option (Pt Out)) (g : St → Option Out) : Prop := ∀ σ σr t, f σ = some t → t.okv = true → Le σ σr → ∃ out, g σr = some out ∧ LeOut t.val out
def trP : Tr → Pt Out
 | .leaf σ => .leaf (.nor σ)
 | .br b x y => .br b (trP x) (trP y)
theorem trP_val : ∀ t : Tr, (trP t).val = .nor t.st ∧ (trP t).okv = true
 | .leaf σ => ⟨rfl, rfl⟩
 | .br b x y => by
   cases b
   ·exact trP_val y
   ·exact trP_val x
def tagC : C → Nat
 | .ops ((_, k) :: _) _ => k.dst.getD 0
 | .ops [] _ => 0
 | .drw ((( _, k) :: _) :: _) _ _ => k.dst.getD 0
 | .drw _ _ _ => 0
 | .seq x _ => tagC x
 | .cond (.t n) _ _ => n
 | .cond (.c _) x _ => tagC x
 | .blk _ x => tagC x
 | .loop _ x => tagC x
 | _ => 0
abbrev Lp := List (Nat × (St → Option (Pt Out)))
def lpAt : Lp → Nat → St → Option (Pt Out)
 | [], _, _ => none
 | (m, f) :: r, n, σ => if m = n then f σ else lpAt r n σ
def nrmT (hp : List Blk) : T → T × Bool
 | .sl id off len => match hp[id]? with
   | some (.lst _ rows) => (.sl id off rows.length, decide (len = rows.length))
   | _ => (.sl id off len, true)
 | t => (t, true)
theorem nrmT_eq {hp : List Blk} {t : T} (h : (nrmT hp t).2 = true) : (nrmT hp t).1 = t := by
 unfold nrmT at h ⊢
 split at h
 ·split at h
  ·rename_i hb
   simp only [hb]
   rw [of_decide_eq_true h]
  ·rfl
 ·rfl
def nrmRow (hp : List Blk) : Row → Row × Bool
 | [] => ([], true)
 | t :: r => ((nrmT hp t).1 :: (nrmRow hp r).1, (nrmT hp t).2 && (nrmRow hp r).2)
theorem nrmRow_eq {hp : List Blk} : ∀ {t : Row}, (nrmRow hp t).2 = true → (nrmRow hp t).1 = t
 | [], _ => rfl
 | t :: r, h => by
   obtain ⟨h1, h2⟩ := and_t h
   simp only [nrmRow, nrmT_eq h1, nrmRow_eq h2]
def nrmFl (hp : List Blk) : SV → SV × Bool
 | .one t => (.one (nrmT hp t).1, (nrmT hp t).2)
 | .agg ts => (.agg (nrmRow hp ts).1, (nrmRow hp ts).2)
 | v => (v, true)
theorem nrmFl_eq {hp : List Blk} {v : SV} (h : (nrmFl hp v).2 = true) : (nrmFl hp v).1 = v := by
 cases v with
 | one t => simp only [nrmFl, nrmT_eq (t := t) h]
 | agg ts => simp only [nrmFl, nrmRow_eq (t := ts) h]
 | und => rfl
 | tup _ => rfl
def nrmFls (hp : List Blk) : List SV → List SV × Bool
 | [] => ([], true)
 | t :: r => ((nrmFl hp t).1 :: (nrmFls hp r).1, (nrmFl hp t).2 && (nrmFls hp r).2)
theorem nrmFls_eq {hp : List Blk} : ∀ {t : List SV}, (nrmFls hp t).2 = true → (nrmFls hp t).1 = t
 | [], _ => rfl
 | t :: r, h => by
   obtain ⟨h1, h2⟩ := and_t h
   simp only [nrmFls, nrmFl_eq h1, nrmFls_eq h2]
def nrmSV (hp : List Blk) : SV → SV × Bool
 | .tup vs => (.tup (nrmFls hp vs).1, (nrmFls hp vs).2)
 | v => nrmFl hp v
theorem nrmSV_eq {hp : List Blk} {v : SV} (h : (nrmSV hp v).2 = true) : (nrmSV hp v).1 = v := by
 cases v with
 | tup vs => simp only [nrmSV, nrmFls_eq (t := vs) h]
 | one t => exact nrmFl_eq (v := .one t) h
 | agg ts => exact nrmFl_eq (v := .agg ts) h
 | und => rfl
def nrmBlks (hp : List Blk) : List Blk → List Blk × Bool
 | [] => ([], true)
 | .box cs :: r => (.box (nrmRow hp cs).1 :: (nrmBlks hp r).1, (nrmRow hp cs).2 && (nrmBlks hp r).2)
 | b :: r => (b :: (nrmBlks hp r).1, (nrmBlks hp r).2)
theorem nrmBlks_eq {hp : List Blk} : ∀ {l : List Blk}, (nrmBlks hp l).2 = true → (nrmBlks hp l).1 = l
 | [], _ => rfl
 | .box cs :: r, h => by
   obtain ⟨h1, h2⟩ := and_t h
   simp only [nrmBlks, nrmRow_eq h1, nrmBlks_eq h2]
 | .dead :: r, h => by simp only [nrmBlks, nrmBlks_eq (l := r) h]
 | .lst n rows :: r, h => by simp only [nrmBlks, nrmBlks_eq (l := r) h]
def nrmSl (hp : List Blk) : List (Nat × SV) → List (Nat × SV) × Bool
 | [] => ([], true)
 | p :: r => ((p.1, (nrmFl hp p.2).1) :: (nrmSl hp r).1, (nrmFl hp p.2).2 && (nrmSl hp r).2)
theorem nrmSl_eq {hp : List Blk} : ∀ {l : List (Nat × SV)}, (nrmSl hp l).2 = true → (nrmSl hp l).1 = l
 | [], _ => rfl
 | p :: r, h => by
   obtain ⟨h1, h2⟩ := and_t h
   simp only [nrmSl, nrmFl_eq h1, nrmSl_eq h2]
def leaveN (wm nm : Bool) (nb : Nat) (σ : St) (vs : List SV) : Option ((SV × List Blk) × Bool) :=
 if nm = false then leaveS wm nb σ vs else (leaveS wm nb σ vs).bind fun r => some (((nrmSV r.1.2 r.1.1).1, (nrmBlks r.1.2 r.1.2).1), r.2 && ((nrmSV r.1.2 r.1.1).2 && (nrmBlks r.1.2 r.1.2).2))
theorem leaveN_eq {wm nm : Bool} {nb : Nat} {σ : St} {vs : List SV} {r : SV × List Blk} (h : leaveN wm nm nb σ vs = some (r, true)) : leave nb σ vs = some r := by
 unfold leaveN at h
 split at h
 ·exact leaveS_eq h
 ·simp only [qB, qI, Prod.mk.injEq] at h
  obtain ⟨q, hq, rfl, ho⟩ := h
  obtain ⟨o1, o2⟩ := and_t ho
  obtain ⟨o2, o3⟩ := and_t o2
  rw [nrmSV_eq o2, nrmBlks_eq o3]
  exact leaveS_eq (wm := wm) (r := q.1) (by rw [hq, ← o1])
def canonN (wm nm : Bool) (nb : Nat) (live : List Nat) (σ : St) : Option (St × Bool) :=
 if nm = false then canonS wm nb live σ else (canonS wm nb live σ).bind fun r => some (⟨(nrmSl r.1.hp r.1.sl).1, (nrmBlks r.1.hp r.1.hp).1⟩, r.2 && ((nrmSl r.1.hp r.1.sl).2 && (nrmBlks r.1.hp r.1.hp).2))
theorem canonN_eq {wm nm : Bool} {nb : Nat} {live : List Nat} {σ σ' : St} (h : canonN wm nm nb live σ = some (σ', true)) : canon nb live σ = some σ' := by
 unfold canonN at h
 split at h
 ·exact canonS_eq h
 ·simp only [qB, qI, Prod.mk.injEq] at h
  obtain ⟨q, hq, rfl, ho⟩ := h
  obtain ⟨o1, o2⟩ := and_t ho
  obtain ⟨o2, o3⟩ := and_t o2
  rw [nrmSl_eq o2, nrmBlks_eq o3]
  exact canonS_eq (wm := wm) (σ' := q.1) (by rw [hq, ← o1])
def lwm (kd : List (Nat × List Kd)) : Bool := (kdOf 1000000 kd).isNone
def lnm (kd : List (Nat × List Kd)) : Bool := (kdOf 1000000 kd).isSome || (kdOf 1000001 kd).isSome
def cwm (kd : List (Nat × List Kd)) : Bool := (kdOf 1000002 kd).isNone
def cnm (kd : List (Nat × List Kd)) : Bool := (kdOf 1000002 kd).isSome || (kdOf 1000003 kd).isSome
def iterP (wm nm : Bool) (nb : Nat) (live : List Nat) (f : St → Option (Pt Out)) : Nat → St → Option (Pt Out)
 | 0, _ => none
 | n + 1, σ => (canonN wm nm nb live σ).bind fun c => (f c.1).bind fun t => (t.bindO fun | .nor σ => iterP wm nm nb live f n σ | o => some (.leaf o)).bind fun t => some (.ok c.2 t)
def calmC : C → Bool
 | .ops l _ => l.all fun g => quietK g.2
 | .seq x y => calmC x && calmC y
 | .cond _ x y => calmC x && calmC y
 | .skip => true
 | _ => false
def oneWay (r : O × Bool) : Option (Pt Out) := match r.1.ex, r.1.nor with
 | [], some t => some (.ok r.2 (trP t))
 | _, _ => none
noncomputable def evp (Q : Qt) (kd : List (Nat × List Kd)) (cl : List Nat) (mg : Bool) (lq : Lp) (nb n : Nat) : C → St → Option (Pt Out)
 | .drw ls kp cn, σ => (evDrw Q kd nb kp cn ls σ).bind fun r => some (.ok r.2 (.leaf (.nor r.1)))
 | .ops l kp, σ =>
   match (parse (2 * l.length + 2) none l).2 with
   | [] => (evI Q kd (parse (2 * l.length + 2) none l).1 σ).bind fun r => some (.ok r.2 (.leaf (.nor (trim kp r.1))))
   | _ :: _ => none
 | .seq x y, σ => (evp Q kd cl mg lq nb n x σ).bind fun t => t.bindO fun
   | .nor σ => evp Q kd cl mg lq nb n y σ
   | o => some (.leaf o)
 | .cond c x y, σ => (σ.ev c).bind fun v => (asBool v).bind fun b =>
   if isCl cl c = true then match b with
    | true => evp Q kd cl mg lq nb n x σ
    | false => evp Q kd cl mg lq nb n y σ
   else if (mg && (calmC x && calmC y)) = true then (evt Q kd cl lqN nb n (.cond c x y) σ).bind oneWay
   else (evp Q kd cl mg lq nb n x σ).bind fun tx => (evp Q kd cl mg lq nb n y σ).bind fun ty => some (.br b tx ty)
 | .blk id x, σ => (evp Q kd cl mg lq nb n x σ).bind fun t => some (t.map (blkOut id))
 | .loop live x, σ => match lpAt lq (tagC x) σ with
   | some t => some t
   | none => iterP (cwm kd) (cnm kd) nb live (evp Q kd cl mg lq nb n x) n σ
 | .brk id, σ => some (.leaf (.brk id σ))
 | .ret, σ => some (.leaf (.ret σ))
 | .skip, σ => some (.leaf (.nor σ))
theorem iterP_tells {wm nm : Bool} {nb : Nat} {live : List Nat} {f : St → Option (Pt Out)} {g : St → Option Out} (hf : TellsP f g) : ∀ n, TellsP (iterP wm nm nb live f n) (iter nb live g n)
 | 0 => fun σ σr t h ho hl => by simp [iterP] at h
 | n + 1 => fun σ σr t h ho hl => by
   simp only [iterP, qB, qI] at h
   obtain ⟨c, hc, u, hu, w, hw, rfl⟩ := h
   obtain ⟨o1, o2⟩ := and_t ho
   have hcr := canon_le (canonN_eq (σ' := c.1) (by rw [hc, ← o1])) hl
   obtain ⟨k1, z, hz, k2, k3⟩ := Pt.bindO_val hw o2
   obtain ⟨out, a1, a2⟩ := hf c.1 c.1 u hu k1 .rfl
   simp only [iter, hcr, Option.bind_some, a1]
   show ∃ out, _ ∧ LeOut w.val out
   rw [k3]
   generalize u.val = o at hz a2
   cases a2 with
   | nor h => exact iterP_tells hf n _ _ z hz k2 h
   | brk h => obtain rfl := qi hz; exact ⟨_, rfl, .brk h⟩
   | ret h => obtain rfl := qi hz; exact ⟨_, rfl, .ret h⟩
theorem oneWay_tells {r : O × Bool} {t : Pt Out} {out : Out} (h : oneWay r = some t) (ho : t.okv = true) (hd : r.2 = true → ∃ out0, r.1.den = some out0 ∧ LeOut out0 out) : LeOut t.val out := by
 unfold oneWay at h
 split at h
 ·rename_i u he hn
  obtain rfl := qi h
  obtain ⟨o1, o2⟩ := and_t ho
  obtain ⟨out0, h1, h2⟩ := hd o1
  unfold O.den at h1
  rw [he, hn] at h1
  simp only [denL, qI] at h1
  subst h1
  show LeOut (trP u).val out
  rw [(trP_val u).1]
  exact h2
 ·simp at h
theorem evp_tells {R : Rt} {Q : Qt} (hQ : QOk (frzR R) Q) {kd : List (Nat × List Kd)} {cl : List Nat} {mg : Bool} {lq : Lp} {nb n : Nat} : ∀ {c : C}, Loops (fun live x => TellsP (lpAt lq (tagC x)) (evc R nb n (.loop live x))) c → TellsP (evp Q kd cl mg lq nb n c) (evc R nb n c)
 | .drw ls kp cn, hL => fun σ σr t h ho hl => by
   simp only [evp, qB, qI] at h
   obtain ⟨c, hc, rfl⟩ := h
   obtain ⟨o1, -⟩ := and_t ho
   have := evDrw_tells hQ hl (c := c.1) (by rw [hc, ← o1])
   exact ⟨.nor c.1, by simp [evc, this], .nor .rfl⟩
 | .ops l kp, hL => fun σ σr t h ho hl => by
   unfold evp at h
   split at h
   ·rename_i hp
    simp only [qB, qI] at h
    obtain ⟨i, hi, rfl⟩ := h
    obtain ⟨o1, -⟩ := and_t ho
    obtain ⟨τ, h1, h2⟩ := evI_run hQ (g := none) (by rw [hi, ← o1]) hl (fun s w e => by simp at e) (fun s w e => by simp at e)
    rw [parse_all hp] at h1
    exact ⟨.nor (trim kp τ), by simp [evc, h1], .nor (trim_le h2)⟩
   ·simp at h
 | .seq x y, hL => fun σ σr t h ho hl => by
   simp only [evp, qB] at h
   obtain ⟨u, hu, h⟩ := h
   obtain ⟨k1, z, hz, k2, k3⟩ := Pt.bindO_val h ho
   obtain ⟨out, a1, a2⟩ := evp_tells hQ (c := x) hL.1 σ σr u hu k1 hl
   rw [k3, evc, a1, Option.bind_some]
   generalize u.val = o at hz a2
   cases a2 with
   | nor h => exact evp_tells hQ (c := y) hL.2 _ _ z hz k2 h
   | brk h => obtain rfl := qi hz; exact ⟨_, rfl, .brk h⟩
   | ret h => obtain rfl := qi hz; exact ⟨_, rfl, .ret h⟩
 | .cond c x y, hL => fun σ σr t h ho hl => by
   have h0 := h
   simp only [evp, qB] at h
   obtain ⟨v, hv, b, hb, h⟩ := h
   have hv' := hl.ev _ _ hv
   split at h
   ·simp only [evc, hv', hb, Option.bind_some]
    split at h
    ·simp only [if_true]
     exact evp_tells hQ (c := x) hL.1 σ σr t h ho hl
    ·simp only [Bool.false_eq_true, if_false]
     exact evp_tells hQ (c := y) hL.2 σ σr t h ho hl
   ·split at h
    ·rename_i hm
     simp only [Bool.and_eq_true] at hm
     obtain ⟨r, hr, hw⟩ := Option.bind_eq_some_iff.1 h
     have noLoop : ∀ {c : C}, calmC c = true → Loops (fun live x => Tells (lqN live) (evc R nb n (.loop live x))) c := fun {c} hc => by
      induction c with
      | seq x y ihx ihy => simp only [calmC, Bool.and_eq_true] at hc; exact ⟨ihx hc.1, ihy hc.2⟩
      | cond c x y ihx ihy => simp only [calmC, Bool.and_eq_true] at hc; exact ⟨ihx hc.1, ihy hc.2⟩
      | ops => trivial
      | skip => trivial
      | drw => simp [calmC] at hc
      | blk => simp [calmC] at hc
      | loop => simp [calmC] at hc
      | brk => simp [calmC] at hc
      | ret => simp [calmC] at hc
     have hT := evt_tells (R := R) (n := n) (nb := nb) (kd := kd) (cl := cl) hQ (lq := lqN) (c := .cond c x y) ⟨noLoop hm.2.1, noLoop hm.2.2⟩
     have hd : r.2 = true → ∃ out0 out, r.1.den = some out0 ∧ evc R nb n (.cond c x y) σr = some out ∧ LeOut out0 out := fun hk => hT σ σr r.1 (by rw [hr, ← hk]) hl
     have hk : r.2 = true := by
      unfold oneWay at hw
      split at hw
      ·obtain rfl := qi hw
       exact (and_t ho).1
      ·simp at hw
     obtain ⟨out0, out, a1, a2, a3⟩ := hd hk
     exact ⟨out, a2, oneWay_tells hw ho fun _ => ⟨out0, a1, a3⟩⟩
    ·simp only [qB, qI] at h
     obtain ⟨tx, hx, ty, hy, rfl⟩ := h
     simp only [evc, hv', hb, Option.bind_some]
     cases b
     ·have := evp_tells hQ (c := y) hL.2 σ σr ty hy ho hl
      rw [if_neg (by simp)]
      exact this
     ·have := evp_tells hQ (c := x) hL.1 σ σr tx hx ho hl
      rw [if_pos rfl]
      exact this
 | .blk id x, hL => fun σ σr t h ho hl => by
   simp only [evp, qB, qI] at h
   obtain ⟨u, hu, rfl⟩ := h
   rw [Pt.okv_map] at ho
   obtain ⟨out, a1, a2⟩ := evp_tells hQ (c := x) hL σ σr u hu ho hl
   rw [Pt.val_map]
   generalize u.val = o at a2
   refine ⟨blkOut id out, ?_, ?_⟩
   ·rw [evc, a1, Option.bind_some]
    cases out with
    | nor σ => rfl
    | ret σ => rfl
    | brk j σ =>
      simp only [blkOut]
      split <;> rfl
   ·cases a2 with
    | nor h => exact .nor h
    | ret h => exact .ret h
    | brk h =>
      simp only [blkOut]
      split
      ·exact .nor h
      ·exact .brk h
 | .loop live x, hL => fun σ σr t h ho hl => by
   simp only [evp] at h
   split at h
   ·rename_i r hr
    rw [h] at hr
    exact hL.1 σ σr t hr ho hl
   ·rw [evc]
    exact iterP_tells (evp_tells hQ (c := x) hL.2) n σ σr t h ho hl
 | .brk id, hL => fun σ σr t h ho hl => by
   simp only [evp, qI] at h
   subst h
   exact ⟨.brk id σr, rfl, .brk hl⟩
 | .ret, hL => fun σ σr t h ho hl => by
   simp only [evp, qI] at h
   subst h
   exact ⟨.ret σr, rfl, .ret hl⟩
 | .skip, hL => fun σ σr t h ho hl => by
   simp only [evp, qI] at h
   subst h
   exact ⟨.nor σr, rfl, .nor hl⟩
def outRes (wm nm : Bool) (res : List Rv) (nb : Nat) : Out → Option (Pt (SV × List Blk))
 | .nor σ => (resVals σ res).bind fun vs => (leaveN wm nm nb σ vs).bind fun r => some (.ok r.2 (.leaf r.1))
 | .ret σ => (resVals σ res).bind fun vs => (leaveN wm nm nb σ vs).bind fun r => some (.ok r.2 (.leaf r.1))
 | .brk _ _ => none
noncomputable def fnP (Q : Qt) (kd : List (Nat × List Kd)) (cl : List Nat) (mg : Bool) (lq : Lp) (n : Nat) (cf : Zq.Fn) (args : List SV) (hp : List Blk) : Option (Pt (SV × List Blk)) :=
 if args.length = cf.np then (evp Q kd cl mg lq (hpBoxes hp) n cf.body ⟨startSl 0 args, hp⟩).bind fun t => t.bindO (outRes (lwm kd) (lnm kd) cf.res (hpBoxes hp)) else none
theorem fnP_run {R : Rt} {Q : Qt} (hQ : QOk (frzR R) Q) {kd : List (Nat × List Kd)} {cl : List Nat} {mg : Bool} {lq : Lp} {n : Nat} {cf : Zq.Fn} {args : List SV} {hp : List Blk} {t : Pt (SV × List Blk)} (hL : Loops (fun live x => TellsP (lpAt lq (tagC x)) (evc R (hpBoxes hp) n (.loop live x))) cf.body) (h : fnP Q kd cl mg lq n cf args hp = some t) (ho : t.okv = true) : cf.run R n args hp = some t.val := by
 unfold fnP at h
 split at h
 ·rename_i hn
  simp only [qB] at h
  obtain ⟨u, hu, h⟩ := h
  obtain ⟨k1, w, hw, k2, k3⟩ := Pt.bindO_val h ho
  obtain ⟨out, a1, a2⟩ := evp_tells hQ hL _ _ u hu k1 .rfl
  unfold Fn.run
  rw [if_pos hn, a1, k3]
  generalize u.val = o at hw a2
  have fin : ∀ {σ τ : St}, Le σ τ → (resVals σ cf.res).bind (fun vs => (leaveN (lwm kd) (lnm kd) (hpBoxes hp) σ vs).bind fun r => some (Pt.ok r.2 (.leaf r.1))) = some w → ((resVals τ cf.res).bind fun vs => leave (hpBoxes hp) τ vs) = some w.val := fun {σ τ} hl hw => by
   simp only [qB, qI] at hw
   obtain ⟨vs, hv, r, hr, rfl⟩ := hw
   obtain ⟨o1, -⟩ := and_t k2
   refine resSt_le (res := cf.res) hl (r := r.1) ?_
   simp only [resSt, hv, Option.bind_some]
   exact leaveN_eq (by rw [hr, ← o1])
  cases a2 with
  | nor hl => exact fin hl hw
  | ret hl => exact fin hl hw
  | brk hl => simp [outRes] at hw
 ·simp at h
def prn : Pt Out → Option (Pt Out)
 | .leaf (.nor _) => none
 | .leaf o => some (.leaf o)
 | .ok _ x => prn x
 | .br b x y => match prn x, prn y with
   | none, none => none
   | some x, none => some x
   | none, some y => some y
   | some x, some y => some (.br b x y)
def isNor : Out → Bool
 | .nor _ => true
 | _ => false
theorem prn_none : ∀ {t : Pt Out}, prn t = none → isNor t.val = true
 | .leaf (.nor _), _ => rfl
 | .leaf (.brk _ _), h => by simp [prn] at h
 | .leaf (.ret _), h => by simp [prn] at h
 | .ok _ x, h => prn_none (t := x) h
 | .br b x y, h => by
   simp only [prn] at h
   split at h
   ·rename_i h1 h2
    cases b
    ·exact prn_none (t := y) h2
    ·exact prn_none (t := x) h1
   ·simp at h
   ·simp at h
   ·simp at h
theorem prn_some : ∀ {t u : Pt Out}, prn t = some u → isNor t.val = false → u.val = t.val ∧ u.okv = true
 | .leaf (.nor _), u, h, hn => by simp [prn] at h
 | .leaf (.brk _ _), u, h, hn => by obtain rfl := qi h; exact ⟨rfl, rfl⟩
 | .leaf (.ret _), u, h, hn => by obtain rfl := qi h; exact ⟨rfl, rfl⟩
 | .ok _ x, u, h, hn => prn_some (t := x) h hn
 | .br b x y, u, h, hn => by
   simp only [prn] at h
   cases b
   ·have hn' : isNor y.val = false := hn
    split at h
    ·simp at h
    ·rename_i h1 h2
     have := prn_none (t := y) h2
     rw [hn'] at this
     simp at this
    ·rename_i h1 h2
     obtain rfl := qi h
     exact prn_some (t := y) h2 hn'
    ·rename_i x' y' h1 h2
     obtain rfl := qi h
     exact prn_some (t := y) (u := y') h2 hn'
   ·have hn' : isNor x.val = false := hn
    split at h
    ·simp at h
    ·rename_i h1 h2
     obtain rfl := qi h
     exact prn_some (t := x) h1 hn'
    ·rename_i h1 h2
     have := prn_none (t := x) h1
     rw [hn'] at this
     simp at this
    ·rename_i x' y' h1 h2
     obtain rfl := qi h
     exact prn_some (t := x) (u := x') h1 hn'
def stpT (wm nm : Bool) (nb : Nat) (live : List Nat) (t : Pt Out) : Option (Pt (Option St)) := t.bindO fun
 | .nor σ => (canonN wm nm nb live σ).bind fun c => some (.ok c.2 (.leaf (some c.1)))
 | _ => some (.leaf none)
def loopV {V : Type} (N : V → Pt (Option V)) : Nat → V → Option V
 | 0, _ => none
 | k + 1, v => bif (N v).okv then (match (N v).val with | none => some v | some v' => loopV N k v') else none
noncomputable def hid {α : Type} (a : α) : α := Classical.choose (⟨a, rfl⟩ : ∃ b, b = a)
theorem hid_eq {α : Type} (a : α) : hid a = a := Classical.choose_spec (⟨a, rfl⟩ : ∃ b, b = a)
noncomputable def lqP {V : Type} (wm nm : Bool) (nb : Nat) (live : List Nat) (f : St → Option (Pt Out)) (un : St → Option (V × Bool)) (st : V → St) (N : V → Pt (Option V)) (n : Nat) (σ : St) : Option (Pt Out) :=
 (canonN wm nm nb live σ).bind fun c => (un c.1).bind fun v => (f (st ((hid (loopV N n v.1)).getD v.1))).bind fun t => (prn t).bind fun t => some (.ok c.2 (.ok v.2 (.ok (hid (loopV N n v.1)).isSome t)))
theorem loopP_runs {V : Type} {wm nm : Bool} {nb : Nat} {live : List Nat} {f : St → Option (Pt Out)} {g : St → Option Out} (hf : TellsP f g) {st : V → St} {N : V → Pt (Option V)} (hN : ∀ v, ((f (st v)).bind (stpT wm nm nb live)) = some ((N v).map (Option.map st))) :
  ∀ {k : Nat} {v w : V} {σ : St}, canon nb live σ = some (st v) → loopV N k v = some w → ∃ t out, f (st w) = some t ∧ isNor t.val = false ∧ iter nb live g k σ = some out ∧ LeOut t.val out
 | 0, v, w, σ, hσ, h => by simp [loopV] at h
 | k + 1, v, w, σ, hσ, h => by
   have hb := hN v
   simp only [qB] at hb
   obtain ⟨t, ht, hs⟩ := hb
   unfold loopV at h
   cases ho : (N v).okv
   ·rw [ho] at h; simp at h
   ·rw [ho, cond_true] at h
    unfold stpT at hs
    obtain ⟨k1, z, hz, k2, k3⟩ := Pt.bindO_val hs (by rw [Pt.okv_map]; exact ho)
    obtain ⟨out, a1, a2⟩ := hf (st v) (st v) t ht k1 .rfl
    simp only [iter, hσ, Option.bind_some, a1]
    rw [Pt.val_map] at k3
    cases hv : t.val with
    | nor τ =>
      rw [hv] at hz a2
      simp only [qB, qI] at hz
      obtain ⟨c, hc, rfl⟩ := hz
      obtain ⟨o1, -⟩ := and_t k2
      cases a2 with
      | nor hl =>
        cases hn : (N v).val with
        | none => rw [hn] at k3; simp [Pt.val] at k3
        | some v' =>
          rw [hn] at h k3
          simp only [Pt.val, Option.map_some, qI] at k3
          have hc' := canon_le (canonN_eq (σ' := c.1) (by rw [hc, ← o1])) hl
          rw [← k3] at hc'
          exact loopP_runs hf hN hc' h
    | brk j τ =>
      rw [hv] at hz a2
      obtain rfl := qi hz
      cases a2 with
      | brk hl =>
        cases hn : (N v).val with
        | some v' => rw [hn] at k3; simp [Pt.val] at k3
        | none =>
          rw [hn] at h
          obtain rfl := qi h
          exact ⟨t, _, ht, by rw [hv]; rfl, rfl, by rw [hv]; exact .brk hl⟩
    | ret τ =>
      rw [hv] at hz a2
      obtain rfl := qi hz
      cases a2 with
      | ret hl =>
        cases hn : (N v).val with
        | some v' => rw [hn] at k3; simp [Pt.val] at k3
        | none =>
          rw [hn] at h
          obtain rfl := qi h
          exact ⟨t, _, ht, by rw [hv]; rfl, rfl, by rw [hv]; exact .ret hl⟩
theorem lqP_tells {R : Rt} {V : Type} {wm nm : Bool} {nb n : Nat} {live : List Nat} {x : C} {f : St → Option (Pt Out)} (hf : TellsP f (evc R nb n x)) {un : St → Option (V × Bool)} {st : V → St} {N : V → Pt (Option V)}
  (hu : ∀ σ v, un σ = some (v, true) → σ = st v) (hN : ∀ v, ((f (st v)).bind (stpT wm nm nb live)) = some ((N v).map (Option.map st))) : TellsP (lqP wm nm nb live f un st N n) (evc R nb n (.loop live x)) := fun σ σr t h ho hl => by
 simp only [lqP, hid_eq, qB, qI] at h
 obtain ⟨c, hc, v, hv, u, hu', w, hw, rfl⟩ := h
 obtain ⟨o1, o2⟩ := and_t ho
 obtain ⟨o0, o2⟩ := and_t o2
 obtain ⟨o2, o3⟩ := and_t o2
 obtain ⟨z, hz⟩ := Option.isSome_iff_exists.1 o2
 have hc' := canon_le (canonN_eq (σ' := c.1) (by rw [hc, ← o1])) hl
 have he := hu c.1 v.1 (by rw [hv, ← o0])
 rw [he] at hc'
 obtain ⟨t', out, a1, a2, a3, a4⟩ := loopP_runs hf hN hc' hz
 rw [hz, Option.getD_some, a1] at hu'
 obtain rfl := qi hu'
 obtain ⟨b1, -⟩ := prn_some hw a2
 refine ⟨out, by rw [evc]; exact a3, ?_⟩
 show LeOut w.val out
 rw [b1]
 exact a4
def loopsOf : C → List (List Nat × C)
 | .seq x y => loopsOf x ++ loopsOf y
 | .cond _ x y => loopsOf x ++ loopsOf y
 | .blk _ x => loopsOf x
 | .loop live x => (live, x) :: loopsOf x
 | _ => []
def AllL (T : List Nat → C → Prop) : List (List Nat × C) → Prop
 | [] => True
 | p :: r => T p.1 p.2 ∧ AllL T r
theorem allL_append {T : List Nat → C → Prop} : ∀ {l m : List (List Nat × C)}, AllL T (l ++ m) → AllL T l ∧ AllL T m
 | [], m, h => ⟨trivial, h⟩
 | p :: r, m, h => ⟨⟨h.1, (allL_append (l := r) h.2).1⟩, (allL_append (l := r) h.2).2⟩
theorem loops_all {T : List Nat → C → Prop} : ∀ {c : C}, AllL T (loopsOf c) → Loops T c
 | .seq x y, h => ⟨loops_all (c := x) (allL_append h).1, loops_all (c := y) (allL_append h).2⟩
 | .cond _ x y, h => ⟨loops_all (c := x) (allL_append h).1, loops_all (c := y) (allL_append h).2⟩
 | .blk _ x, h => loops_all (c := x) h
 | .loop live x, h => ⟨h.1, loops_all (c := x) h.2⟩
 | .ops _ _, _ => trivial
 | .drw .., _ => trivial
 | .brk _, _ => trivial
 | .ret, _ => trivial
 | .skip, _ => trivial
theorem loops_of {T : List Nat → C → Prop} {c : C} {l : List (List Nat × C)} (h : loopsOf c = l) (k : AllL T l) : Loops T c := loops_all (by rw [h]; exact k)
end Go.Zq

namespace Go.Zq
open Go
def byteRow : Row → Bool
 | [.lit (.int .u8 z)] => decide (0 ≤ z) && decide (z < 256)
 | _ => false
def bytesOk (rows : List Row) : Bool := rows.all byteRow
def ri (zs : List Int) : List Row := zs.map fun z => [.lit (.int .i64 z)]
theorem ri_len {zs : List Int} : (ri zs).length = zs.length := by simp [ri]
theorem byteRow_eq {r : Row} (h : byteRow r = true) : ∃ z : Int, r = [.lit (.int .u8 z)] ∧ 0 ≤ z ∧ z < 256 := by
 unfold byteRow at h
 split at h
 ·rename_i z
  simp only [Bool.and_eq_true, decide_eq_true_eq] at h
  exact ⟨z, rfl, h⟩
 ·simp at h
theorem row_at {rows : List Row} (h : bytesOk rows = true) {j : Nat} (hj : j < rows.length) : ∃ z : Int, rows.getD j [] = [.lit (.int .u8 z)] ∧ intAt rows j 0 = z ∧ 0 ≤ z ∧ z < 256 := by
 have hr : rows.getD j [] = rows[j] := by simp [List.getD_eq_getElem?_getD, hj]
 obtain ⟨z, hz, h0, h1⟩ := byteRow_eq (List.all_eq_true.1 h rows[j] (List.getElem_mem hj))
 refine ⟨z, by rw [hr, hz], ?_, h0, h1⟩
 simp only [intAt, cellAt, hr, hz]
 rfl
theorem inRow_byte {rows : List Row} (h : bytesOk rows = true) {p : Int} (h0 : 0 ≤ p) (h1 : p < (rows.length : Int)) : inRow [.int .u8] rows p = true := by
 have hj : p.toNat < rows.length := by omega
 obtain ⟨z, hz, -⟩ := row_at h hj
 have hb : Nat.blt p.toNat rows.length = true := by simpa using hj
 simp only [inRow, hasRow, hz, h0, hb, decide_true, Bool.true_and]
 rfl
def farOf (s : Int) : Int := IntKind.wrap IntKind.i64 (IntKind.wrap IntKind.u64 ↑(BitVec.toNat (BitVec.ofInt (64 : Nat) (Int.fdiv s (1099511627776 : Int)) &&& BitVec.ofInt (64 : Nat) (255 : Int))))
theorem far_rng (s : Int) : 0 ≤ farOf s ∧ farOf s < 256 := by
 unfold farOf
 have h : (BitVec.ofInt 64 (s.fdiv 1099511627776) &&& BitVec.ofInt 64 255).toNat ≤ 255 := by
  rw [BitVec.toNat_and]
  exact Nat.le_trans Nat.and_le_right (by decide)
 generalize (BitVec.ofInt 64 (s.fdiv 1099511627776) &&& BitVec.ofInt 64 255).toNat = n at h
 have h1 : IntKind.u64.wrap (n : Int) = n := by
  have : IntKind.u64.wrap (n : Int) = (n : Int) % 18446744073709551616 := by simp [IntKind.wrap, IntKind.bits, IntKind.signed]
  omega
 rw [h1, IntKind.wrap_i64]
 omega
end Go.Zq

namespace Go.Zq
open Go
theorem ri_append {xs ys : List Int} : ri (xs ++ ys) = ri xs ++ ri ys := by simp [ri]
theorem ri_get {xs : List Int} {j : Nat} {d : Int} (h : xs[j]? = some d) : (ri xs).getD j [] = [.lit (.int .i64 d)] := by
 simp [ri, List.getD_eq_getElem?_getD, h]
theorem ri_at {xs : List Int} {j : Nat} {d : Int} (h : xs[j]? = some d) : intAt (ri xs) j 0 = d := by
 simp only [intAt, cellAt, ri_get h]
 rfl
theorem ri_has {xs : List Int} {j : Nat} {d : Int} (h : xs[j]? = some d) : hasRow [.int .i64] (ri xs) j 0 = true := by
 have hj : j < xs.length := (List.getElem?_eq_some_iff.1 h).1
 simp only [hasRow, ri_get h, ri_len]
 have : Nat.blt j xs.length = true := by simpa using hj
 rw [this]
 rfl
theorem ri_in {xs : List Int} {j : Nat} {d : Int} (h : xs[j]? = some d) : inRow [.int .i64] (ri xs) (j : Int) = true := by
 have h1 := ri_has h
 simp only [inRow, Int.toNat_natCast, h1, ri_get h]
 simp
theorem mask_at (z : Int) (k : Nat) (hk : k < 63) : IntKind.wrap IntKind.i64 (↑(BitVec.toNat (BitVec.ofInt (64 : Nat) z &&& BitVec.ofInt (64 : Nat) ((2 : Int) ^ k - 1))) : Int) = z % 2 ^ k := by
 have hpos : (1 : Nat) ≤ 2 ^ k := Nat.one_le_two_pow
 have hle : (2 : Nat) ^ k ≤ 2 ^ 62 := Nat.pow_le_pow_right (by decide) (by omega)
 have e : (((2 : Int) ^ k - 1) % ((2 ^ 64 : Nat) : Int)).toNat = 2 ^ k - 1 := by
  have : ((2 : Int) ^ k) = ((2 ^ k : Nat) : Int) := by simp
  rw [this]
  omega
 rw [BitVec.toNat_and, BitVec.toNat_ofInt, BitVec.toNat_ofInt, e, Nat.and_two_pow_sub_one_eq_mod, IntKind.wrap_i64]
 have h2 : ((2 : Int) ^ k) = ((2 ^ k : Nat) : Int) := by simp
 rw [h2]
 have h3 : (((z % ((2 ^ 64 : Nat) : Int)).toNat % 2 ^ k : Nat) : Int) = z % ((2 ^ k : Nat) : Int) := by
  rw [Int.natCast_emod, Int.toNat_of_nonneg (by omega)]
  refine Int.emod_emod_of_dvd _ ?_
  exact Int.natCast_dvd_natCast.2 (Nat.pow_dvd_pow 2 (by omega))
 rw [h3]
 have h4 : 0 ≤ z % ((2 ^ k : Nat) : Int) ∧ z % ((2 ^ k : Nat) : Int) < ((2 ^ k : Nat) : Int) := ⟨Int.emod_nonneg _ (by omega), Int.emod_lt_of_pos _ (by omega)⟩
 omega
end Go.Zq

namespace Go.Zq
open Go
def nthLoop (c : C) (i : Nat) : C := ((loopsOf c)[i]?.map (·.2)).getD .skip
def addI (x y : Int) : Int := IntKind.wrap .i64 (x + y)
def subI (x y : Int) : Int := IntKind.wrap .i64 (x - y)
def mulI (x y : Int) : Int := IntKind.wrap .i64 (x * y)
def mulP (x y : Int) : Int := x * y
def quoI (x y : Int) : Int := IntKind.wrap .i64 (x.tdiv y)
def remI (x y : Int) : Int := x.tmod y
def andI (x y : Int) : Int := IntKind.wrap .i64 (BitVec.ofInt 64 x &&& BitVec.ofInt 64 y).toNat
def orI (x y : Int) : Int := IntKind.wrap .i64 (BitVec.ofInt 64 x ||| BitVec.ofInt 64 y).toNat
def xorI (x y : Int) : Int := IntKind.wrap .i64 (BitVec.ofInt 64 x ^^^ BitVec.ofInt 64 y).toNat
def andNotI (x y : Int) : Int := IntKind.wrap .i64 (BitVec.ofInt 64 x &&& ~~~ BitVec.ofInt 64 y).toNat
def shlI (x y : Int) : Int := IntKind.wrap .i64 (x * 2 ^ min y.toNat 64)
def shrI (x y : Int) : Int := x.fdiv (2 ^ min y.toNat 64)
def addK (k : IntKind) (x y : Int) : Int := k.wrap (x + y)
def mulK (k : IntKind) (x y : Int) : Int := k.wrap (x * y)
def andK (k : IntKind) (x y : Int) : Int := k.wrap (BitVec.ofInt k.bits x &&& BitVec.ofInt k.bits y).toNat
def shrK (k : IntKind) (x y : Int) : Int := x.fdiv (2 ^ min y.toNat k.bits)
def wrapK (k : IntKind) (x : Int) : Int := k.wrap x
def eqI (x y : Int) : Bool := x == y
def neI (x y : Int) : Bool := x != y
def ltI (x y : Int) : Bool := decide (x < y)
def leI (x y : Int) : Bool := decide (x ≤ y)
def gtI (x y : Int) : Bool := decide (x > y)
def geI (x y : Int) : Bool := decide (x ≥ y)
def eqB (x y : Bool) : Bool := x == y
def eqN (x y : Nat) : Bool := decide (x = y)
def leN (x y : Nat) : Bool := decide (x ≤ y)
def blt (x y : Nat) : Bool := Nat.blt x y
def beqN (x y : Nat) : Bool := x == y
def mulN (x y : Nat) : Nat := x * y
def minN (x y : Nat) : Nat := min x y
def rlen (r : List Row) (j : Nat) : Nat := (r.getD j []).length
def natI (n : Nat) : Int := n
def lenI (r : List Row) : Int := r.length
def rowI (x : Int) : Row := [.lit (.int .i64 x)]
theorem fnP_c {R : Rt} {Q : Qt} (hQ : QOk (frzR R) Q) {kd : List (Nat × List Kd)} {cl : List Nat} {mg : Bool} {lq : Lp} {n : Nat} {cf : Zq.Fn} {args : List SV} {hp : List Blk} {γ : Type} {T : Pt γ} {nn : γ → SV × List Blk}
  (hL : Loops (fun live x => TellsP (lpAt lq (tagC x)) (evc R (hpBoxes hp) n (.loop live x))) cf.body) (e : fnP Q kd cl mg lq n cf args hp = some (T.map nn)) {r : SV × List Blk} (hr : nn (hid T.val) = r) (hk : hid T.okv = true) : cf.run R n args hp = some r := by
 rw [hid_eq] at hr hk
 have := fnP_run hQ hL e (by rw [Pt.okv_map]; exact hk)
 rw [this, Pt.val_map, hr]
noncomputable def fnZ (Q : Qt) (kd : List (Nat × List Kd)) (cl : List Nat) (mg : Bool) (lq : Lp) (n : Nat) (cf : Zq.Fn) (args : List SV) : Option (Pt (SV × List Blk)) :=
 (fnP Q kd cl mg lq n cf args []).bind fun t => t.bindO fun r => (frzSVS r.2 r.1).bind fun v => some (.ok v.2 (.leaf (v.1, [])))
theorem fnZ_c {R : Rt} {Q : Qt} (hQ : QOk (frzR R) Q) {kd : List (Nat × List Kd)} {cl : List Nat} {mg : Bool} {lq : Lp} {n : Nat} {cf : Zq.Fn} {args : List SV} {γ : Type} {T : Pt γ} {nn : γ → SV × List Blk} {f : FuncId}
  (hL : Loops (fun live x => TellsP (lpAt lq (tagC x)) (evc R (hpBoxes []) n (.loop live x))) cf.body) (e : fnZ Q kd cl mg lq n cf args = some (T.map nn)) {r : SV × List Blk} (hr : nn (hid T.val) = r) (hk : hid T.okv = true) (hR : ∀ r, cf.run R n args [] = some r → R f args [] = some r) : frzR R (f + 100000) args [] = some r := by
 rw [hid_eq] at hr hk
 unfold fnZ at e
 simp only [Option.bind_eq_some_iff] at e
 obtain ⟨t, ht, e⟩ := e
 obtain ⟨k1, w, hw, k2, k3⟩ := Pt.bindO_val e (by rw [Pt.okv_map]; exact hk)
 have hrun := hR _ (fnP_run hQ hL ht k1)
 simp only [Option.bind_eq_some_iff, Option.some.injEq] at hw
 obtain ⟨v, hv, rfl⟩ := hw
 obtain ⟨o1, -⟩ := and_t k2
 rw [Pt.val_map, hr] at k3
 rw [frz_hi, hrun]
 simp only [Option.bind_some, frzSVS_eq (r := v.1) (by rw [hv, ← o1])]
 rw [k3]
 rfl
end Go.Zq

namespace Go.Zq
open Go
def Pt.Sat {α : Type} (P : α → Prop) : Pt α → Prop
 | .leaf a => P a
 | .br b x y => (b = true → x.Sat P) ∧ (b = false → y.Sat P)
 | .ok b x => b = true ∧ x.Sat P
theorem Pt.sat_ok {α : Type} {P : α → Prop} : ∀ {t : Pt α}, t.Sat P → t.okv = true ∧ P t.val
 | .leaf a, h => ⟨rfl, h⟩
 | .br b x y, h => by
   cases b
   ·exact Pt.sat_ok (t := y) (h.2 rfl)
   ·exact Pt.sat_ok (t := x) (h.1 rfl)
 | .ok b x, h => by
   obtain ⟨h1, h2⟩ := Pt.sat_ok (t := x) h.2
   exact ⟨by simp only [Pt.okv, h.1, h1]; rfl, h2⟩
theorem sat_hid {α : Type} {P : α → Prop} {t : Pt α} (h : t.Sat P) : hid t.okv = true ∧ P (hid t.val) := by
 rw [hid_eq, hid_eq]; exact Pt.sat_ok h
@[simp] theorem sat_leaf {α : Type} {P : α → Prop} {a : α} : (Pt.leaf a).Sat P = P a := rfl
@[simp] theorem sat_br {α : Type} {P : α → Prop} {b : Bool} {x y : Pt α} : (Pt.br b x y).Sat P = ((b = true → x.Sat P) ∧ (b = false → y.Sat P)) := rfl
@[simp] theorem sat_ok' {α : Type} {P : α → Prop} {b : Bool} {x : Pt α} : (Pt.ok b x).Sat P = (b = true ∧ x.Sat P) := rfl
@[simp] theorem okv_leaf {α : Type} {a : α} : (Pt.leaf a).okv = true := rfl
@[simp] theorem okv_br {α : Type} {b : Bool} {x y : Pt α} : (Pt.br b x y).okv = bif b then x.okv else y.okv := rfl
@[simp] theorem okv_ok {α : Type} {b : Bool} {x : Pt α} : (Pt.ok b x).okv = (b && x.okv) := rfl
@[simp] theorem val_leaf {α : Type} {a : α} : (Pt.leaf a).val = a := rfl
@[simp] theorem val_br {α : Type} {b : Bool} {x y : Pt α} : (Pt.br b x y).val = bif b then x.val else y.val := rfl
@[simp] theorem val_ok {α : Type} {b : Bool} {x : Pt α} : (Pt.ok b x).val = x.val := rfl
@[simp] theorem eqN_iff {a b : Nat} : eqN a b = true ↔ a = b := by simp [eqN]
@[simp] theorem eqN_self {a : Nat} : eqN a a = true := by simp [eqN]
@[simp] theorem leN_iff {a b : Nat} : leN a b = true ↔ a ≤ b := by simp [leN]
@[simp] theorem beqN_iff {a b : Nat} : beqN a b = true ↔ a = b := by simp [beqN]
@[simp] theorem blt_iff {a b : Nat} : blt a b = true ↔ a < b := by simp [blt]
@[simp] theorem same_s {α : Type} (a : α) : same a a = true := same_self a
@[simp] theorem sameR_s (a : List Row) : sameR a a = true := sameR_self a
@[simp] theorem eqI_iff {a b : Int} : eqI a b = true ↔ a = b := by simp [eqI]
@[simp] theorem eqI_f {a b : Int} : eqI a b = false ↔ a ≠ b := by simp [eqI]
@[simp] theorem neI_iff {a b : Int} : neI a b = true ↔ a ≠ b := by simp [neI]
@[simp] theorem neI_f {a b : Int} : neI a b = false ↔ a = b := by simp [neI]
@[simp] theorem ltI_iff {a b : Int} : ltI a b = true ↔ a < b := by simp [ltI]
@[simp] theorem ltI_f {a b : Int} : ltI a b = false ↔ b ≤ a := by simp [ltI]
@[simp] theorem leI_iff {a b : Int} : leI a b = true ↔ a ≤ b := by simp [leI]
@[simp] theorem leI_f {a b : Int} : leI a b = false ↔ b < a := by simp [leI]
@[simp] theorem gtI_iff {a b : Int} : gtI a b = true ↔ b < a := by simp [gtI]
@[simp] theorem gtI_f {a b : Int} : gtI a b = false ↔ a ≤ b := by simp [gtI]
@[simp] theorem geI_iff {a b : Int} : geI a b = true ↔ b ≤ a := by simp [geI]
@[simp] theorem geI_f {a b : Int} : geI a b = false ↔ a < b := by simp [geI]
@[simp] theorem eqB_iff {a b : Bool} : eqB a b = true ↔ a = b := by simp [eqB]
@[simp] theorem lenI_eq {r : List Row} : lenI r = (r.length : Int) := rfl
@[simp] theorem natI_eq {n : Nat} : natI n = (n : Int) := rfl
@[simp] theorem mulN_eq {a b : Nat} : mulN a b = a * b := rfl
@[simp] theorem minN_eq {a b : Nat} : minN a b = min a b := rfl
@[simp] theorem mulP_eq {a b : Int} : mulP a b = a * b := rfl
theorem addI_eq {x y : Int} (h : -9223372036854775808 ≤ x + y ∧ x + y < 9223372036854775808) : addI x y = x + y := by
 unfold addI; rw [IntKind.wrap_i64]; omega
theorem subI_eq {x y : Int} (h : -9223372036854775808 ≤ x - y ∧ x - y < 9223372036854775808) : subI x y = x - y := by
 unfold subI; rw [IntKind.wrap_i64]; omega
theorem mulI_eq {x y : Int} (h : -9223372036854775808 ≤ x * y ∧ x * y < 9223372036854775808) : mulI x y = x * y := by
 unfold mulI; rw [IntKind.wrap_i64]; omega
theorem wrap_id {x : Int} (h : -9223372036854775808 ≤ x ∧ x < 9223372036854775808) : wrapK .i64 x = x := by
 unfold wrapK; rw [IntKind.wrap_i64]; omega
theorem rem_rng {x n : Int} (h0 : 0 ≤ x) (h1 : 0 < n) : 0 ≤ remI x n ∧ remI x n < n := by
 unfold remI
 rw [Int.tmod_eq_emod_of_nonneg h0]
 exact ⟨Int.emod_nonneg _ (by omega), Int.emod_lt_of_pos _ h1⟩
def Num (r : List Row) : Prop := ∃ zs : List Int, r = ri zs
theorem ri_cons {z : Int} {zs : List Int} : ri (z :: zs) = rowI z :: ri zs := rfl
theorem ri_nil : ri [] = [] := rfl
theorem num_in {r : List Row} (h : Num r) {j : Int} (h0 : 0 ≤ j) (h1 : j < (r.length : Int)) : inRow [.int .i64] r j = true := by
 obtain ⟨a, rfl⟩ := h
 rw [ri_len] at h1
 have hj : j.toNat < a.length := by omega
 have := ri_in (xs := a) (j := j.toNat) (d := a[j.toNat]) (List.getElem?_eq_getElem hj)
 rwa [Int.toNat_of_nonneg h0] at this
theorem num_has {r : List Row} (h : Num r) {j : Nat} (h1 : j < r.length) : hasRow [.int .i64] r j 0 = true := by
 obtain ⟨a, rfl⟩ := h
 rw [ri_len] at h1
 exact ri_has (d := a[j]) (List.getElem?_eq_getElem h1)
structure CurOk (B : Int) (code : List Row) (p : Int) : Prop where
 code : bytesOk code = true
 lo : 0 ≤ p
 hi : p ≤ B
theorem CurOk.mono {B C : Int} {code : List Row} {p : Int} (h : CurOk B code p) (hB : B ≤ C) : CurOk C code p := ⟨h.1, h.2, by have := h.3; omega⟩
theorem loop_sat {V : Type} {N : V → Pt (Option V)} (Inv : Nat → V → Prop) (Post : V → Prop) (h : ∀ n v, Inv n v → (N v).Sat fun r => match r with | none => Post v | some v' => ∃ m, m < n ∧ Inv m v') :
  ∀ (k n : Nat) (v : V), Inv n v → n < k → ∃ w, loopV N k v = some w ∧ Post w
 | 0, n, v, hi, hk => by omega
 | k + 1, n, v, hi, hk => by
   obtain ⟨h1, h2⟩ := Pt.sat_ok (h n v hi)
   unfold loopV
   rw [h1, cond_true]
   cases hv : (N v).val with
   | none => rw [hv] at h2; exact ⟨v, rfl, h2⟩
   | some v' =>
     rw [hv] at h2
     obtain ⟨m, hm, hi'⟩ := h2
     exact loop_sat Inv Post h k m v' hi' (by omega)
theorem loop_w {V : Type} {N : V → Pt (Option V)} {Post : V → Prop} {k : Nat} {v : V} (h : ∃ w, loopV N k v = some w ∧ Post w) : (hid (loopV N k v)).isSome = true ∧ Post ((hid (loopV N k v)).getD v) := by
 obtain ⟨w, hw, hp⟩ := h
 rw [hid_eq, hw]
 exact ⟨rfl, hp⟩
def inB (x a b : Int) : Bool := decide (a ≤ x) && decide (x ≤ b)
@[simp] theorem inB_iff {x a b : Int} : inB x a b = true ↔ a ≤ x ∧ x ≤ b := by simp [inB]
def bytesB (zs : List Int) : Bool := zs.all fun z => inB z 0 255
theorem ri_int {zs : List Int} {i : Nat} (h : i < zs.length) : intAt (ri zs) i 0 = zs[i] := ri_at (List.getElem?_eq_getElem h)
theorem and255 {v : Int} (h : 0 ≤ v) (h1 : v < 9223372036854775808) : andI v 255 = v % 256 := by
 have := mask_at v 8 (by omega)
 exact this
theorem andMask {v : Int} (k : Nat) (m : Int) (hk : k < 63) (hm : m = 2 ^ k - 1) : andI v m = v % 2 ^ k := by
 subst hm
 exact mask_at v k hk
theorem shr_div {v n : Int} (k : Nat) (hn : n = (k : Int)) (hk : k ≤ 64) : shrI v n = v / 2 ^ k := by
 subst hn
 unfold shrI
 rw [Int.toNat_natCast, Nat.min_eq_left hk, Int.fdiv_eq_ediv_of_nonneg _ (Int.le_of_lt (Int.pow_pos (by omega)))]
theorem shl8 {v : Int} (h : 0 ≤ v) (h1 : v < 65536) : shlI v 8 = v * 256 := by
 unfold shlI
 rw [show ((2 : Int) ^ min (Int.toNat 8) 64) = 256 from by decide, IntKind.wrap_i64]
 omega
theorem or_add {q r : Int} (hq : 0 ≤ q) (hq1 : q < 65536) (hr : 0 ≤ r) (hr1 : r < 256) : orI (q * 256) r = q * 256 + r := by
 obtain ⟨a, rfl⟩ := Int.eq_ofNat_of_zero_le hq
 obtain ⟨b, rfl⟩ := Int.eq_ofNat_of_zero_le hr
 unfold orI
 rw [BitVec.toNat_or, BitVec.toNat_ofInt, BitVec.toNat_ofInt]
 have e1 : (((a : Int) * 256) % ((2 ^ 64 : Nat) : Int)).toNat = 2 ^ 8 * a := by omega
 have e2 : ((b : Int) % ((2 ^ 64 : Nat) : Int)).toNat = b := by omega
 rw [e1, e2, ← Nat.two_pow_add_eq_or_of_lt (by omega), IntKind.wrap_i64]
 omega
theorem rem2 {v : Int} (h : 0 ≤ v) : remI v 2 = v % 2 := by
 unfold remI
 exact Int.tmod_eq_emod_of_nonneg h
theorem and1 {v : Int} : andI v 1 = v % 2 := by
 have := mask_at v 1 (by omega)
 simpa [andI] using this
theorem ri_set {zs : List Int} {i : Nat} {z : Int} : (ri zs).set i (rowI z) = ri (zs.set i z) := by
 simp only [ri, List.map_set]
 rfl
theorem ri_rlen {zs : List Int} {i : Nat} (h : i < zs.length) : rlen (ri zs) i = 1 := by
 unfold rlen
 rw [ri_get (List.getElem?_eq_getElem h)]
 rfl
theorem ri_inr {zs : List Int} {i : Nat} (h : i < zs.length) : inRow [.int .i64] (ri zs) (i : Int) = true := ri_in (d := zs[i]) (List.getElem?_eq_getElem h)
end Go.Zq
