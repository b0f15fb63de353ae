/- Short ways through the evaluator. -/
import Derived.Test.YtilfpkfifdhhdaaZqTab
set_option linter.unusedVariables false
set_option linter.unusedSimpArgs false
namespace Go.Zq
open Go

/-- A cell that stands for itself. -/
def flatT : T → Bool
  | .lit _ | .imm .. => true
  | _ => false
def flatSV : SV → Bool
  | .one t => flatT t
  | .agg ts => ts.all flatT
  | _ => false

theorem visB_flat {hp : List Blk} {n : Nat} : ∀ {ts : Row} {l : List Src}, ts.all flatT = true → ts.foldl (visB hp n) l = l
  | [], l, _ => rfl
  | t :: r, l, h => by
    simp only [List.all_cons, Bool.and_eq_true] at h
    rw [List.foldl_cons]
    have : visB hp n l t = l := by cases t <;> simp_all [flatT, visB, visP]
    rw [this]
    exact visB_flat h.2
theorem visL_flat : ∀ {ts : Row} {l : List Src}, ts.all flatT = true → ts.foldl visL l = l
  | [], l, _ => rfl
  | t :: r, l, h => by
    simp only [List.all_cons, Bool.and_eq_true] at h
    rw [List.foldl_cons]
    have : visL l t = l := by cases t <;> simp_all [flatT, visL]
    rw [this]
    exact visL_flat h.2
theorem ren_flat {src : List Src} {m : Nat} {t : T} (h : flatT t = true) : ren src m t = some (t, m) := by
  cases t <;> simp_all [flatT, ren]
theorem renRow_flat {src : List Src} {m : Nat} : ∀ {ts : Row}, ts.all flatT = true → renRow src m ts = some (ts, m)
  | [], _ => rfl
  | t :: r, h => by
    simp only [List.all_cons, Bool.and_eq_true] at h
    simp [renRow, ren_flat h.1, renRow_flat h.2]
theorem renRes_flat {src : List Src} : ∀ {vs : List SV} {m : Nat}, vs.all flatSV = true → renRes src m vs = some vs
  | [], m, _ => rfl
  | v :: r, m, h => by
    simp only [List.all_cons, Bool.and_eq_true] at h
    cases v with
    | one t => simp [renRes, ren_flat (show flatT t = true from h.1), renRes_flat h.2]
    | agg ts => simp [renRes, renRow_flat (show ts.all flatT = true from h.1), renRes_flat h.2]
    | _ => simp [flatSV] at h
theorem cells_flat : ∀ {vs : List SV}, vs.all flatSV = true → (vs.flatMap svCells).all flatT = true
  | [], _ => rfl
  | v :: r, h => by
    simp only [List.all_cons, Bool.and_eq_true] at h
    simp only [List.flatMap_cons, List.all_append, Bool.and_eq_true]
    refine ⟨?_, cells_flat h.2⟩
    cases v with
    | one t => simpa [svCells, flatSV] using h.1
    | agg ts => simpa [svCells, flatSV] using h.1
    | _ => simp [flatSV] at h

/-- Results as one value. -/
def pack : List SV → SV
  | [v] => v
  | vs => .tup vs

/-- A return with results that stand for themselves, where no box came in. -/
theorem leave_flat {σ : St} {vs : List SV} (h : vs.all flatSV = true) : leave 0 σ vs = some (pack vs, []) := by
  have hc := cells_flat h
  unfold leave
  simp only
  have hg : gather σ.hp ((vs.flatMap svCells).foldl (visB σ.hp 0) (parBoxes σ.hp 0)) (vs.flatMap svCells) = [] := by
    rw [visB_flat hc]
    unfold gather
    simp only
    rw [visL_flat hc]
    simp [parBoxes, closeB]
  rw [hg, if_pos ⟨rfl, rfl⟩]
  simp only [renBlks, Option.bind_some, renRes_flat h]
  rfl

/-- A cell that stands for itself for good. -/
def permT : T → Bool
  | .lit _ => true
  | .imm p _ _ => p
  | _ => false
def noPtr : T → Bool
  | .ptr .. | .clo .. => false
  | _ => true
def plainArg (v : SV × Nat × Bool) : Bool := (svCells v.1).all noPtr && !v.2.2

theorem perm_flat : ∀ {ts : Row}, ts.all permT = true → ts.all flatT = true
  | [], _ => rfl
  | t :: r, h => by
    simp only [List.all_cons, Bool.and_eq_true] at h ⊢
    refine ⟨?_, perm_flat h.2⟩
    have := h.1
    cases t <;> simp_all [permT, flatT]
theorem perm_closed : ∀ {ts : Row}, ts.all permT = true → ts.all closed = true
  | [], _ => rfl
  | t :: r, h => by
    simp only [List.all_cons, Bool.and_eq_true] at h ⊢
    refine ⟨?_, perm_closed h.2⟩
    have := h.1
    cases t <;> simp_all [permT, closed]
theorem perm_noLent : ∀ {ts : Row}, ts.all permT = true → ts.all noLent = true
  | [], _ => rfl
  | t :: r, h => by
    simp only [List.all_cons, Bool.and_eq_true] at h ⊢
    refine ⟨?_, perm_noLent h.2⟩
    have := h.1
    cases t <;> simp_all [permT, noLent]
theorem visB_noPtr {hp : List Blk} {n : Nat} : ∀ {ts : Row} {l : List Src}, ts.all noPtr = true → ts.foldl (visB hp n) l = l
  | [], l, _ => rfl
  | t :: r, l, h => by
    simp only [List.all_cons, Bool.and_eq_true] at h
    rw [List.foldl_cons]
    have : visB hp n l t = l := by cases t <;> simp_all [noPtr, visB, visP]
    rw [this]
    exact visB_noPtr h.2
theorem visP_flat {hp : List Blk} {n : Nat} : ∀ {ts : Row} {l : List Src}, ts.all flatT = true → ts.foldl (visP hp n) l = l
  | [], l, _ => rfl
  | t :: r, l, h => by
    simp only [List.all_cons, Bool.and_eq_true] at h
    rw [List.foldl_cons]
    have : visP hp n l t = l := by cases t <;> simp_all [flatT, visP]
    rw [this]
    exact visP_flat h.2
theorem vis_args {hp : List Blk} : ∀ {ws : List (SV × Nat × Bool)} {l : List Src}, ws.all plainArg = true → ws.foldl (fun l v => (svCells v.1).foldl (visB hp v.2.1) l) l = l
  | [], l, _ => rfl
  | v :: r, l, h => by
    simp only [List.all_cons, plainArg, Bool.and_eq_true] at h
    rw [List.foldl_cons, visB_noPtr h.1.1]
    exact vis_args (by simpa [plainArg] using h.2)
theorem moved_args : ∀ {ws : List (SV × Nat × Bool)}, ws.all plainArg = true → (ws.flatMap fun v => if v.2.2 then svCells v.1 else []) = []
  | [], _ => rfl
  | v :: r, h => by
    simp only [List.all_cons, plainArg, Bool.and_eq_true] at h
    have h2 : v.2.2 = false := by simpa using h.1.2
    rw [List.flatMap_cons, moved_args (by simpa [plainArg] using h.2), h2]
    simp

/-- A call that is handed the address of one whole box of cells that stand for themselves, and other arguments that lead to no box. -/
theorem doCall_box {R : Rt} {hp : List Blk} {id n : Nat} {cells new : Row} {f : FuncId} {ws : List (SV × Nat × Bool)} {args : List SV} {res : SV} (hb : hp[id]? = some (.box cells)) (hn : cells.length = n) (hpos : 0 < n) (hc : cells.all permT = true)
    (hws : ws.all plainArg = true) (hw : renArgs hp [.box id 0 n] 0 ws = some args) (hR : R f (.one (.ptr 0 0 0) :: args) [.box cells] = some (res, [.box new])) (hn' : new.length = n) (hnew : new.all permT = true)
    (hres : svClosed res = true) (hres' : svNoLent res = true) : doCall R hp false f ((.one (.ptr id 0 0), n, false) :: ws) = some (res, hp.set id (.box new)) := by
  have hcf := perm_flat hc
  have hbc : boxCells hp id = cells := by simp [boxCells, hb]
  have hsc : srcCells hp (.box id 0 n) = cells := by simp [srcCells, hbc, ← hn]
  have h1 : (((.one (.ptr id 0 0), n, false) : SV × Nat × Bool) :: ws).foldl (fun l v => (svCells v.1).foldl (visB hp v.2.1) l) [] = [.box id 0 n] := by
    rw [List.foldl_cons, vis_args hws]
    simp [svCells, visB, visP, addS, show n ≠ 0 by omega]
  have h2 : ((((.one (.ptr id 0 0), n, false) : SV × Nat × Bool) :: ws).flatMap fun v => if v.2.2 then svCells v.1 else []) = [] := by
    rw [List.flatMap_cons, moved_args hws]
    simp
  have hcl : closeB hp 6 0 [.box id 0 n] = [.box id 0 n] := by
    simp [closeB, hsc, visP_flat hcf]
  have hg : gather hp [.box id 0 n] [] = [.box id 0 n] := by
    unfold gather
    simp only [hcl, List.foldl_nil, List.flatMap_cons, List.flatMap_nil, hsc, List.append_nil, visL_flat hcf]
  have hok : srcOk hp [.box id 0 n] = true := by
    simp [srcOk, allApart, okSrc, isBox, hb, boxesOf, hn, hpos]
  have hrb : renBlks hp [.box id 0 n] 0 [.box id 0 n] = some ([.box cells], 0) := by
    simp [renBlks, hsc, renRow_flat hcf]
  have hra : renArgs hp [.box id 0 n] 0 ((.one (.ptr id 0 0), n, false) :: ws) = some (.one (.ptr 0 0 0) :: args) := by
    simp [renArgs, lend, renP, findB, hpos, hw]
  have hwr : wr cells 0 new = new := by simp [wr, hn', ← hn]
  unfold doCall
  rw [if_neg (by simp)]
  unfold enter
  simp only [h1, h2, hg]
  rw [if_pos hok]
  simp only [hrb, hra, Option.bind_some, hR]
  unfold back
  rw [if_neg (by simp [hres', blkNoLent, perm_noLent hnew])]
  simp only [boxesOf, backBoxes, List.getElem?_cons_zero, hb, hn', if_true, closed_row (perm_closed hnew), Option.bind_some, hwr, closed_inst hres, List.drop_succ_cons, List.drop_nil, instBlks, List.append_nil]

/-- A return where one box came in. -/
theorem leave_box {σ : St} {vs : List SV} {cells : Row} {rest : List Blk} (hh : σ.hp = .box cells :: rest) (hpos : 0 < cells.length) (hc : cells.all permT = true) (h : vs.all flatSV = true) : leave 1 σ vs = some (pack vs, [.box cells]) := by
  have hcf := perm_flat hc
  have hcs := cells_flat h
  have hbc : boxCells σ.hp 0 = cells := by simp [boxCells, hh]
  have hsc : srcCells σ.hp (.box 0 0 cells.length) = cells := by simp [srcCells, hbc]
  have hpb : parBoxes σ.hp 1 = [.box 0 0 cells.length] := by
    have : parBoxes σ.hp 1 = [.box 0 0 (boxCells σ.hp 0).length] := rfl
    rw [this, hbc]
  have hcl : closeB σ.hp 6 0 [.box 0 0 cells.length] = [.box 0 0 cells.length] := by
    simp [closeB, hsc, visP_flat hcf]
  have hg : gather σ.hp ((vs.flatMap svCells).foldl (visB σ.hp 0) (parBoxes σ.hp 1)) (vs.flatMap svCells) = [.box 0 0 cells.length] := by
    rw [visB_flat hcs, hpb]
    unfold gather
    simp only [hcl, List.flatMap_cons, List.flatMap_nil, hsc, List.append_nil, visL_flat hcf, visL_flat hcs]
  have hok : srcOk σ.hp [.box 0 0 cells.length] = true := by
    simp [srcOk, allApart, okSrc, isBox, hh, boxesOf, hpos]
  have hrb : renBlks σ.hp [.box 0 0 cells.length] 0 [.box 0 0 cells.length] = some ([.box cells], 0) := by
    simp [renBlks, hsc, renRow_flat hcf]
  unfold leave
  simp only [hg]
  rw [if_pos ⟨hok, by rw [hpb]; rfl⟩]
  simp only [hrb, Option.bind_some, renRes_flat h]
  rfl

def flatO : Option SV → Bool
  | some .und => true
  | some v => flatSV v
  | none => false

/-- A round's beginning where all that lives stands for itself, and no box came in. -/
theorem canon_flat {σ : St} {live : List Nat} (h : (live.all fun s => flatO (lookup s σ.sl)) = true) : canon 0 live σ = some ⟨keep σ.sl live, []⟩ := by
  have hc : (liveCells σ live).all flatT = true := by
    unfold liveCells
    rw [List.all_flatMap, List.all_eq_true]
    intro s hs
    have := List.all_eq_true.1 h s hs
    cases hl : lookup s σ.sl with
    | none => simp [hl, flatO] at this
    | some v =>
      rw [hl] at this
      cases v with
      | und => rfl
      | one t => simpa [flatO, flatSV, svCells] using this
      | agg ts => simpa [flatO, flatSV, svCells] using this
      | tup vs => simp [flatO, flatSV] at this
  have hl : ∀ (live : List Nat), (live.all fun s => flatO (lookup s σ.sl)) = true → liveSl σ [] 0 live = some (keep σ.sl live) := by
    intro live
    induction live with
    | nil => intro _; rfl
    | cons s r ih =>
      intro h
      simp only [List.all_cons, Bool.and_eq_true] at h
      have ihr := ih h.2
      cases hl : lookup s σ.sl with
      | none => have := h.1; simp [hl, flatO] at this
      | some v =>
        have h1 := h.1
        rw [hl] at h1
        cases v with
        | und => simp [liveSl, keep, hl, ihr]
        | one t => simp [liveSl, keep, hl, ihr, ren_flat (show flatT t = true from h1)]
        | agg ts => simp [liveSl, keep, hl, ihr, renRow_flat (show ts.all flatT = true from h1)]
        | tup vs => simp [flatO, flatSV] at h1
  have hg : gather σ.hp ((liveCells σ live).foldl (visB σ.hp 0) (parBoxes σ.hp 0)) (liveCells σ live) = [] := by
    rw [visB_flat hc]
    unfold gather
    simp only
    rw [visL_flat hc]
    simp [parBoxes, closeB]
  unfold canon
  simp only [hg]
  rw [if_pos ⟨rfl, rfl⟩]
  simp only [renBlks, Option.bind_some, hl live h]

/-! One part at a time. -/
section
variable {R : Rt} {nb n : Nat} {x y : C} {σ σ1 : St} {id : Nat}
theorem evc_seq (h : evc R nb n x σ = some (.nor σ1)) : evc R nb n (.seq x y) σ = evc R nb n y σ1 := by simp [evc, h]
theorem evc_seq_ret (h : evc R nb n x σ = some (.ret σ1)) : evc R nb n (.seq x y) σ = some (.ret σ1) := by simp [evc, h]
theorem evc_seq_brk (h : evc R nb n x σ = some (.brk id σ1)) : evc R nb n (.seq x y) σ = some (.brk id σ1) := by simp [evc, h]
theorem evc_ops {l : List G} {kp : Option (List Nat)} (h : runGs R l σ = some σ1) : evc R nb n (.ops l kp) σ = some (.nor (trim kp σ1)) := by simp [evc, h]
theorem evc_true {c : Opd} (h : σ.ev c = some (.one (B true))) : evc R nb n (.cond c x y) σ = evc R nb n x σ := by simp [evc, h, asBool]
theorem evc_false {c : Opd} (h : σ.ev c = some (.one (B false))) : evc R nb n (.cond c x y) σ = evc R nb n y σ := by simp [evc, h, asBool]
theorem fn_ret {cf : Zq.Fn} {args vs : List SV} {hp : List Blk} {r : SV × List Blk} (hl : args.length = cf.np) (h : evc R (hpBoxes hp) n cf.body ⟨startSl 0 args, hp⟩ = some (.ret σ1)) (hv : resVals σ1 cf.res = some vs)
    (hr : leave (hpBoxes hp) σ1 vs = some r) : cf.run R n args hp = some r := by simp [Fn.run, hl, h, hv, hr]
end

end Go.Zq
