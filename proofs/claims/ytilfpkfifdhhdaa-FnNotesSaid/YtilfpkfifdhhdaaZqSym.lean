/- Code over open terms: the two ways of a branch are put together. What is told here is what the compact code computes, under a condition that is told as well. -/
import Derived.Test.YtilfpkfifdhhdaaZqSymS
set_option linter.unusedVariables false
set_option linter.unusedSimpArgs false
namespace Go.Zq
open Go

/-- Contracts: what a callee gives, and under what condition. -/
abbrev Qt := FuncId → List SV → List Blk → Option ((SV × List Blk) × Bool)
def Qt.val (Q : Qt) : Rt := fun f a h => (Q f a h).map (·.1)
def QOk (R : Rt) (Q : Qt) : Prop := ∀ f a h r, Q f a h = some (r, true) → R f a h = some r

/-! Two values as one. -/
def mergeV (b : Bool) : Value → Value → Option Value
  | .int k x, .int k' y => if k = k' then some (.int k (bif b then x else y)) else none
  | .bool x, .bool y => some (.bool (bif b then x else y))
  | .string x, .string y => some (.string (bif b then x else y))
  | _, _ => none
def mergeT (b : Bool) : T → T → Option T
  | .lit v, .lit u => (mergeV b v u).bind fun v => some (.lit v)
  | .ptr i r o, .ptr i' r' o' => if i = i' ∧ r = r' ∧ o = o' then some (.ptr i r o) else none
  | .sl i o l, .sl i' o' l' => if i = i' ∧ o = o' then some (.sl i o (bif b then l else l')) else none
  | .nls n, .nls n' => if n = n' then some (.nls n) else none
  | .imm p n rows, .imm p' n' rows' => if p = p' ∧ n = n' then some (.imm p n (bif b then rows else rows')) else none
  | _, _ => none
def mergeRow (b : Bool) : Row → Row → Option Row
  | [], [] => some []
  | x :: r, y :: s => (mergeT b x y).bind fun z => (mergeRow b r s).bind fun t => some (z :: t)
  | _, _ => none
def mergeFl (b : Bool) : SV → SV → Option SV
  | .und, .und => some .und
  | .one t, .one u => (mergeT b t u).bind fun t => some (.one t)
  | .agg ts, .agg us => (mergeRow b ts us).bind fun ts => some (.agg ts)
  | _, _ => none
def mergeFls (b : Bool) : List SV → List SV → Option (List SV)
  | [], [] => some []
  | x :: r, y :: s => (mergeFl b x y).bind fun z => (mergeFls b r s).bind fun t => some (z :: t)
  | _, _ => none
def mergeSV (b : Bool) : SV → SV → Option SV
  | .tup vs, .tup us => (mergeFls b vs us).bind fun vs => some (.tup vs)
  | v, u => mergeFl b v u
def mergeBlk (b : Bool) : Blk → Blk → Option Blk
  | .dead, .dead => some .dead
  | .box cs, .box ds => (mergeRow b cs ds).bind fun cs => some (.box cs)
  | .lst n rows, .lst n' rows' => if n = n' then some (.lst n (bif b then rows else rows')) else none
  | _, _ => none
def mergeHp (b : Bool) : List Blk → List Blk → Option (List Blk)
  | [], [] => some []
  | x :: r, y :: s => (mergeBlk b x y).bind fun z => (mergeHp b r s).bind fun t => some (z :: t)
  | _, _ => none

theorem mergeV_eq {b : Bool} {v u w : Value} (h : mergeV b v u = some w) : w = bif b then v else u := by
  unfold mergeV at h
  split at h
  · split at h
    · rename_i k x k' y e
      subst e
      cases b <;> simp_all
    · simp at h
  · cases b <;> simp_all
  · cases b <;> simp_all
  · simp at h
theorem mergeT_eq {b : Bool} {v u w : T} (h : mergeT b v u = some w) : w = bif b then v else u := by
  unfold mergeT at h
  split at h
  · simp only [Option.bind_eq_some_iff, Option.some.injEq] at h
    obtain ⟨z, hz, rfl⟩ := h
    rw [mergeV_eq hz]
    cases b <;> rfl
  · split at h
    · rename_i e; obtain ⟨rfl, rfl, rfl⟩ := e; cases b <;> simp_all
    · simp at h
  · split at h
    · rename_i e; obtain ⟨rfl, rfl⟩ := e; cases b <;> simp_all
    · simp at h
  · split at h
    · rename_i e; subst e; cases b <;> simp_all
    · simp at h
  · split at h
    · rename_i e; obtain ⟨rfl, rfl⟩ := e; cases b <;> simp_all
    · simp at h
  · simp at h
theorem mergeRow_eq {b : Bool} : ∀ {v u w : Row}, mergeRow b v u = some w → w = bif b then v else u
  | [], [], w, h => by cases b <;> simp_all [mergeRow]
  | x :: r, y :: s, w, h => by
    simp only [mergeRow, Option.bind_eq_some_iff, Option.some.injEq] at h
    obtain ⟨z, hz, t, ht, rfl⟩ := h
    rw [mergeT_eq hz, mergeRow_eq ht]
    cases b <;> rfl
  | [], _ :: _, w, h => by simp [mergeRow] at h
  | _ :: _, [], w, h => by simp [mergeRow] at h
theorem mergeFl_eq {b : Bool} {v u w : SV} (h : mergeFl b v u = some w) : w = bif b then v else u := by
  unfold mergeFl at h
  split at h
  · cases b <;> simp_all
  · simp only [Option.bind_eq_some_iff, Option.some.injEq] at h
    obtain ⟨z, hz, rfl⟩ := h
    rw [mergeT_eq hz]
    cases b <;> rfl
  · simp only [Option.bind_eq_some_iff, Option.some.injEq] at h
    obtain ⟨z, hz, rfl⟩ := h
    rw [mergeRow_eq hz]
    cases b <;> rfl
  · simp at h
theorem mergeFls_eq {b : Bool} : ∀ {v u w : List SV}, mergeFls b v u = some w → w = bif b then v else u
  | [], [], w, h => by cases b <;> simp_all [mergeFls]
  | x :: r, y :: s, w, h => by
    simp only [mergeFls, Option.bind_eq_some_iff, Option.some.injEq] at h
    obtain ⟨z, hz, t, ht, rfl⟩ := h
    rw [mergeFl_eq hz, mergeFls_eq ht]
    cases b <;> rfl
  | [], _ :: _, w, h => by simp [mergeFls] at h
  | _ :: _, [], w, h => by simp [mergeFls] at h
theorem mergeSV_eq {b : Bool} {v u w : SV} (h : mergeSV b v u = some w) : w = bif b then v else u := by
  unfold mergeSV at h
  split at h
  · simp only [Option.bind_eq_some_iff, Option.some.injEq] at h
    obtain ⟨z, hz, rfl⟩ := h
    rw [mergeFls_eq hz]
    cases b <;> rfl
  · exact mergeFl_eq h
theorem mergeBlk_eq {b : Bool} {v u w : Blk} (h : mergeBlk b v u = some w) : w = bif b then v else u := by
  unfold mergeBlk at h
  split at h
  · cases b <;> simp_all
  · simp only [Option.bind_eq_some_iff, Option.some.injEq] at h
    obtain ⟨z, hz, rfl⟩ := h
    rw [mergeRow_eq hz]
    cases b <;> rfl
  · split at h
    · rename_i e; subst e; cases b <;> simp_all
    · simp at h
  · simp at h
theorem mergeHp_eq {b : Bool} : ∀ {v u w : List Blk}, mergeHp b v u = some w → w = bif b then v else u
  | [], [], w, h => by cases b <;> simp_all [mergeHp]
  | x :: r, y :: s, w, h => by
    simp only [mergeHp, Option.bind_eq_some_iff, Option.some.injEq] at h
    obtain ⟨z, hz, t, ht, rfl⟩ := h
    rw [mergeBlk_eq hz, mergeHp_eq ht]
    cases b <;> rfl
  | [], _ :: _, w, h => by simp [mergeHp] at h
  | _ :: _, [], w, h => by simp [mergeHp] at h

/-! One operation. -/
def binS (o : BinOp) : Value → Value → Option (Value × Bool)
  | .int k x, .int k' y =>
    match o with
    | .shl => some (.int k (k.wrap (x * 2 ^ min y.toNat k.bits)), decide (0 ≤ y))
    | .shr => some (.int k (x.fdiv (2 ^ min y.toNat k.bits)), decide (0 ≤ y))
    | .quo => if k = k' then some (.int k (k.wrap (x.tdiv y)), y != 0) else none
    | .rem => if k = k' then some (.int k (x.tmod y), y != 0) else none
    | o => if k = k' then (binInt o k x y).map (·, true) else none
  | v, u => (binT o v u).map (·, true)

theorem binS_eq {o : BinOp} {v u r : Value} (h : binS o v u = some (r, true)) : binT o v u = some r := by
  unfold binS at h
  split at h
  · rename_i k x k' y
    split at h
    · simp only [Option.some.injEq, Prod.mk.injEq, decide_eq_true_eq] at h
      obtain ⟨rfl, hy⟩ := h
      simp [binT, show ¬ y < 0 by omega]
    · simp only [Option.some.injEq, Prod.mk.injEq, decide_eq_true_eq] at h
      obtain ⟨rfl, hy⟩ := h
      simp [binT, show ¬ y < 0 by omega]
    · split at h
      · simp only [Option.some.injEq, Prod.mk.injEq, bne_iff_ne, ne_eq] at h
        obtain ⟨rfl, hy⟩ := h
        simp_all [binT, binInt]
      · simp at h
    · split at h
      · simp only [Option.some.injEq, Prod.mk.injEq, bne_iff_ne, ne_eq] at h
        obtain ⟨rfl, hy⟩ := h
        simp_all [binT, binInt]
      · simp at h
    · split at h
      · simp only [Option.map_eq_some_iff, Prod.mk.injEq, and_true] at h
        obtain ⟨r', hr, rfl⟩ := h
        rename_i hk _ _ _ _
        cases o <;> simp_all [binT]
      · simp at h
  · simp only [Option.map_eq_some_iff, Prod.mk.injEq, and_true] at h
    obtain ⟨r', hr, rfl⟩ := h
    exact hr

/-! What comes back, told for good. -/
def frzTS (hp : List Blk) : T → Option (T × Bool)
  | .lit v => some (.lit v, true)
  | .nls n => some (.nls n, true)
  | .imm p n rows => some (.imm p n rows, true)
  | .sl id off len => match hp[id]? with
    | some (.lst n rows) => if off = 0 then some (.imm true n rows, decide (len = rows.length)) else none
    | _ => none
  | _ => none
theorem frzTS_eq {hp : List Blk} {t r : T} (h : frzTS hp t = some (r, true)) : frzT hp t = some r := by
  cases t with
  | sl id off len =>
    simp only [frzTS] at h
    split at h
    · rename_i n rows hb
      split at h
      · rename_i e
        subst e
        simp only [Option.some.injEq, Prod.mk.injEq, decide_eq_true_eq] at h
        obtain ⟨rfl, rfl⟩ := h
        simp [frzT, szOf, rowsOf, hb]
      · simp at h
    · simp at h
  | lit | nls | imm => simp only [frzTS, Option.some.injEq, Prod.mk.injEq, and_true] at h; rw [← h]; rfl
  | ptr | ip | clo => simp [frzTS] at h
def frzRowS (hp : List Blk) : Row → Option (Row × Bool)
  | [] => some ([], true)
  | t :: r => (frzTS hp t).bind fun t => (frzRowS hp r).bind fun r => some (t.1 :: r.1, t.2 && r.2)
theorem frzRowS_eq {hp : List Blk} : ∀ {t r : Row}, frzRowS hp t = some (r, true) → frzRow hp t = some r
  | [], r, h => by simp only [frzRowS, Option.some.injEq, Prod.mk.injEq, and_true] at h; subst h; rfl
  | t :: s, r, h => by
    simp only [frzRowS, Option.bind_eq_some_iff, Option.some.injEq, Prod.mk.injEq] at h
    obtain ⟨x, hx, y, hy, rfl, ho⟩ := h
    obtain ⟨o1, o2⟩ := and_t ho
    simp only [frzRow, frzTS_eq (r := x.1) (by rw [hx, ← o1]), Option.bind_some, frzRowS_eq (r := y.1) (by rw [hy, ← o2])]
def frzFlS (hp : List Blk) : SV → Option (SV × Bool)
  | .one t => (frzTS hp t).bind fun t => some (.one t.1, t.2)
  | .agg ts => (frzRowS hp ts).bind fun ts => some (.agg ts.1, ts.2)
  | _ => none
theorem frzFlS_eq {hp : List Blk} {t r : SV} (h : frzFlS hp t = some (r, true)) : frzFl hp t = some r := by
  cases t with
  | one t =>
    simp only [frzFlS, Option.bind_eq_some_iff, Option.some.injEq, Prod.mk.injEq] at h
    obtain ⟨x, hx, rfl, ho⟩ := h
    simp only [frzFl, frzTS_eq (r := x.1) (by rw [hx, ← ho]), Option.bind_some]
  | agg t =>
    simp only [frzFlS, Option.bind_eq_some_iff, Option.some.injEq, Prod.mk.injEq] at h
    obtain ⟨x, hx, rfl, ho⟩ := h
    simp only [frzFl, frzRowS_eq (r := x.1) (by rw [hx, ← ho]), Option.bind_some]
  | und => simp [frzFlS] at h
  | tup => simp [frzFlS] at h
def frzFlsS (hp : List Blk) : List SV → Option (List SV × Bool)
  | [] => some ([], true)
  | t :: r => (frzFlS hp t).bind fun t => (frzFlsS hp r).bind fun r => some (t.1 :: r.1, t.2 && r.2)
theorem frzFlsS_eq {hp : List Blk} : ∀ {t r : List SV}, frzFlsS hp t = some (r, true) → frzFls hp t = some r
  | [], r, h => by simp only [frzFlsS, Option.some.injEq, Prod.mk.injEq, and_true] at h; subst h; rfl
  | t :: s, r, h => by
    simp only [frzFlsS, Option.bind_eq_some_iff, Option.some.injEq, Prod.mk.injEq] at h
    obtain ⟨x, hx, y, hy, rfl, ho⟩ := h
    obtain ⟨o1, o2⟩ := and_t ho
    simp only [frzFls, frzFlS_eq (r := x.1) (by rw [hx, ← o1]), Option.bind_some, frzFlsS_eq (r := y.1) (by rw [hy, ← o2])]
def frzSVS (hp : List Blk) : SV → Option (SV × Bool)
  | .tup vs => (frzFlsS hp vs).bind fun vs => some (.tup vs.1, vs.2)
  | v => frzFlS hp v
theorem frzSVS_eq {hp : List Blk} {t r : SV} (h : frzSVS hp t = some (r, true)) : frzSV hp t = some r := by
  cases t with
  | tup vs =>
    simp only [frzSVS, Option.bind_eq_some_iff, Option.some.injEq, Prod.mk.injEq] at h
    obtain ⟨x, hx, rfl, ho⟩ := h
    simp only [frzSV, frzFlsS_eq (r := x.1) (by rw [hx, ← ho]), Option.bind_some]
  | one t => exact frzFlS_eq (hp := hp) (t := .one t) h
  | agg t => exact frzFlS_eq (hp := hp) (t := .agg t) h
  | und => exact frzFlS_eq (hp := hp) (t := .und) h

def doCallS (Q : Qt) (hp : List Blk) (pu : Bool) (f : FuncId) (vs : List (SV × Nat × Bool)) : Option ((SV × List Blk) × Bool) :=
  if pu = true then
    (renArgsS hp [] 0 vs).bind fun args => (Q f args.1 []).bind fun r => (frzSVS r.1.2 r.1.1).bind fun v =>
    if vs.any lentSl = false ∨ svNoLent v.1 = true then some ((v.1, hp), args.2 && (r.2 && v.2)) else none
  else
    (enterS hp vs).bind fun e => (Q f e.1.args e.1.hp).bind fun r => (back hp e.1 r.1.1 r.1.2).bind fun x => some (x, e.2 && r.2)

theorem doCallS_sound {R : Rt} {Q : Qt} (hQ : QOk R Q) {hp : List Blk} {pu : Bool} {f : FuncId} {vs : List (SV × Nat × Bool)} {r : SV × List Blk} (h : doCallS Q hp pu f vs = some (r, true)) : doCall R hp pu f vs = some r := by
  unfold doCallS at h
  unfold doCall
  split at h
  · rename_i hpu
    rw [if_pos hpu]
    simp only [Option.bind_eq_some_iff] at h ⊢
    obtain ⟨args, h1, q, hq, v, hv, h⟩ := h
    split at h
    · rename_i hc
      simp only [Option.some.injEq, Prod.mk.injEq] at h
      obtain ⟨rfl, ho⟩ := h
      obtain ⟨o1, o2⟩ := and_t ho
      obtain ⟨o2, o3⟩ := and_t o2
      exact ⟨args.1, renArgsS_eq (by rw [h1, ← o1]), q.1, hQ _ _ _ _ (by rw [hq, ← o2]), v.1, frzSVS_eq (by rw [hv, ← o3]), by rw [if_pos hc]⟩
    · simp at h
  · rename_i hpu
    rw [if_neg hpu]
    simp only [Option.bind_eq_some_iff, Option.some.injEq, Prod.mk.injEq] at h ⊢
    obtain ⟨e, h1, q, hq, x, hx, rfl, ho⟩ := h
    obtain ⟨o1, o2⟩ := and_t ho
    exact ⟨e.1, enterS_eq (by rw [h1, ← o1]), q.1, hQ _ _ _ _ (by rw [hq, ← o2]), hx⟩

/-! Cells of a list at a place that is not known. -/
inductive Kd where
  | int (k : IntKind)
  | bool
  | str
  | imm (n : Nat)
def isK : Kd → T → Bool
  | .int k, .lit (.int k' _) => k == k'
  | .bool, .lit (.bool _) => true
  | .str, .lit (.string _) => true
  | .imm n, .imm p n' _ => p && n == n'
  | _, _ => false
def areK : List Kd → Row → Bool
  | [], _ => true
  | k :: ks, t :: r => isK k t && areK ks r
  | _ :: _, [] => false
def cellAt (rows : List Row) (j i : Nat) : T := (rows.getD j []).getD i (.nls 0)
def tInt : T → Int
  | .lit (.int _ z) => z
  | _ => 0
def tBool : T → Bool
  | .lit (.bool z) => z
  | _ => false
def tStr : T → ByteArray
  | .lit (.string z) => z
  | _ => .empty
def tRows : T → List Row
  | .imm _ _ rows => rows
  | _ => []
def intAt (rows : List Row) (j i : Nat) : Int := tInt (cellAt rows j i)
def boolAt (rows : List Row) (j i : Nat) : Bool := tBool (cellAt rows j i)
def strAt (rows : List Row) (j i : Nat) : ByteArray := tStr (cellAt rows j i)
def rowsAt (rows : List Row) (j i : Nat) : List Row := tRows (cellAt rows j i)
def ofK (rows : List Row) (j i : Nat) : Kd → T
  | .int k => .lit (.int k (intAt rows j i))
  | .bool => .lit (.bool (boolAt rows j i))
  | .str => .lit (.string (strAt rows j i))
  | .imm n => .imm true n (rowsAt rows j i)
def rowAt (rows : List Row) (j : Nat) : Nat → List Kd → Row
  | _, [] => []
  | i, k :: ks => ofK rows j i k :: rowAt rows j (i + 1) ks
/-- There is such a row, and its cells are of these kinds from the i-th on. -/
def hasRow (kds : List Kd) (rows : List Row) (j i : Nat) : Bool := Nat.blt j rows.length && areK kds ((rows.getD j []).drop i)
/-- The same for whole rows at a number with a sign. -/
def inRow (kds : List Kd) (rows : List Row) (j : Int) : Bool := decide (0 ≤ j) && (hasRow kds rows j.toNat 0 && (rows.getD j.toNat []).length == kds.length)

theorem ofK_eq {rows : List Row} {j i : Nat} {k : Kd} {t : T} (ht : cellAt rows j i = t) (hk : isK k t = true) : ofK rows j i k = t := by
  unfold isK at hk
  split at hk
  · simp only [ofK, intAt, ht, tInt, beq_iff_eq] at hk ⊢
    rw [hk]
  · simp only [ofK, boolAt, ht, tBool]
  · simp only [ofK, strAt, ht, tStr]
  · simp only [Bool.and_eq_true, beq_iff_eq] at hk
    simp only [ofK, rowsAt, ht, tRows]
    rw [hk.1, hk.2]
  · simp at hk
theorem rowAt_eq {rows : List Row} {j : Nat} : ∀ {kds : List Kd} {i : Nat}, areK kds ((rows.getD j []).drop i) = true → rowAt rows j i kds = ((rows.getD j []).drop i).take kds.length
  | [], i, h => by simp [rowAt]
  | k :: ks, i, h => by
    cases hd : (rows.getD j []).drop i with
    | nil => rw [hd] at h; simp [areK] at h
    | cons t r =>
      rw [hd] at h
      simp only [areK, Bool.and_eq_true] at h
      have hr : (rows.getD j []).drop (i + 1) = r := by
        rw [← List.drop_drop, hd]
        rfl
      have ht : cellAt rows j i = t := by
        have : (rows.getD j [])[i]? = some t := by
          have := congrArg (·[0]?) hd
          simpa [List.getElem?_drop] using this
        simp only [cellAt, List.getD_eq_getElem?_getD] at this ⊢
        rw [this]
        rfl
      simp only [rowAt, ofK_eq ht h.1, List.length_cons, List.take_succ_cons]
      rw [rowAt_eq (by rw [hr]; exact h.2), hr]
theorem areK_len : ∀ {kds : List Kd} {r : Row}, areK kds r = true → kds.length ≤ r.length
  | [], r, h => by simp
  | k :: ks, [], h => by simp [areK] at h
  | k :: ks, t :: r, h => by
    simp only [areK, Bool.and_eq_true] at h
    simp only [List.length_cons]
    have := areK_len h.2
    omega
theorem getD_row {rows : List Row} {j : Nat} (h : Nat.blt j rows.length = true) : rows[j]? = some (rows.getD j []) := by
  have : j < rows.length := by simpa using h
  simp [List.getD_eq_getElem?_getD, this]

def kdOf (d : Nat) : List (Nat × List Kd) → Option (List Kd)
  | [] => none
  | (m, v) :: r => if m = d then some v else kdOf d r

def idxS (hp : List Blk) (sz : Nat) (kds : List Kd) (t : T) (j : Int) : Option (SV × Bool) :=
  match t with
  | .sl id off ln => if szOf hp (.sl id off ln) = some sz then some (.one (.ptr id (off + j.toNat) 0), decide (0 ≤ j) && decide (j < ln)) else none
  | .imm _ n rows => if n = sz then some (.one (.ip (rowAt rows j.toNat 0 kds)), inRow kds rows j) else none
  | _ => none
theorem idxS_eq {hp : List Blk} {sz : Nat} {kds : List Kd} {t : T} {j : Int} {v : SV} (h : idxS hp sz kds t j = some (v, true)) : idx hp sz t j = some v := by
  unfold idxS at h
  split at h
  · split at h
    · rename_i hs
      simp only [Option.some.injEq, Prod.mk.injEq, Bool.and_eq_true, decide_eq_true_eq] at h
      obtain ⟨rfl, h⟩ := h
      simp only [idx]
      rw [if_pos h, if_pos hs]
    · simp at h
  · split at h
    · rename_i hs
      simp only [Option.some.injEq, Prod.mk.injEq, inRow, hasRow, Bool.and_eq_true, decide_eq_true_eq, beq_iff_eq] at h
      obtain ⟨rfl, h0, ⟨h1, h2⟩, h3⟩ := h
      simp only [idx]
      rw [if_pos ⟨h0, hs⟩, getD_row h1, Option.map_some, rowAt_eq h2, List.drop_zero, ← h3, List.take_length]
    · simp at h
  · simp at h

def ldS (hp : List Blk) (n : Option Nat) (kds : List Kd) (t : T) : Option (SV × Bool) :=
  match t with
  | .ptr id row off =>
    match hp[id]? with
    | some (.lst _ rows) => (SV.of n (rowAt rows row off kds)).bind fun v => some (v, hasRow kds rows row off)
    | _ => (cellsAt hp t).bind fun cs => (SV.of n cs).bind fun v => some (v, true)
  | _ => (cellsAt hp t).bind fun cs => (SV.of n cs).bind fun v => some (v, true)
theorem of_take {n : Option Nat} {cs : Row} {m : Nat} {v : SV} (h : SV.of n (cs.take m) = some v) : SV.of n cs = some v := by
  cases n with
  | none =>
    cases cs with
    | nil => simp [SV.of] at h
    | cons t r =>
      cases m with
      | zero => simp [SV.of] at h
      | succ m => simpa [SV.of] using h
  | some k =>
    simp only [SV.of] at h ⊢
    split at h
    · rename_i hk
      rw [List.length_take] at hk
      rw [if_pos (by omega), ← h, List.take_take, Nat.min_eq_left (by omega)]
    · simp at h
theorem ldS_eq {hp : List Blk} {n : Option Nat} {kds : List Kd} {t : T} {v : SV} (h : ldS hp n kds t = some (v, true)) : ((cellsAt hp t).bind fun cs => SV.of n cs) = some v := by
  unfold ldS at h
  split at h
  · split at h
    · rename_i id row off _ sz rows hb
      simp only [Option.bind_eq_some_iff, Option.some.injEq, Prod.mk.injEq, hasRow, Bool.and_eq_true] at h
      obtain ⟨u, hu, rfl, h1, h2⟩ := h
      simp only [cellsAt, hb, getD_row h1, Option.map_some, Option.bind_some]
      rw [rowAt_eq h2] at hu
      exact of_take hu
    · simp only [Option.bind_eq_some_iff, Option.some.injEq, Prod.mk.injEq, and_true] at h ⊢
      obtain ⟨cs, hc, u, hu, rfl⟩ := h
      exact ⟨cs, hc, hu⟩
  · simp only [Option.bind_eq_some_iff, Option.some.injEq, Prod.mk.injEq, and_true] at h ⊢
    obtain ⟨cs, hc, u, hu, rfl⟩ := h
    exact ⟨cs, hc, hu⟩

/-- A whole row written at a number that is not known. -/
def stS (hp : List Blk) (n : Nat) (t : T) (new : Row) : Option (List Blk × Bool) :=
  match t with
  | .ptr id row off =>
    match hp[id]? with
    | some (.lst sz rows) =>
      if off = 0 ∧ n = sz ∧ new.length = n ∧ new.all inList = true then some (hp.set id (.lst sz (rows.set row new)), Nat.blt row rows.length && (rows.getD row []).length == n)
      else (store hp n t new).map (·, true)
    | _ => (store hp n t new).map (·, true)
  | _ => (store hp n t new).map (·, true)
theorem stS_eq {hp hp' : List Blk} {n : Nat} {t : T} {new : Row} (h : stS hp n t new = some (hp', true)) : store hp n t new = some hp' := by
  unfold stS at h
  split at h
  · split at h
    · rename_i id row off _ sz rows hb
      split at h
      · rename_i hc
        obtain ⟨rfl, rfl, hn, ha⟩ := hc
        simp only [Option.some.injEq, Prod.mk.injEq, Bool.and_eq_true, beq_iff_eq] at h
        obtain ⟨rfl, h1, h2⟩ := h
        simp only [store, hn, if_true, hb, getD_row h1, ha, and_true, Nat.zero_add, h2, Nat.le_refl]
        congr 4
        simp only [wr, List.take_zero, List.nil_append, Nat.zero_add, hn, ← h2, List.drop_length, List.append_nil]
      · simp only [Option.map_eq_some_iff, Prod.mk.injEq, and_true] at h
        obtain ⟨x, hx, rfl⟩ := h
        exact hx
    · simp only [Option.map_eq_some_iff, Prod.mk.injEq, and_true] at h
      obtain ⟨x, hx, rfl⟩ := h
      exact hx
  · simp only [Option.map_eq_some_iff, Prod.mk.injEq, and_true] at h
    obtain ⟨x, hx, rfl⟩ := h
    exact hx

def exK (Q : Qt) (kd : List (Nat × List Kd)) (ev : Ev) (hp : List Blk) : K → Option ((SV × List Blk) × Bool)
  | .bin _ o x y => (ev x).bind fun v => (asLit v).bind fun v => (ev y).bind fun u => (asLit u).bind fun u => (binS o v u).bind fun r => some ((.one (.lit r.1), hp), r.2)
  | .pick _ c x y => (ev c).bind fun c => (asBool c).bind fun c => (ev x).bind fun v => (ev y).bind fun u => (mergeSV c v u).bind fun v => some ((v, hp), true)
  | .call _ pu f xs => (argCells ev xs).bind fun vs => doCallS Q hp pu f vs
  | .calv _ pu f xs => (ev f).bind fun g => match g with
    | .one (.clo f caps) => (argCells ev xs).bind fun vs => doCallS Q hp pu f (vs ++ caps.map fun c => (.one c, 0, false))
    | _ => none
  | .ia d sz x j => match kdOf d kd with
    | some kds => (ev x).bind fun v => (asOne v).bind fun t => (ev j).bind fun u => (asInt u).bind fun u => (idxS hp sz kds t u.2).bind fun r => some ((r.1, hp), r.2)
    | none => ((K.ia d sz x j).exec Q.val ev hp).map (·, true)
  | .ld d n x => match kdOf d kd with
    | some kds => (ev x).bind fun v => (asOne v).bind fun t => (ldS hp n kds t).bind fun r => some ((r.1, hp), r.2)
    | none => ((K.ld d n x).exec Q.val ev hp).map (·, true)
  | .st n x y => (ev x).bind fun v => (asOne v).bind fun t => (ev y).bind fun u => u.cells.bind fun cs => (stS hp n t cs).bind fun r => some ((.und, r.1), r.2)
  | .app _ by_ sz x y => (ev x).bind fun v => (asOne v).bind fun t => (ev y).bind fun u => (asOne u).bind fun s => appS hp by_ sz t s
  | .len _ x => (ev x).bind fun v => (asOne v).bind fun t => (lenS hp t).bind fun r => some ((.one (I r.1), hp), r.2)
  | .slc _ sz x lo hi => (ev x).bind fun v => (asOne v).bind fun t => (lenS hp t).bind fun n => (bound ev 0 lo).bind fun l => (match hi with | none => some n.1 | some o => bound ev 0 (some o)).bind fun h => (cutS hp sz t n.1 l h).bind fun r => some ((.one r.1, hp), n.2 && r.2)
  | .mks _ by_ z n c => (ev n).bind fun v => (asInt v).bind fun v => (ev c).bind fun u => (asInt u).bind fun u => some (mksS hp by_ z v.2 u.2)
  | k => (k.exec Q.val ev hp).map (·, true)

def EvLe (ev ev' : Ev) : Prop := ∀ x v, ev x = some v → ev' x = some v

theorem fill_le {ev ev' : Ev} (he : EvLe ev ev') : ∀ {ps : List (Nat × Nat × Opd)} {cs r : Row}, fill ev cs ps = some r → fill ev' cs ps = some r
  | [], cs, r, h => h
  | (o, n, x) :: ps, cs, r, h => by
    simp only [fill, Option.bind_eq_some_iff] at h ⊢
    obtain ⟨v, hv, new, hn, h⟩ := h
    refine ⟨v, he _ _ hv, new, hn, ?_⟩
    split at h
    · rename_i hc; rw [if_pos hc]; exact fill_le he h
    · simp at h
theorem fillRows_le {ev ev' : Ev} (he : EvLe ev ev') : ∀ {ps : List (Nat × Opd)} {cs r : List Row}, fillRows ev cs ps = some r → fillRows ev' cs ps = some r
  | [], cs, r, h => h
  | (o, x) :: ps, cs, r, h => by
    simp only [fillRows, Option.bind_eq_some_iff] at h ⊢
    obtain ⟨v, hv, new, hn, h⟩ := h
    refine ⟨v, he _ _ hv, new, hn, ?_⟩
    split at h
    · split at h
      · rename_i hc; rw [if_pos hc]; exact fillRows_le he h
      · simp at h
    · simp at h
theorem argCells_le {ev ev' : Ev} (he : EvLe ev ev') : ∀ {xs : List (Opd × Nat × Bool)} {r : List (SV × Nat × Bool)}, argCells ev xs = some r → argCells ev' xs = some r
  | [], r, h => h
  | (x, n, m) :: xs, r, h => by
    simp only [argCells, Option.bind_eq_some_iff] at h ⊢
    obtain ⟨v, hv, s, hs, h⟩ := h
    exact ⟨v, he _ _ hv, s, argCells_le he hs, h⟩
theorem capsOf_le {ev ev' : Ev} (he : EvLe ev ev') : ∀ {xs : List Opd} {r : List T}, capsOf ev xs = some r → capsOf ev' xs = some r
  | [], r, h => h
  | x :: xs, r, h => by
    simp only [capsOf, Option.bind_eq_some_iff] at h ⊢
    obtain ⟨v, hv, t, ht, h⟩ := h
    refine ⟨v, he _ _ hv, t, ht, ?_⟩
    split at h
    · simp only [Option.bind_eq_some_iff] at h ⊢
      obtain ⟨s, hs, h⟩ := h
      exact ⟨s, capsOf_le he hs, h⟩
    · simp at h
theorem bound_le {ev ev' : Ev} (he : EvLe ev ev') {n : Nat} {o : Option Opd} {r : Int} (h : bound ev n o = some r) : bound ev' n o = some r := by
  cases o with
  | none => exact h
  | some o =>
    simp only [bound, Option.bind_eq_some_iff] at h ⊢
    obtain ⟨v, hv, h⟩ := h
    exact ⟨v, he _ _ hv, h⟩

theorem exec_le {R : Rt} {ev ev' : Ev} (he : EvLe ev ev') {hp : List Blk} {k : K} {r : SV × List Blk} (h : k.exec R ev hp = some r) : k.exec R ev' hp = some r := by
  cases k with
  | mv d x => simp only [K.exec, Option.bind_eq_some_iff] at h ⊢; obtain ⟨v, hv, h⟩ := h; exact ⟨v, he _ _ hv, h⟩
  | pick d c x y =>
    simp only [K.exec, Option.bind_eq_some_iff] at h ⊢
    obtain ⟨v, hv, c, hc, h⟩ := h
    refine ⟨v, he _ _ hv, c, hc, ?_⟩
    split at h
    · simp only [Option.bind_eq_some_iff] at h; obtain ⟨u, hu, h⟩ := h; simp [*, he _ _ hu]
    · simp only [Option.bind_eq_some_iff] at h; obtain ⟨u, hu, h⟩ := h; simp [*, he _ _ hu]
  | alc d z => exact h
  | box d x => simp only [K.exec, Option.bind_eq_some_iff] at h ⊢; obtain ⟨v, hv, h⟩ := h; exact ⟨v, he _ _ hv, h⟩
  | bld d z ps => simp only [K.exec, Option.bind_eq_some_iff] at h ⊢; obtain ⟨v, hv, h⟩ := h; exact ⟨v, fill_le he hv, h⟩
  | bsl d n z ps => simp only [K.exec, Option.bind_eq_some_iff] at h ⊢; obtain ⟨v, hv, h⟩ := h; exact ⟨v, fillRows_le he hv, h⟩
  | ld d n x => simp only [K.exec, Option.bind_eq_some_iff] at h ⊢; obtain ⟨v, hv, h⟩ := h; exact ⟨v, he _ _ hv, h⟩
  | st n x y => simp only [K.exec, Option.bind_eq_some_iff] at h ⊢; obtain ⟨v, hv, t, ht, u, hu, h⟩ := h; exact ⟨v, he _ _ hv, t, ht, u, he _ _ hu, h⟩
  | nilc d x => simp only [K.exec, Option.bind_eq_some_iff] at h ⊢; obtain ⟨v, hv, h⟩ := h; exact ⟨v, he _ _ hv, h⟩
  | bin d o x y => simp only [K.exec, Option.bind_eq_some_iff] at h ⊢; obtain ⟨v, hv, t, ht, u, hu, h⟩ := h; exact ⟨v, he _ _ hv, t, ht, u, he _ _ hu, h⟩
  | bb d n x y => simp only [K.exec, Option.bind_eq_some_iff] at h ⊢; obtain ⟨v, hv, t, ht, u, hu, h⟩ := h; exact ⟨v, he _ _ hv, t, ht, u, he _ _ hu, h⟩
  | eqs d n gs x y => simp only [K.exec, Option.bind_eq_some_iff] at h ⊢; obtain ⟨v, hv, u, hu, h⟩ := h; exact ⟨v, he _ _ hv, u, he _ _ hu, h⟩
  | un d o x => simp only [K.exec, Option.bind_eq_some_iff] at h ⊢; obtain ⟨v, hv, h⟩ := h; exact ⟨v, he _ _ hv, h⟩
  | cv d k x => simp only [K.exec, Option.bind_eq_some_iff] at h ⊢; obtain ⟨v, hv, h⟩ := h; exact ⟨v, he _ _ hv, h⟩
  | mkf d f caps => simp only [K.exec, Option.bind_eq_some_iff] at h ⊢; obtain ⟨v, hv, h⟩ := h; exact ⟨v, capsOf_le he hv, h⟩
  | mks d b z n c => simp only [K.exec, Option.bind_eq_some_iff] at h ⊢; obtain ⟨v, hv, t, ht, u, hu, h⟩ := h; exact ⟨v, he _ _ hv, t, ht, u, he _ _ hu, h⟩
  | slc d sz x lo hi => simp only [K.exec, Option.bind_eq_some_iff] at h ⊢; obtain ⟨v, hv, t, ht, rows, hr, l, hl, u, hu, h⟩ := h; exact ⟨v, he _ _ hv, t, ht, rows, hr, l, bound_le he hl, u, bound_le he hu, h⟩
  | sls d x lo hi =>
    simp only [K.exec, Option.bind_eq_some_iff] at h ⊢
    obtain ⟨v, hv, t, ht, h⟩ := h
    refine ⟨v, he _ _ hv, t, ht, ?_⟩
    split at h
    · simp only [Option.bind_eq_some_iff] at h ⊢
      obtain ⟨l, hl, u, hu, h⟩ := h
      exact ⟨l, bound_le he hl, u, bound_le he hu, h⟩
    · simp at h
  | fa d x o => simp only [K.exec, Option.bind_eq_some_iff] at h ⊢; obtain ⟨v, hv, h⟩ := h; exact ⟨v, he _ _ hv, h⟩
  | fld d x o n => simp only [K.exec, Option.bind_eq_some_iff] at h ⊢; obtain ⟨v, hv, h⟩ := h; exact ⟨v, he _ _ hv, h⟩
  | ia d sz x j => simp only [K.exec, Option.bind_eq_some_iff] at h ⊢; obtain ⟨v, hv, t, ht, u, hu, h⟩ := h; exact ⟨v, he _ _ hv, t, ht, u, he _ _ hu, h⟩
  | ix d x j => simp only [K.exec, Option.bind_eq_some_iff] at h ⊢; obtain ⟨v, hv, t, ht, u, hu, h⟩ := h; exact ⟨v, he _ _ hv, t, ht, u, he _ _ hu, h⟩
  | ext d x j => simp only [K.exec, Option.bind_eq_some_iff] at h ⊢; obtain ⟨v, hv, h⟩ := h; exact ⟨v, he _ _ hv, h⟩
  | call d pu f xs => simp only [K.exec, Option.bind_eq_some_iff] at h ⊢; obtain ⟨v, hv, h⟩ := h; exact ⟨v, argCells_le he hv, h⟩
  | calv d pu f xs =>
    simp only [K.exec, Option.bind_eq_some_iff] at h ⊢
    obtain ⟨v, hv, h⟩ := h
    refine ⟨v, he _ _ hv, ?_⟩
    split at h
    · simp only [Option.bind_eq_some_iff] at h ⊢
      obtain ⟨vs, hvs, h⟩ := h
      exact ⟨vs, argCells_le he hvs, h⟩
    · simp at h
  | len d x => simp only [K.exec, Option.bind_eq_some_iff] at h ⊢; obtain ⟨v, hv, h⟩ := h; exact ⟨v, he _ _ hv, h⟩
  | lens d x => simp only [K.exec, Option.bind_eq_some_iff] at h ⊢; obtain ⟨v, hv, h⟩ := h; exact ⟨v, he _ _ hv, h⟩
  | app d b sz x y => simp only [K.exec, Option.bind_eq_some_iff] at h ⊢; obtain ⟨v, hv, t, ht, u, hu, h⟩ := h; exact ⟨v, he _ _ hv, t, ht, u, he _ _ hu, h⟩
  | cpy d sz x y => simp only [K.exec, Option.bind_eq_some_iff] at h ⊢; obtain ⟨v, hv, t, ht, u, hu, h⟩ := h; exact ⟨v, he _ _ hv, t, ht, u, he _ _ hu, h⟩
  | mm d m x y => simp only [K.exec, Option.bind_eq_some_iff] at h ⊢; obtain ⟨v, hv, t, ht, u, hu, h⟩ := h; exact ⟨v, he _ _ hv, t, ht, u, he _ _ hu, h⟩

/-- An operation that calls nothing hangs on no callee. -/
def noCall : K → Bool
  | .call .. | .calv .. => false
  | _ => true
theorem exec_noCall {R R' : Rt} {ev : Ev} {hp : List Blk} {k : K} (hk : noCall k = true) : k.exec R ev hp = k.exec R' ev hp := by
  cases k <;> first | rfl | simp [noCall] at hk

theorem exK_sound {R : Rt} {Q : Qt} (hQ : QOk R Q) {kd : List (Nat × List Kd)} {ev ev' : Ev} (he : EvLe ev ev') {hp : List Blk} {k : K} {r : SV × List Blk} (h : exK Q kd ev hp k = some (r, true)) : k.exec R ev' hp = some r := by
  refine exec_le he ?_
  unfold exK at h
  split at h
  · simp only [Option.bind_eq_some_iff, Option.some.injEq, Prod.mk.injEq, K.exec] at h ⊢
    obtain ⟨v, hv, t, ht, u, hu, s, hs, q, hq, h1, h2⟩ := h
    refine ⟨v, hv, t, ht, u, hu, s, hs, q.1, binS_eq (by rw [hq, ← h2]), h1⟩
  · simp only [Option.bind_eq_some_iff, Option.some.injEq, Prod.mk.injEq, K.exec] at h ⊢
    obtain ⟨c, hc, b, hb, v, hv, u, hu, m, hm, h1, -⟩ := h
    refine ⟨c, hc, b, hb, ?_⟩
    rw [← h1, mergeSV_eq hm]
    cases b <;> simp [hv, hu]
  · simp only [Option.bind_eq_some_iff, Option.some.injEq, Prod.mk.injEq, K.exec] at h ⊢
    obtain ⟨vs, hvs, h⟩ := h
    exact ⟨vs, hvs, doCallS_sound hQ h⟩
  · simp only [Option.bind_eq_some_iff, K.exec] at h ⊢
    obtain ⟨g, hg, h⟩ := h
    refine ⟨g, hg, ?_⟩
    split at h
    · simp only [Option.bind_eq_some_iff, Option.some.injEq, Prod.mk.injEq] at h ⊢
      obtain ⟨vs, hvs, h⟩ := h
      exact ⟨vs, hvs, doCallS_sound hQ h⟩
    · simp at h
  · split at h
    · simp only [Option.bind_eq_some_iff, Option.some.injEq, Prod.mk.injEq, K.exec] at h ⊢
      obtain ⟨v, hv, t, ht, u, hu, w, hw, q, hq, h1, h2⟩ := h
      exact ⟨v, hv, t, ht, u, hu, w, hw, q.1, idxS_eq (by rw [hq, ← h2]), h1⟩
    · simp only [Option.map_eq_some_iff, Prod.mk.injEq, and_true] at h
      obtain ⟨q, hq, rfl⟩ := h
      rw [exec_noCall (R' := Q.val) rfl]
      exact hq
  · split at h
    · simp only [Option.bind_eq_some_iff, Option.some.injEq, Prod.mk.injEq, K.exec] at h ⊢
      obtain ⟨v, hv, t, ht, q, hq, h1, h2⟩ := h
      have := ldS_eq (v := q.1) (by rw [hq, ← h2])
      simp only [Option.bind_eq_some_iff] at this
      obtain ⟨cs, hc, hs⟩ := this
      exact ⟨v, hv, t, ht, cs, hc, q.1, hs, h1⟩
    · simp only [Option.map_eq_some_iff, Prod.mk.injEq, and_true] at h
      obtain ⟨q, hq, rfl⟩ := h
      rw [exec_noCall (R' := Q.val) rfl]
      exact hq
  · simp only [Option.bind_eq_some_iff, Option.some.injEq, Prod.mk.injEq, K.exec] at h ⊢
    obtain ⟨v, hv, t, ht, u, hu, cs, hc, q, hq, h1, h2⟩ := h
    exact ⟨v, hv, t, ht, u, hu, cs, hc, q.1, stS_eq (by rw [hq, ← h2]), h1⟩
  · simp only [Option.bind_eq_some_iff] at h
    obtain ⟨v, hv, t, ht, u, hu, s, hs, h⟩ := h
    exact appS_eq hv ht hu hs h
  · simp only [Option.bind_eq_some_iff, Option.some.injEq, Prod.mk.injEq, K.exec] at h ⊢
    obtain ⟨v, hv, t, ht, n, hn, h1, h2⟩ := h
    obtain ⟨rows, hr, hl⟩ := lenS_eq (n := n.1) (by rw [hn, ← h2])
    exact ⟨v, hv, t, ht, rows, hr, by rw [hl, h1]⟩
  · rename_i d sz x lo hi
    simp only [Option.bind_eq_some_iff, Option.some.injEq, Prod.mk.injEq, K.exec] at h ⊢
    obtain ⟨v, hv, t, ht, n, hn, l, hl, hh, hb, q, hq, h1, h2⟩ := h
    obtain ⟨o1, o2⟩ := and_t h2
    obtain ⟨rows, hr, hlen⟩ := lenS_eq (n := n.1) (by rw [hn, ← o1])
    refine ⟨v, hv, t, ht, rows, hr, l, hl, hh, ?_, q.1, cutS_eq hlen (by rw [hq, ← o2]), h1⟩
    cases hi with
    | none => simp only [bound, hlen]; exact hb
    | some o => exact hb
  · simp only [Option.bind_eq_some_iff, Option.some.injEq] at h
    obtain ⟨v, hv, k, hk, u, hu, k', hk', h⟩ := h
    exact mksS_eq (k := k.1) (nn := k.2) (k' := k'.1) (cc := k'.2) hv hk hu hk' h
  · simp only [Option.map_eq_some_iff, Prod.mk.injEq, and_true] at h
    obtain ⟨q, hq, rfl⟩ := h
    have hk : noCall k = true := by
      cases k with
      | call d pu f xs => cases pu <;> simp_all
      | calv d pu f xs => cases pu <;> simp_all
      | _ => rfl
    rw [exec_noCall (R' := Q.val) hk]
    exact hq

/-- The heap stays as it is. -/
def quietK : K → Bool
  | .alc .. | .box .. | .bsl .. | .st .. | .mks .. | .app .. | .cpy .. => false
  | .call _ pu _ _ | .calv _ pu _ _ => pu
  | _ => true
theorem doCall_calm {R : Rt} {hp : List Blk} {f : FuncId} {vs : List (SV × Nat × Bool)} {r : SV × List Blk} (h : doCall R hp true f vs = some r) : r.2 = hp := by
  simp only [doCall, if_true, Option.bind_eq_some_iff] at h
  obtain ⟨_, _, _, _, _, _, h⟩ := h
  split at h
  · obtain rfl := Option.some.inj h; rfl
  · simp at h
def Calm (hp : List Blk) (o : Option (SV × List Blk)) : Prop := ∀ r, o = some r → r.2 = hp
theorem calm_bind {α : Type} {hp : List Blk} {o : Option α} {f : α → Option (SV × List Blk)} (h : ∀ v, Calm hp (f v)) : Calm hp (o.bind f) := fun r hr => by
  simp only [Option.bind_eq_some_iff] at hr
  obtain ⟨v, _, hv⟩ := hr
  exact h v r hv
theorem calm_some {hp : List Blk} {v : SV} : Calm hp (some (v, hp)) := fun r hr => by
  obtain rfl := Option.some.inj hr
  rfl
theorem calm_none {hp : List Blk} : Calm hp none := fun r hr => by simp at hr
theorem exec_calm {R : Rt} {ev : Ev} {hp : List Blk} {k : K} {r : SV × List Blk} (hk : quietK k = true) (h : k.exec R ev hp = some r) : r.2 = hp := by
  have : Calm hp (k.exec R ev hp) := by
    cases k <;> simp only [quietK, Bool.false_eq_true] at hk
    case call d pu f xs =>
      subst hk
      exact calm_bind fun vs r hr => doCall_calm hr
    case calv d pu f xs =>
      subst hk
      refine calm_bind fun g => ?_
      split
      · exact calm_bind fun vs r hr => doCall_calm hr
      · exact calm_none
    all_goals
      unfold K.exec
      repeat (first | exact calm_some | exact calm_none | (refine calm_bind fun _ => ?_) | split)
  exact this r h
end Go.Zq
