/- slices.Clone: a list of its own with what the slice reads. -/
import Derived.Test.YtilfpkfifdhhdaaZqTab
set_option linter.unusedVariables false
set_option linter.unusedSimpArgs false
namespace Go.Zq
open Go

theorem run_eq_nil {P : Program} (w : World) (d : Nat) (t e : TypeId) (a : Option Addr) (l c : Nat) (h : P.underlying t = some (.slice e)) : (Op.equalIn (d + 1) t (.slice a l c) (.slice none 0 0)).run P w = .ok a.isNone w := by
  unfold Op.equalIn
  simp only [Sem.run_bind, run_underlying h, Result.andThen_ok]
  cases a <;> rfl

def cloneN (p : Bool) (n : Nat) (rows : List Row) : List (Nat × SV) := [(2, .one (.nls n)), (0, .one (.imm p n rows))]

theorem x_run (R : Rt) {p : Bool} {n k : Nat} {rows : List Row} {b : Bool} : evc R 0 k (.seq (.ops [(none, .mv 2 (.c (.one (.nls n))))] none) .ret) ⟨(4, .one (B b)) :: (3, .one (.imm p n rows)) :: cloneN p n rows, []⟩ =
    some (.ret ⟨(2, .one (.nls n)) :: (4, .one (B b)) :: (3, .one (.imm p n rows)) :: cloneN p n rows, []⟩) := by
  simp only [evc, runGs, runG, K.run, K.exec, St.ev, Option.bind_some, setD, K.dst, St.set, trim]
theorem b_run (R : Rt) {p : Bool} {n k by_ : Nat} {z : Row} {rows : List Row} {b : Bool} (hz : z.length = n) (h1 : rows.length * by_ ≤ room) (h2 : rows.length ≤ room) :
    evc R 0 k (.seq (.ops [(none, .bsl 5 0 z []), (none, .mv 6 (.t 0)), (none, .app 7 by_ n (.t 5) (.t 6)), (none, .mv 2 (.t 7))] none) .ret) ⟨(4, .one (B b)) :: (3, .one (.imm p n rows)) :: cloneN p n rows, []⟩ =
    some (.ret ⟨(2, .one (.sl 1 0 rows.length)) :: (7, .one (.sl 1 0 rows.length)) :: (6, .one (.imm p n rows)) :: (5, .one (.sl 0 0 0)) :: (4, .one (B b)) :: (3, .one (.imm p n rows)) :: cloneN p n rows, [.dead, .lst n rows]⟩) := by
  simp [evc, runGs, runG, K.run, K.exec, St.ev, setD, K.dst, St.set, trim, fillRows, lookup, cloneN, asOne, rowsOf, tail?, szOf, killT, hz, h1, h2]
theorem leave_nil {σ : St} {n : Nat} (hh : σ.hp = []) : leave 0 σ [.one (.nls n)] = some (.one (.sl 0 0 0), [.lst n []]) := by
  simp [leave, svCells, parBoxes, gather, closeB, visB, visP, visL, hh, srcOk, allApart, okSrc, boxesOf, notBox, apart, renBlks, szOf, rowsOf, renRes, ren, findN]
theorem leave_one {σ : St} {n : Nat} {rows : List Row} (hh : σ.hp = [.dead, .lst n rows]) : leave 0 σ [.one (.sl 1 0 rows.length)] = some (.one (.sl 0 0 rows.length), [.lst n rows]) := by
  simp [leave, svCells, parBoxes, gather, closeB, visB, visP, visL, addS, hh, srcOk, allApart, okSrc, boxesOf, notBox, apart, renBlks, szOf, rowsOf, renRes, ren, findL]

/-- What is asked of the function's text. -/
structure CloneSh (P : Program) (f : FuncId) (n by_ : Nat) where
  fn : Func
  h : Hint
  q : Array Oper → List Nat → List G → Bool
  dr : DrawSound1 P q
  t : TypeId
  e : TypeId
  z : Row
  x : Code
  y : Code
  i0 : Nat
  i1 : Nat
  ops0 : Array Oper
  o1 : Oper
  o2 : Oper
  hf : P.funcs[f]? = some fn
  hname : (fn.name == "runtime.NumGoroutine") = false
  hb : fn.body = some (.seq (.region i0 ops0 false) (.seq (.seq (.region i1 #[o1, o2] false) (.cond (.tmp 4) x .skip)) y))
  hn : fn.ntmps = 8
  hr : fn.results = #[.tmp 2]
  hA : compC P 8 h q (.region i0 ops0 false) = some (.ops [(none, .mv 2 (.c (.one (.nls n))))] none)
  ho1 : compO P 8 h.md false #[o1, o2] o1 = some (none, .mv 3 (.t 0))
  ho2 : o2.op = .binOp .eql t (.tmp 3) (.const (.slice none 0 0)) t
  hd2 : o2.dst = some 4
  hg2 : o2.guard = none
  ht : P.underlying t = some (.slice e)
  hx : compC P 8 h q x = some (.seq (.ops [(none, .mv 2 (.c (.one (.nls n))))] none) .ret)
  hz : z.length = n
  hy : compC P 8 h q y = some (.seq (.ops [(none, .bsl 5 0 z []), (none, .mv 6 (.t 0)), (none, .app 7 by_ n (.t 5) (.t 6)), (none, .mv 2 (.t 7))] none) .ret)

theorem clone_tc {P : Program} {R : Rt} (hR : Sound P R) (hord : OrdSound P) {f : FuncId} {n by_ : Nat} (s : CloneSh P f n by_) {p : Bool} {rows : List Row} (h1 : rows.length * by_ ≤ room) (h2 : rows.length ≤ room) :
    TC P f [.one (.imm p n rows)] [] (.one (.sl 0 0 rows.length)) [.lst n rows] := by
  obtain ⟨fn, h, q, dr, t, e, z, x, y, i0, i1, ops0, o1, o2, hf, hname, hb, hn, hr, hA, ho1, ho2, hd2, hg2, ht, hx, hz, hy⟩ := s
  intro w ρ S us hent
  have hdr : DrawSound P q := ⟨dr, hord⟩
  have hsim := hent.sim (N := 8) (by simp)
  have hS : startSl 0 [SV.one (T.imm p n rows)] = [(0, .one (.imm p n rows))] := rfl
  have hN : hpBoxes [] = 0 := rfl
  rw [hS, hN] at hsim
  have fin : ∀ (σ : St) (v : SV) (ρ1 : Rho) (S1 : Rds) (a1 : Act) (w1 : World), Sim w (wOf [] ρ) S ρ 0 8 ρ1 S1 σ a1 w1 → lookup 2 σ.sl = some v → leave 0 σ [v] = some (.one (.sl 0 0 rows.length), [.lst n rows]) →
      bodyPost P fn (fun | .returned u, w' => Exit w (wOf [] ρ) S ρ (hpBoxes []) (.one (.sl 0 0 rows.length)) [.lst n rows] u w' | _, _ => False) .ret a1 w1 := by
    intro σ v ρ1 S1 a1 w1 hs hv hl
    have hrs : compR P 8 fn.results.toList = some [.tmp 2] := by rw [hr]; rfl
    obtain ⟨us1, k1, k2, k3⟩ := run_result (P := P) hs fn.results.toList _ hrs [v] (by simp [resVals, hv])
    refine ⟨hs.defers, _, ?_, hs.leave k2 k3 hl⟩
    rw [results_eq]
    simp only [Array.mapM_eq_mapM_toList, Sem.run_bind, Sem.run_map, k1]
    match us1 with
    | [] => rfl
    | [u] => rfl
    | x :: y :: r => rfl
  refine calls_of_wp hf hb ?_
  rw [hn]
  refine wp_seq (wp_mono (c_sound hR hdr (n := 1) _ _ hA _ _ _ _ _ (.nor ⟨cloneN p n rows, []⟩) hsim (by simp only [evc, runGs, runG, K.run, K.exec, St.ev, Option.bind_some, setD, K.dst, St.set, trim, cloneN])) fun ex a1 w1 hp => ?_)
  cases ex with
  | normal =>
    obtain ⟨σ1, ρ1, S1, e1, hs1⟩ := hp
    obtain rfl := Out.nor.inj e1
    refine wp_seq (wp_seq (wp_region ?_))
    show wpOps P #[o1, o2] _ [0, 1] a1 w1
    simp only [wpOps]
    refine g_sound hR hs1 ho1 (σ' := ⟨(3, .one (.imm p n rows)) :: cloneN p n rows, []⟩) (by simp [runG, K.run, K.exec, St.ev, setD, K.dst, St.set, lookup, cloneN]) fun ρ2 S2 a2 w2 hs2 => ?_
    have h3 : RS ρ2 w2 S2 (.one (.imm p n rows)) (a2.tmps.getD 3 undef) := (hs2.slots 3 _ (by simp [lookup])).2
    have hval : ∃ ad l c, a2.tmps.getD 3 undef = .slice ad l c ∧ (ad.isNone = true → rows = []) := by
      generalize a2.tmps.getD 3 undef = v at h3
      cases h3 with
      | one h => cases h with
        | ri h => cases h with
          | nil => exact ⟨_, _, _, rfl, fun _ => rfl⟩
          | imm => exact ⟨_, _, _, rfl, fun h => by simp at h⟩
    obtain ⟨ad, l, c, hv, hnil⟩ := hval
    have hdo : Does P w (wOf [] ρ) S ρ 0 8 ⟨(3, .one (.imm p n rows)) :: cloneN p n rows, []⟩ a2 w2 o2 (.one (B ad.isNone)) [] := by
      refine does_same hs2 (u := .bool ad.isNone) ?_ .bool
      simp only [execOp, ho2, Sem.run_bind]
      have e3 : a2.eval (.tmp 3) = .slice ad l c := hv
      have e4 : a2.eval (.const (.slice none 0 0)) = .slice none 0 0 := rfl
      rw [e3, e4]
      have hg : (eqGuard .eql t (.tmp 3) (.const (.slice none 0 0)) (.slice ad l c) (.slice none 0 0)).run P w2 = .ok () w2 := rfl
      have he : (Op.equal t (.slice ad l c) (.slice none 0 0)).run P w2 = .ok ad.isNone w2 := run_eq_nil w2 9999 t e ad l c ht
      simp [Go.binOp, he, hg]
    have hwant : Region.wanted o2 (yielded #[o1, o2] a2.tmps) := by simp [Region.wanted, hg2]
    show if Region.wanted o2 (yielded #[o1, o2] a2.tmps) then _ else _
    rw [if_pos hwant]
    refine .inl (OpDone.of_does hs2 hd2 (by decide) hdo _ _ fun ρ3 S3 a3 w3 hs3 => ?_)
    have hc : a3.eval (.tmp 4) = .bool ad.isNone := asBool_sound (hs3.slots 4 (.one (B ad.isNone)) (by simp [setD, St.set, lookup])).2 rfl
    show (Code.cond (.tmp 4) x .skip).wp P _ a3 w3
    refine wp_cond hc ?_
    cases hb : ad.isNone with
    | true =>
      rw [hb] at hs3
      simp only [if_true]
      refine wp_mono (c_sound hR hdr (n := 1) _ _ hx _ _ _ _ _ _ hs3 (x_run R)) fun ex a4 w4 hp4 => ?_
      cases ex with
      | ret =>
        obtain ⟨σ4, ρ4, S4, e4, hs4⟩ := hp4
        obtain rfl := Out.ret.inj e4
        have := hnil hb
        subst this
        exact fin _ (.one (.nls n)) ρ4 S4 a4 w4 hs4 (by simp [lookup]) (leave_nil rfl)
      | normal => obtain ⟨_, _, _, e4, _⟩ := hp4; simp at e4
      | exit id => obtain ⟨_, _, _, e4, _⟩ := hp4; simp at e4
      | goto l => exact hp4.elim
      | panic ch => exact hp4.elim
      | outgrown => exact hp4.elim
    | false =>
      rw [hb] at hs3
      refine wp_skip ?_
      show y.wp P _ a3 w3
      refine wp_mono (c_sound hR hdr (n := 1) _ _ hy _ _ _ _ _ _ hs3 (b_run R hz h1 h2)) fun ex a4 w4 hp4 => ?_
      cases ex with
      | ret =>
        obtain ⟨σ4, ρ4, S4, e4, hs4⟩ := hp4
        obtain rfl := Out.ret.inj e4
        exact fin _ (.one (.sl 1 0 rows.length)) ρ4 S4 a4 w4 hs4 (by simp [lookup]) (leave_one rfl)
      | normal => obtain ⟨_, _, _, e4, _⟩ := hp4; simp at e4
      | exit id => obtain ⟨_, _, _, e4, _⟩ := hp4; simp at e4
      | goto l => exact hp4.elim
      | panic ch => exact hp4.elim
      | outgrown => exact hp4.elim
  | exit id => obtain ⟨_, _, _, e1, _⟩ := hp; simp at e1
  | ret => obtain ⟨_, _, _, e1, _⟩ := hp; simp at e1
  | goto l => exact hp.elim
  | panic ch => exact hp.elim
  | outgrown => exact hp.elim

/-- The contract. -/
def cloneE (n by_ : Nat) : List SV → List Blk → Option (SV × List Blk)
  | [.one (.imm _ m rows)], [] => if m = n ∧ rows.length * by_ ≤ room ∧ rows.length ≤ room then some (.one (.sl 0 0 rows.length), [.lst n rows]) else none
  | _, _ => none
def extOf : List (FuncId × Nat × Nat) → Rt
  | [], _, _, _ => none
  | (g, n, b) :: r, f, args, hp => if g = f then cloneE n b args hp else extOf r f args hp
theorem ext_nil (P : Program) : Sound P (extOf []) := fun _ _ _ _ _ h => by simp [extOf] at h
theorem ext_cons {P : Program} (hm : P.follows .mixedOrders = true) {f : FuncId} {n by_ : Nat} (s : CloneSh P f n by_) {r : List (FuncId × Nat × Nat)} (hr : Sound P (extOf r)) : Sound P (extOf ((f, n, by_) :: r)) := fun g args hp res hp' h => by
  unfold extOf at h
  split at h
  · rename_i e
    subst e
    unfold cloneE at h
    split at h
    · rename_i p m rows
      obtain ⟨⟨rfl, h1, h2⟩, h3⟩ := of_ite h
      simp only [Option.some.injEq, Prod.mk.injEq] at h3
      obtain ⟨rfl, rfl⟩ := h3
      exact ⟨⟨_, _, s.hf, s.hb, s.hname⟩, clone_tc (sound_none P) (ord_sound hm) s h1 h2⟩
    · simp at h
  · exact hr g args hp res hp' h

end Go.Zq
