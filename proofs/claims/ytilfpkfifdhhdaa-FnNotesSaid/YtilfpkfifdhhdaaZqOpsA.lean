/- make, literals of slices and of structs. -/
import Derived.Test.YtilfpkfifdhhdaaZqOps9
set_option linter.unusedVariables false
set_option linter.unusedSimpArgs false
namespace Go.Zq
open Go

section
variable {P : Program} {w0 : World} {W : Nat → Nat → Prop} {S0 : Rds} {ρ0 : Rho} {nb N : Nat} {ρ : Rho} {S : Rds} {σ : St} {a : Act} {w : World}

theorem litCell_in {c : Option Nat} {v : Value} {t : T} (h : litCell c v = some t) : inList t = true := by
  unfold litCell at h
  split at h
  · obtain rfl := Option.some.inj h; rfl
  · obtain ⟨h1, h2⟩ := of_ite h
    obtain rfl := Option.some.inj h2
    exact h1
  · simp at h

theorem litRow_in : ∀ {cs : List (Option Nat)} {vs : List Value} {r : Row}, litRow cs vs = some r → r.all inList = true
  | [], [], r, h => by
    simp only [litRow, Option.some.injEq] at h
    subst h
    rfl
  | c :: cs, v :: vs, r, h => by
    simp only [litRow, Option.bind_eq_some_iff, Option.some.injEq] at h
    obtain ⟨t, ht, r', hr, rfl⟩ := h
    simp [litCell_in ht, litRow_in hr]
  | [], _ :: _, _, h => by simp [litRow] at h
  | _ :: _, [], _, h => by simp [litRow] at h

theorem zeroRow_in {t : TypeId} {z : Row} (h : zeroRow P t = some z) : z.all inList = true := by
  unfold zeroRow at h
  simp only [Option.bind_eq_some_iff] at h
  obtain ⟨x, hx, zv, hz, cs, -, h⟩ := h
  exact litRow_in (of_ite h).2

/-- Cells that stand for cells. -/
def CR (ρ : Rho) (w : World) (S : Rds) (cs : Row) (arr : Array Value) : Prop :=
  cs.length = arr.size ∧ ∀ (k : Nat) (t : T), cs[k]? = some t → ∃ u, arr[k]? = some u ∧ RT ρ w S t u

theorem madeCells_flat {e : TypeId} {z : Row} (hz : zeroRow P e = some z) {x : TypeInfo} {zv : Value} (hx : P.info? e = some x) (hzv : x.zero = some zv) (n : Nat) {m : Nat} (hm : n ≤ m) :
    ∀ (j k : Nat) (t : T), ((List.replicate n z)[j]?).bind (·[k]?) = some t → ∃ u, (madeCells zv.cells (m * x.size))[j * x.size + k]? = some u ∧ RT ρ w S t u := by
  intro j k t ht
  obtain ⟨x', zv', h1, h2, h3, h4, h5⟩ := zeroRow_spec hz
  obtain rfl : x = x' := by rw [hx] at h1; exact Option.some.inj h1
  obtain rfl : zv = zv' := by rw [hzv] at h2; exact Option.some.inj h2
  obtain ⟨r, hr, hk⟩ := bind_get ht
  have hj : j < n := by have := (List.getElem?_eq_some_iff.1 hr).1; simpa using this
  obtain rfl : z = r := by simpa [List.getElem?_replicate, hj] using hr
  obtain ⟨u, hu, hru⟩ := h5 (ρ := ρ) (w := w) (S := S) k t hk
  have hkl := (List.getElem?_eq_some_iff.1 hk).1
  have hlt : j * x.size + k < m * x.size := by
    have := Nat.mul_le_mul_right x.size (show j + 1 ≤ m by omega)
    rw [Nat.add_mul] at this
    omega
  refine ⟨u, ?_, hru⟩
  have hmod : (j * x.size + k) % zv.cells.size = k := by
    rw [h3, Nat.add_comm, Nat.mul_comm, Nat.add_mul_mod_self_left]
    exact Nat.mod_eq_of_lt (by omega)
  have hku : k < zv.cells.size := by omega
  have hu' : zv.cells[k]! = u := by
    rw [getElem!_pos zv.cells k hku]
    exact (Array.getElem?_eq_some_iff.1 hu).2
  simp [madeCells, hlt, hmod, hu']

theorem does_mks (h : Sim w0 W S0 ρ0 nb N ρ S σ a w) {o : Oper} {t e : TypeId} {i : TypeInfo} {n c : Operand} (ho : o.op = .makeSlice t n c) (ht : P.underlying t = some (.slice e)) {z : Row} (hz : zeroRow P e = some z)
    (hi : P.info? e = some i) (hpos : 0 < z.length) {kn kc : IntKind} {vn vc : Int} (hn : a.eval n = .int kn vn) (hc : a.eval c = .int kc vc) (h0 : 0 ≤ vn) (h1 : vn ≤ vc) (h2 : vc * i.bytes ≤ room) (h3 : vc ≤ room) :
    Does P w0 W S0 ρ0 nb N σ a w o (.one (.sl σ.hp.length 0 vn.toNat)) (σ.hp ++ [.lst z.length (List.replicate vn.toNat z)]) := by
  obtain ⟨x, zv, k1, k2, k3, k4, -⟩ := zeroRow_spec hz
  obtain rfl : i = x := by rw [hi] at k1; exact Option.some.inj k1
  unfold room at h2 h3
  have hrun := run_make (P := P) w t e i zv ht hi k2 kn kc vn vc h0 h1 (by rw [Int.mul_comm]; omega) (by omega)
  have hsz : (madeCells zv.cells (vc.toNat * i.size)).size = vc.toNat * i.size := size_madeCells _ _
  refine ⟨.slice (some ⟨w.heap.size, 0, none⟩) vn.toNat vc.toNat, _, _, S, ?_, h.push (madeCells zv.cells (vc.toNat * i.size)) e (.lst z.length (List.replicate vn.toNat z)) (by simp) z.length true
    ⟨rfl, rfl, hpos, ?_, fun r hr => by rw [(List.mem_replicate.1 hr).2], fun r hr => by rw [(List.mem_replicate.1 hr).2]; exact zeroRow_in hz, ?_⟩, .one ?_⟩
  · simp only [execOp, ho, hn, hc]
    simp [hrun]
  · rw [hsz, k4, List.length_replicate]
    exact Nat.mul_le_mul_right _ (by omega)
  · rw [k4]
    exact madeCells_flat hz hi k2 vn.toNat (by omega)
  · have := RT.sl (S := S) (id := σ.hp.length) (off := 0) (len := vn.toNat) (cap := vc.toNat) (a := ⟨w.heap.size, 0, none⟩) (L := ⟨w.heap.size, 0, z.length, true⟩)
      (ρ := fun j => if j = σ.hp.length then some ⟨w.heap.size, 0, z.length, true⟩ else ρ j) (w := { w with heap := w.heap.push (.cells (madeCells zv.cells (vc.toNat * i.size)) e) }) (e := e) (n := vc.toNat * i.size)
      (if_pos rfl) (by omega) (by simp [World.shape?, hsz]) (.inr ⟨by simp, by simp [k4]⟩)
    exact this

/-- Cells set one by one. -/
theorem foldl_set (off : Nat) : ∀ (l : List Value) (i : Nat) (arr : Array Value) (k : Nat),
    (((l.zipIdx i).foldl (fun cs x => cs.setIfInBounds (off + x.2) x.1) arr).size = arr.size) ∧
    ((l.zipIdx i).foldl (fun cs x => cs.setIfInBounds (off + x.2) x.1) arr)[k]? = if off + i ≤ k ∧ k < off + i + l.length ∧ k < arr.size then l[k - (off + i)]? else arr[k]? := by
  intro l
  induction l with
  | nil => intro i arr k; simp; omega
  | cons v l ih =>
    intro i arr k
    obtain ⟨h1, h2⟩ := ih (i + 1) (arr.setIfInBounds (off + i) v) k
    simp only [List.zipIdx_cons, List.foldl_cons]
    refine ⟨by rw [h1]; simp, ?_⟩
    rw [h2]
    simp only [Array.size_setIfInBounds, List.length_cons]
    by_cases c1 : off + (i + 1) ≤ k ∧ k < off + (i + 1) + l.length ∧ k < arr.size
    · rw [if_pos c1, if_pos (by omega)]
      obtain ⟨j, rfl⟩ : ∃ j, k = off + (i + 1) + j := ⟨k - (off + (i + 1)), by omega⟩
      rw [show off + (i + 1) + j - (off + (i + 1)) = j by omega, show off + (i + 1) + j - (off + i) = j + 1 by omega, List.getElem?_cons_succ]
    · rw [if_neg c1, Array.getElem?_setIfInBounds]
      by_cases c2 : off + i = k
      · subst c2
        by_cases c3 : off + i < arr.size
        · rw [if_pos rfl, if_pos c3, if_pos (by omega)]; simp
        · rw [if_pos rfl, if_neg c3, if_neg (by omega), Array.getElem?_eq_none (by omega)]
      · rw [if_neg c2, if_neg (by omega)]

/-- What 'fill' puts in. -/
def put (cells : Array Value) (off : Nat) (v : Value) : Array Value := v.cells.zipIdx.foldl (fun cs (c, j) => cs.setIfInBounds (off + j) c) cells

theorem put_spec (cells : Array Value) (off : Nat) (v : Value) (h : off + v.cells.size ≤ cells.size) :
    (put cells off v).size = cells.size ∧ ∀ k : Nat, (put cells off v)[k]? = if off ≤ k ∧ k < off + v.cells.size then v.cells[k - off]? else cells[k]? := by
  have e : put cells off v = ((v.cells.toList.zipIdx 0).foldl (fun cs x => cs.setIfInBounds (off + x.2) x.1) cells) := by
    unfold put
    rw [← Array.foldl_toList, Array.toList_zipIdx]
  rw [e]
  refine ⟨(foldl_set off v.cells.toList 0 cells 0).1, fun k => ?_⟩
  rw [(foldl_set off v.cells.toList 0 cells k).2]
  simp only [Nat.add_zero, Array.length_toList, Array.getElem?_toList]
  by_cases c : off ≤ k ∧ k < off + v.cells.size
  · rw [if_pos c, if_pos (by omega)]
  · rw [if_neg c, if_neg (by omega)]

theorem CR.put {cs : Row} {cells : Array Value} (h : CR ρ w S cs cells) {off : Nat} {v : Value} {new : Row} (hn : CR ρ w S new v.cells) (hle : off + new.length ≤ cs.length) :
    CR ρ w S (wr cs off new) (Zq.put cells off v) := by
  obtain ⟨h1, h2⟩ := h
  obtain ⟨n1, n2⟩ := hn
  obtain ⟨p1, p2⟩ := put_spec cells off v (by omega)
  refine ⟨by rw [wr_length hle, p1, h1], fun k t ht => ?_⟩
  rw [wr_get hle] at ht
  rw [p2]
  split at ht
  · rename_i c
    rw [if_pos (by omega)]
    exact n2 _ t ht
  · rename_i c
    rw [if_neg (by omega)]
    exact h2 k t ht

theorem fill_sound (h : Sim w0 W S0 ρ0 nb N ρ S σ a w) {fs : Array Field} : ∀ (l : List (Nat × Operand)) (ps : List (Nat × Nat × Opd)), bldParts P N fs l = some ps → ∀ (cs r : Row) (cells : Array Value), CR ρ w S cs cells →
    Zq.fill σ.ev cs ps = some r → ∀ place : Nat → Option (Nat × Nat), (∀ (j : Nat) (f : Field) (n : Nat), fs[j]? = some f → sizeT P f.type = some n → place j = some (f.offset, n)) →
    ∃ arr, Instr.fill place cells (l.map fun (i, x) => (i, a.eval x)) = some arr ∧ CR ρ w S r arr := by
  intro l
  induction l with
  | nil =>
    intro ps hps cs r cells hcr hf place _
    obtain rfl := by simpa [bldParts] using hps
    obtain rfl := by simpa [Zq.fill] using hf
    exact ⟨cells, rfl, hcr⟩
  | cons p l ih =>
    intro ps hps cs r cells hcr hf place hpl
    obtain ⟨j, x⟩ := p
    simp only [bldParts, Option.bind_eq_some_iff, Option.some.injEq] at hps
    obtain ⟨f, hfj, n, hn, y, hy, ps', hps', rfl⟩ := hps
    simp only [Zq.fill, Option.bind_eq_some_iff] at hf
    obtain ⟨v, hv, new, hnew, hf⟩ := hf
    obtain ⟨⟨hl, hle⟩, hf1⟩ := of_ite hf
    have hrs := ev_sound h hy hv
    have hcn := hrs.cells hnew
    have hs : (a.eval x).cells.size = n := by rw [← hcn.1]; exact hl
    obtain ⟨arr, ha, hra⟩ := ih ps' hps' _ r _ (hcr.put hcn (by omega)) hf1 place hpl
    refine ⟨arr, ?_, hra⟩
    have hcs := hcr.1
    simp only [List.map_cons, Instr.fill, hpl j f n hfj hn]
    rw [if_neg (by simp; omega)]
    exact ha

end
end Go.Zq
