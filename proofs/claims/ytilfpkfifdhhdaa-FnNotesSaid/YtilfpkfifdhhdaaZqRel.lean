/- What the abstract machine's values and heap say of the model's world. -/
import Derived.Test.YtilfpkfifdhhdaaZqDef
set_option linter.unusedVariables false
set_option linter.unusedSimpArgs false
namespace Go.Zq
open Go

structure Loc where
  blk : Nat
  base : Nat
  sz : Nat
  whole : Bool

abbrev Rho := Nat → Option Loc
abbrev Rds := Bool → Nat → Prop

/-- A cell that nobody writes. -/
inductive RI (w : World) (S : Rds) : T → Value → Prop
  | lit {v : Value} (h : litOk v = true) : RI w S (.lit v) v
  | nls {n : Nat} : RI w S (.nls n) (.slice none 0 0)
  | nil {p : Bool} {sz : Nat} {a : Option Addr} {cap : Nat} : RI w S (.imm p sz []) (.slice a 0 cap)
  | imm {p : Bool} {rows : List Row} {b off cap sz : Nat} {g : Nat → Nat → Value} (hS : S p b) (hcap : rows.length ≤ cap) (hsz : ∀ r ∈ rows, r.length = sz) (hin : ∀ r ∈ rows, r.all inList = true)
      (hg : ∀ (j k : Nat) (t : T), (rows[j]?).bind (·[k]?) = some t → w.cell? ⟨b, off + j * sz + k, none⟩ = some (g j k))
      (h : ∀ (j k : Nat) (t : T), (rows[j]?).bind (·[k]?) = some t → RI w S t (g j k)) : RI w S (.imm p sz rows) (.slice (some ⟨b, off, none⟩) rows.length cap)

/-- A cell. -/
inductive RT (ρ : Rho) (w : World) (S : Rds) : T → Value → Prop
  | ri {t : T} {v : Value} (h : RI w S t v) : RT ρ w S t v
  | ptr {id row off : Nat} {L : Loc} (h : ρ id = some L) : RT ρ w S (.ptr id row off) (.pointer (some ⟨L.blk, L.base + row * L.sz + off, none⟩))
  | nil {id off : Nat} : RT ρ w S (.sl id off 0) (.slice none 0 0)
  | sl {id off len cap : Nat} {a : Addr} {L : Loc} {e : TypeId} {n : Nat} (h : ρ id = some L) (hc : len ≤ cap) (hs : w.shape? L.blk = some (e, n))
      (ha : cap = 0 ∨ a = ⟨L.blk, L.base + off * L.sz, none⟩ ∧ L.base + (off + cap) * L.sz ≤ n) : RT ρ w S (.sl id off len) (.slice (some a) len cap)
  | ip {cells : Row} {b o : Nat} {p : Bool} {g : Nat → Value} (hS : S p b) (hg : ∀ (k : Nat) (t : T), cells[k]? = some t → w.cell? ⟨b, o + k, none⟩ = some (g k))
      (h : ∀ (k : Nat) (t : T), cells[k]? = some t → RI w S t (g k)) : RT ρ w S (.ip cells) (.pointer (some ⟨b, o, none⟩))
  | clo {f : FuncId} {caps : List T} {vs : Array Value} (hn : caps.length = vs.size)
      (h : ∀ (k : Nat) (t : T), caps[k]? = some t → ∃ id row off L, t = .ptr id row off ∧ ρ id = some L ∧ vs.getD k undef = .pointer (some ⟨L.blk, L.base + row * L.sz + off, none⟩)) :
      RT ρ w S (.clo f caps) (.func (.func f) #[] vs)

/-- A slot. -/
inductive RS (ρ : Rho) (w : World) (S : Rds) : SV → Value → Prop
  | und : RS ρ w S .und undef
  | one {t : T} {v : Value} (h : RT ρ w S t v) : RS ρ w S (.one t) v
  | agg {ts : Row} {vs : Array Value} (hn : ts.length = vs.size) (h : ∀ (k : Nat) (t : T), ts[k]? = some t → RT ρ w S t (vs.getD k undef)) : RS ρ w S (.agg ts) (.agg vs)
  | tup {vs : List SV} {us : Array Value} (hn : vs.length = us.size) (h : ∀ k v, vs[k]? = some v → RS ρ w S v (us.getD k undef)) : RS ρ w S (.tup vs) (.tuple us)

/-- Rows at a place. -/
structure RR (ρ : Rho) (w : World) (S : Rds) (L : Loc) (rows : List Row) : Prop where
  obj : ∃ c e, w.heap[L.blk]? = some (.cells c e (0, 0)) ∧ L.base + rows.length * L.sz ≤ c.size
  len : ∀ r ∈ rows, r.length = L.sz
  cell : ∀ (j k : Nat) (t : T), (rows[j]?).bind (·[k]?) = some t → ∃ v, w.cell? ⟨L.blk, L.base + j * L.sz + k, none⟩ = some v ∧ RT ρ w S t v

def BR (ρ : Rho) (w : World) (S : Rds) (id : Nat) : Blk → Prop
  | .dead => True
  | .box cells => ∃ L, ρ id = some L ∧ (L.whole = false ∧ 0 < L.sz) ∧ RR ρ w S L [cells]
  | .lst sz rows => (ρ id = none ∧ rows = []) ∨ ∃ L, ρ id = some L ∧ L.whole = true ∧ L.sz = sz ∧ 0 < sz ∧ RR ρ w S L rows ∧ ∀ r ∈ rows, r.all inList = true

def live (hp : List Blk) (id : Nat) : Prop := ∃ x, hp[id]? = some x ∧ x ≠ .dead

/-- Does a place hold a cell? -/
def Loc.has (L : Loc) (b o : Nat) : Prop := b = L.blk ∧ (L.whole = true ∨ L.base ≤ o ∧ o < L.base + L.sz)

structure Hp (ρ : Rho) (w : World) (S : Rds) (hp : List Blk) : Prop where
  br : ∀ id x, hp[id]? = some x → BR ρ w S id x
  dj : ∀ i j L M b o, i ≠ j → live hp i → live hp j → ρ i = some L → ρ j = some M → L.has b o → ¬ M.has b o
  sd : ∀ p b, S p b → ∀ j L, live hp j → ρ j = some L → L.blk ≠ b
  sb : ∀ p b, S p b → b < w.heap.size
  st : ∀ b, S true b → S false b
  fr : ∀ j, hp.length ≤ j → ρ j = none

/-- What a call may have done to the world: it wrote where W lets it, and made blocks. -/
structure Keep (W : Nat → Nat → Prop) (w w' : World) : Prop where
  os : w'.os = w.os
  tape : w'.tape = w.tape
  output : w'.output = w.output
  size : w.heap.size ≤ w'.heap.size
  cells : ∀ (b : Nat) c e z, w.heap[b]? = some (.cells c e z) → ∃ c', w'.heap[b]? = some (.cells c' e z) ∧ c'.size = c.size ∧ ∀ o, ¬ W b o → c'[o]? = c[o]?
  other : ∀ (b : Nat) (x : Obj), w.heap[b]? = some x → (∀ c e z, x ≠ Obj.cells c e z) → w'.heap[b]? = some x

/-- The state of a call on its way: w0 is the world at its entry. -/
structure Sim (w0 : World) (W : Nat → Nat → Prop) (S0 : Rds) (ρ0 : Rho) (nb N : Nat) (ρ : Rho) (S : Rds) (σ : St) (a : Act) (w : World) : Prop where
  slots : ∀ n v, lookup n σ.sl = some v → n < N ∧ RS ρ w S v (a.tmps.getD n undef)
  size : a.tmps.size = N
  defers : a.defers = []
  heap : Hp ρ w S σ.hp
  keep : Keep W w0 w
  own : ∀ i L b o, live σ.hp i → ρ i = some L → L.has b o → W b o ∨ w0.heap.size ≤ b
  sn : ∀ p b, S p b → S0 p b ∨ w0.heap.size ≤ b
  ss : ∀ p b, S0 p b → S p b
  boxes : ∀ i, i < nb → ρ i = ρ0 i
  nbl : nb ≤ σ.hp.length

end Go.Zq
