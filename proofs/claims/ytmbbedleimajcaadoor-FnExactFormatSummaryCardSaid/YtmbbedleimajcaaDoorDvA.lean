/- Abstract values over a symbolic heap, and how they lie in a world. -/
import Derived.WalkKit
import Derived.Below
import Derived.Orders
import Derived.Deep.Draws
namespace Go.Proofs.Dv
open Go Go.RowKit
set_option linter.unusedSimpArgs false
set_option linter.unusedVariables false
set_option linter.unnecessarySimpa false

inductive AV where
  | v (x : Value)
  | dead
  | emp
  | hs (k sz lo len : Nat)
  | hp (k sz i j : Nat)
  | agg (cs : List AV)
  | tup (cs : List AV)
  | clo (f : FuncId) (cs : List AV)
  | cs (sz : Nat) (es : List (List AV))
  | cp (sz : Nat) (es : List (List AV)) (i j : Nat)

instance : Inhabited AV := ⟨.dead⟩

/-- May lie in one cell. -/
def one : Value → Bool
  | .agg _ | .tuple _ => false
  | _ => true

/-- Where the keys lie: block and first cell. -/
abbrev Plc := Nat → Option (Nat × Nat)

/-- Element lists that can be read at a base address. -/
inductive RV (φ : Plc) (ok : Nat → Prop) (w : World) : AV → Value → Prop where
  | v (x : Value) : RV φ ok w (.v x) x
  | dead (x : Value) : RV φ ok w .dead x
  | emp (a : Option Addr) : RV φ ok w .emp (.slice a 0 0)
  | hs {k sz lo len : Nat} {a : Option Addr} {c : Nat} (hl : len ≤ c) (h : 0 < c → ∃ b s n, φ k = some (b, s) ∧ a = some ⟨b, s + lo * sz, none⟩ ∧ w.shape? b = some n ∧ s + (lo + c) * sz ≤ n.2) :
      RV φ ok w (.hs k sz lo len) (.slice a len c)
  | hp {k sz i j b s : Nat} (h : φ k = some (b, s)) : RV φ ok w (.hp k sz i j) (.pointer (some ⟨b, s + i * sz + j, none⟩))
  | agg {cs : List AV} {ys : Array Value} (hl : cs.length = ys.size) (h : ∀ (i : Nat) a y, cs[i]? = some a → ys[i]? = some y → RV φ ok w a y) : RV φ ok w (.agg cs) (.agg ys)
  | tup {cs : List AV} {ys : Array Value} (hl : cs.length = ys.size) (h : ∀ (i : Nat) a y, cs[i]? = some a → ys[i]? = some y → RV φ ok w a y) : RV φ ok w (.tup cs) (.tuple ys)
  | clo {f : FuncId} {cs : List AV} {ys : Array Value} (hl : cs.length = ys.size) (h : ∀ (i : Nat) a y, cs[i]? = some a → ys[i]? = some y → RV φ ok w a y) : RV φ ok w (.clo f cs) (.func (.func f) #[] ys)
  | cs {sz : Nat} {es : List (List AV)} {a : Option Addr} {c : Nat} (hl : es.length ≤ c) (hz : ∀ e ∈ es, e.length = sz) (hb : es ≠ [] → ∃ b o, a = some ⟨b, o, none⟩ ∧ ok b)
      (y : Nat → Nat → Value)
      (hc : ∀ (i j : Nat) e x b o, es[i]? = some e → e[j]? = some x → a = some ⟨b, o, none⟩ → w.cell? ⟨b, o + i * sz + j, none⟩ = some (y i j))
      (ho : ∀ (i j : Nat) e x, es[i]? = some e → e[j]? = some x → one (y i j) = true)
      (hr : ∀ (i j : Nat) e x, es[i]? = some e → e[j]? = some x → RV φ ok w x (y i j)) : RV φ ok w (.cs sz es) (.slice a es.length c)
  | cp {sz : Nat} {es : List (List AV)} {i j b o : Nat} (hz : ∀ e ∈ es, e.length = sz) (hb : ok b)
      (y : Nat → Nat → Value)
      (hc : ∀ (i j : Nat) e x, es[i]? = some e → e[j]? = some x → w.cell? ⟨b, o + i * sz + j, none⟩ = some (y i j))
      (ho : ∀ (i j : Nat) e x, es[i]? = some e → e[j]? = some x → one (y i j) = true)
      (hr : ∀ (i j : Nat) e x, es[i]? = some e → e[j]? = some x → RV φ ok w x (y i j)) : RV φ ok w (.cp sz es i j) (.pointer (some ⟨b, o + i * sz + j, none⟩))

/-- What is kept of a world from one moment to another. -/
structure Ext (φ φ' : Plc) (ok ok' : Nat → Prop) (w w' : World) : Prop where
  plc : ∀ k p, φ k = some p → φ' k = some p
  sub : ∀ b, ok b → ok' b
  cells : ∀ b, ok b → w'.heap[b]? = w.heap[b]?
  shape : ∀ b s, w.shape? b = some s → w'.shape? b = some s

theorem cell_of_block {w w' : World} {b : Nat} (h : w'.heap[b]? = w.heap[b]?) (o : Nat) : w'.cell? ⟨b, o, none⟩ = w.cell? ⟨b, o, none⟩ := by
  simp [World.cell?, h]

theorem RV.ext {φ φ' : Plc} {ok ok' : Nat → Prop} {w w' : World} (he : Ext φ φ' ok ok' w w') {a : AV} {x : Value} (h : RV φ ok w a x) : RV φ' ok' w' a x := by
  induction h with
  | v x => exact .v x
  | dead x => exact .dead x
  | emp a => exact .emp a
  | hs hl h =>
    refine .hs hl fun hc => ?_
    obtain ⟨b, s, m, h1, h2, h3, h4⟩ := h hc
    exact ⟨b, s, m, he.plc _ _ h1, h2, he.shape _ _ h3, h4⟩
  | hp h => exact .hp (he.plc _ _ h)
  | agg hl h ih => exact .agg hl ih
  | tup hl h ih => exact .tup hl ih
  | clo hl h ih => exact .clo hl ih
  | @cs sz es a c hl hz hb y hc ho hr ih =>
    refine .cs hl hz (fun hn => ?_) y (fun i j e x b o h1 h2 h3 => ?_) ho ih
    · obtain ⟨b, o, h1, h2⟩ := hb hn; exact ⟨b, o, h1, he.sub _ h2⟩
    · have hne : es ≠ [] := by intro h; subst h; simp at h1
      obtain ⟨b', o', h4, h5⟩ := hb hne
      rw [h3] at h4; cases h4
      rw [cell_of_block (he.cells _ h5)]; exact hc i j e x b o h1 h2 h3
  | cp hz hb y hc ho hr ih =>
    exact .cp hz (he.sub _ hb) y (fun i j e x h1 h2 => by rw [cell_of_block (he.cells _ hb)]; exact hc i j e x h1 h2) ho ih

/-- An array of the frame's own. -/
structure Arr where
  sz : Nat
  ty : TypeId
  es : List (List AV)

structure Heap where
  get : Nat → Option Arr
  next : Nat

def Heap.empty : Heap := ⟨fun _ => none, 0⟩
def Heap.upd (h : Heap) (k : Nat) (a : Option Arr) : Heap := ⟨fun k' => if k' = k then a else h.get k', h.next⟩
def Heap.add (h : Heap) (a : Arr) : Heap := ⟨fun k' => if k' = h.next then some a else h.get k', h.next + 1⟩

/-- How an array lies. -/
structure Lies (φ : Plc) (ok : Nat → Prop) (w : World) (A : Arr) (b s : Nat) : Prop where
  off : ¬ ok b
  block : ∃ C, w.heap[b]? = some (.cells C A.ty (0, 0)) ∧ s + A.es.length * A.sz ≤ C.size ∧
    ∀ (i j : Nat) e x, A.es[i]? = some e → e[j]? = some x → ∃ y, C[s + i * A.sz + j]? = some y ∧ one y = true ∧ RV φ ok w x y

structure Rel (φ : Plc) (ok : Nat → Prop) (h : Heap) (w : World) : Prop where
  okLt : ∀ b, ok b → b < w.heap.size
  fresh : ∀ k, h.next ≤ k → h.get k = none ∧ φ k = none
  lies : ∀ k A b s, h.get k = some A → φ k = some (b, s) → Lies φ ok w A b s
  none_ : ∀ k A, h.get k = some A → φ k = none → A.es = []
  inj : ∀ k k' A A' b s b' s', h.get k = some A → h.get k' = some A' → φ k = some (b, s) → φ k' = some (b', s') → k ≠ k' → b ≠ b'
  size : ∀ k A, h.get k = some A → ∀ e ∈ A.es, e.length = A.sz

/-- Only blocks of 'own', and new ones, may have turned. -/
structure Frame (own : Nat → Prop) (w w' : World) : Prop where
  os : w'.os = w.os
  tape : w'.tape = w.tape
  output : w'.output = w.output
  size : w.heap.size ≤ w'.heap.size
  block : ∀ b, b < w.heap.size → ¬ own b → w'.heap[b]? = w.heap[b]?
  shape : ∀ b s, w.shape? b = some s → w'.shape? b = some s

theorem Frame.refl (own : Nat → Prop) (w : World) : Frame own w w := ⟨rfl, rfl, rfl, Nat.le_refl _, fun _ _ _ => rfl, fun _ _ h => h⟩
theorem Frame.trans {own own' : Nat → Prop} {a b c : World} (h : Frame own a b) (k : Frame own' b c) (ho : ∀ i, own' i → own i ∨ a.heap.size ≤ i) : Frame own a c :=
  ⟨k.os.trans h.os, k.tape.trans h.tape, k.output.trans h.output, Nat.le_trans h.size k.size,
    fun i hi hn => (k.block i (Nat.lt_of_lt_of_le hi h.size) (fun h' => (ho i h').elim hn (fun h'' => by omega))).trans (h.block i hi hn), fun i s hs => k.shape i s (h.shape i s hs)⟩

end Go.Proofs.Dv
