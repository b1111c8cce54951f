/- More operations: new variables, addresses, slices. -/
import Derived.Test.YtmbbedleimajcaaDoorDvD
namespace Go.Proofs.Dv
open Go Go.RowKit
set_option linter.unusedSimpArgs false
set_option linter.unusedVariables false
set_option linter.unnecessarySimpa false

theorem tzero_run {P : Program} {t : TypeId} {z : List AV} (h : tzero P t = some z) (w : World) : ∃ v : Value, (zeroValue t).run P w = .ok v w ∧ z = v.cells.toList.map AV.leaf ∧ ∃ i, P.info? t = some i ∧ i.zero = some v := by
  unfold tzero at h
  cases hi : P.info? t with
  | none => simp [hi] at h
  | some i =>
    cases hz : i.zero with
    | none => simp [hi, hz] at h
    | some v =>
      simp [hi, hz] at h
      exact ⟨v, by simp [zeroValue, typeInfo, hi, hz], h.symm, i, rfl, hz⟩

/-- A new variable of one element. -/
theorem newVar_sound {P : Program} {φ : Plc} {ok : Nat → Prop} {h : Heap} {w : World} {t : TypeId} {c : List AV} {v : Value} (hR : Rel φ ok h w) (hs : ∀ x ∈ c, x.single = true)
    (hl : c.length = v.cells.size) (hv : ∀ (i : Nat) x y, c[i]? = some x → v.cells[i]? = some y → RV φ ok w x y) :
    ∃ w' φ', (newVar t v).run P w = .ok ⟨w.heap.size, 0, none⟩ w' ∧ Step φ φ' ok ok h (h.add ⟨c.length, t, [c]⟩) w w' ∧ φ' h.next = some (w.heap.size, 0) := by
  refine ⟨_, _, rfl, step_new hR ⟨c.length, t, [c]⟩ v.cells (by simp [hl]) (by simp) (fun i j e x h1 h2 => ?_), by simp⟩
  cases i with
  | succ i => simp at h1
  | zero =>
    simp at h1
    subst h1
    have hj : j < v.cells.size := by rw [← hl]; exact (List.getElem?_eq_some_iff.1 h2).1
    refine ⟨v.cells[j], by simp [hj], ?_, hv j x _ h2 (by simp [hj])⟩
    exact (hv j x _ h2 (by simp [hj])).single (hs x (List.mem_of_getElem? h2))

def opAlloc (P : Program) (h : Heap) (t : TypeId) : Option (AV × Heap) :=
  (tzero P t).bind fun z => if z.all AV.single then some (.hp h.next z.length 0 0, h.add ⟨z.length, t, [z]⟩) else none
def opBox (h : Heap) (t : TypeId) (x : AV) : Option (AV × Heap) :=
  if x.cells.all AV.single then some (.hp h.next x.cells.length 0 0, h.add ⟨x.cells.length, t, [x.cells]⟩) else none

theorem alloc_sound {P : Program} {φ : Plc} {ok : Nat → Prop} {h h' : Heap} {w : World} {t : TypeId} {r : AV} (hR : Rel φ ok h w) (ho : opAlloc P h t = some (r, h')) :
    ∃ v w' φ', (Instr.alloc t true (.tuple #[])).run P w = .ok v w' ∧ Step φ φ' ok ok h h' w w' ∧ RV φ' ok w' r v := by
  unfold opAlloc at ho
  cases hz : tzero P t with
  | none => simp [hz] at ho
  | some z =>
    simp only [hz, Option.bind_some] at ho
    split at ho
    · rename_i hs
      cases ho
      obtain ⟨v, h1, h2, _⟩ := tzero_run hz w
      obtain ⟨w', φ', h3, h4, h5⟩ := newVar_sound (P := P) (t := t) (c := z) (v := v) hR (fun x hx => by simpa using List.all_eq_true.1 hs x hx) (by simp [h2]) (fun i x y h3 h4 => by
        subst h2
        simp only [List.getElem?_map, Array.getElem?_toList, h4, Option.map_some, Option.some.injEq] at h3
        subst h3; exact .leaf y)
      exact ⟨.pointer (some ⟨w.heap.size, 0, none⟩), w', φ', by simp [Instr.alloc, h1, h3], h4, by simpa using (RV.hp (sz := z.length) (i := 0) (j := 0) h5 : RV φ' ok w' _ _)⟩
    · cases ho

theorem box_sound {P : Program} {φ : Plc} {ok : Nat → Prop} {h h' : Heap} {w : World} {t : TypeId} {r x : AV} {y : Value} (hR : Rel φ ok h w) (hx : RV φ ok w x y) (ho : opBox h t x = some (r, h')) :
    ∃ v w' φ', (Instr.box t y).run P w = .ok v w' ∧ Step φ φ' ok ok h h' w w' ∧ RV φ' ok w' r v := by
  unfold opBox at ho
  split at ho
  · rename_i hs
    cases ho
    have hs' : ∀ c ∈ x.cells, c.single = true := fun c hc => by simpa using List.all_eq_true.1 hs c hc
    obtain ⟨h1, h2⟩ := hx.cells hs'
    obtain ⟨w', φ', h3, h4, h5⟩ := newVar_sound (P := P) (t := t) hR hs' h1 h2
    exact ⟨.pointer (some ⟨w.heap.size, 0, none⟩), w', φ', by simp [Instr.box, h3], h4, by simpa using (RV.hp (sz := x.cells.length) (i := 0) (j := 0) h5 : RV φ' ok w' _ _)⟩
  · cases ho

def opField (P : Program) (t : TypeId) (p : AV) (f : Nat) : Option AV :=
  (foff P t f).bind fun o =>
    match p with
    | .hp k sz i j => some (.hp k sz i (j + o))
    | .cp sz es i j => some (.cp sz es i (j + o))
    | _ => none

theorem field_sound {P : Program} {φ : Plc} {ok : Nat → Prop} {w : World} {t : TypeId} {p r : AV} {x : Value} {f : Nat} (hp : RV φ ok w p x) (ho : opField P t p f = some r) :
    ∃ v, (Instr.fieldAt t x f).run P w = .ok v w ∧ RV φ ok w r v := by
  unfold opField at ho
  cases hf : foff P t f with
  | none => simp [hf] at ho
  | some o =>
    simp only [hf, Option.bind_some] at ho
    unfold foff at hf
    split at hf
    · rename_i fs hu
      cases hg : fs[f]? with
      | none => simp [hg] at hf
      | some fd =>
        simp only [hg, Option.bind_some] at hf
        split at hf
        · rename_i m hm
          cases hf
          have key : ∀ a : Addr, x = .pointer (some a) → (Instr.fieldAt t x f).run P w = .ok (.pointer (some (a.add fd.offset))) w := fun a ha => by
            subst ha
            simp [Instr.fieldAt, run_underlying hu, hg, Instr.sureAddr, fieldPlace, tsz_run hm]
          cases hp with
          | hp hk => cases ho; exact ⟨_, key _ rfl, by rw [addr_add, Nat.add_assoc]; exact .hp hk⟩
          | cp hz hb y hc hone hr => cases ho; exact ⟨_, key _ rfl, by rw [addr_add, Nat.add_assoc]; exact .cp hz hb y hc hone hr⟩
          | _ => simp at ho
        · cases hf
    · cases hf

def opIndexAddr (P : Program) (t : TypeId) (x i : AV) : Option AV :=
  (selem P t).bind fun e => (tsz P e).bind fun n =>
    match x, i with
    | .hs k sz lo len, .v (.int _ m) => if n = sz ∧ 0 ≤ m ∧ m < len then some (.hp k sz (lo + m.toNat) 0) else none
    | .cs sz es, .v (.int _ m) => if n = sz ∧ 0 ≤ m ∧ m < es.length then some (.cp sz es m.toNat 0) else none
    | _, _ => none

theorem selem_run {P : Program} {t e : TypeId} (h : selem P t = some e) : P.underlying t = some (.slice e) := by
  unfold selem at h
  split at h
  · rename_i hu; cases h; exact hu
  · cases h

theorem indexAddr_sound {P : Program} {φ : Plc} {ok : Nat → Prop} {w : World} {t : TypeId} {a i r : AV} {x y : Value} (ha : RV φ ok w a x) (hi : RV φ ok w i y) (ho : opIndexAddr P t a i = some r) :
    ∃ v, (Instr.indexAt t x y).run P w = .ok v w ∧ RV φ ok w r v := by
  unfold opIndexAddr at ho
  cases he : selem P t with
  | none => simp [he] at ho
  | some e =>
  cases hn : tsz P e with
  | none => simp [he, hn] at ho
  | some n =>
  simp only [he, hn, Option.bind_some] at ho
  have hu := selem_run he
  have key : ∀ (ad : Addr) (len c : Nat) (k : IntKind) (m : Int), x = .slice (some ad) len c → y = .int k m → 0 ≤ m ∧ m < (len : Int) →
      (Instr.indexAt t x y).run P w = .ok (.pointer (some (ad.add (m.toNat * n)))) w := fun ad len c k m hx hy hm => by
    subst hx hy
    simp [Instr.indexAt, asIntOf, run_underlying hu, hm, tsz_run hn]
  split at ho
  · rename_i k sz lo len kk m
    split at ho
    · rename_i hc
      obtain ⟨hsz, h0, h1⟩ := hc
      cases ho
      cases hi
      cases ha with
      | @hs _ _ _ _ ad c hl hc =>
        obtain ⟨b, s, q, h2, h3, h4, h5⟩ := hc (by omega)
        subst h3
        refine ⟨_, key _ _ _ _ _ rfl rfl ⟨h0, h1⟩, ?_⟩
        rw [addr_add, hsz]
        have : s + lo * sz + m.toNat * sz = s + (lo + m.toNat) * sz + 0 := by rw [Nat.add_mul]; omega
        rw [this]
        exact .hp h2
    · cases ho
  · rename_i sz es kk m
    split at ho
    · rename_i hc
      obtain ⟨hsz, h0, h1⟩ := hc
      cases ho
      cases hi
      cases ha with
      | @cs _ _ ad c hl hz hb y hc hone hr =>
        have hne : es ≠ [] := by intro h; subst h; simp at h1; omega
        obtain ⟨b, o, h2, h3⟩ := hb hne
        subst h2
        refine ⟨_, key _ _ _ _ _ rfl rfl ⟨h0, h1⟩, ?_⟩
        rw [addr_add, hsz]
        exact .cp (i := m.toNat) (j := 0) hz h3 y (fun i j e x h4 h5 => hc i j e x b o h4 h5 rfl) hone hr
    · cases ho
  · cases ho

def opExtract (x : AV) (i : Nat) : Option AV :=
  match x with
  | .tup l => l[i]?
  | _ => none
theorem extract_sound {P : Program} {φ : Plc} {ok : Nat → Prop} {w : World} {a r : AV} {x : Value} {i : Nat} (ha : RV φ ok w a x) (ho : opExtract a i = some r) :
    ∃ v, (Instr.extract x i).run P w = .ok v w ∧ RV φ ok w r v := by
  cases ha with
  | @tup l ys hl h =>
    simp only [opExtract] at ho
    have hi : i < ys.size := by rw [← hl]; exact (List.getElem?_eq_some_iff.1 ho).1
    exact ⟨ys[i], by simp [Instr.extract, hi], h i r _ ho (by simp [hi])⟩
  | _ => simp [opExtract] at ho

/-- 0: a slice; 1: a string. -/
def seqKind (P : Program) (t : TypeId) : Option Bool :=
  match P.underlying t with
  | some (.slice _) => some false
  | some .string => some true
  | _ => none
def opLen (P : Program) (t : TypeId) (x : AV) : Option AV :=
  match seqKind P t, x with
  | some false, .hs _ _ _ len => some (.v (.int .i64 len))
  | some false, .cs _ es => some (.v (.int .i64 es.length))
  | some false, .emp => some (.v (.int .i64 0))
  | some true, .v (.string s) => some (.v (.int .i64 s.size))
  | _, _ => none
theorem seqKind_run {P : Program} {t : TypeId} {b : Bool} (h : seqKind P t = some b) : if b then P.underlying t = some .string else ∃ e, P.underlying t = some (.slice e) := by
  unfold seqKind at h
  split at h <;> cases h
  · rename_i e hu; exact ⟨e, hu⟩
  · rename_i hu; exact hu
theorem len_sound {P : Program} {φ : Plc} {ok : Nat → Prop} {w : World} {a r : AV} {x : Value} {ty : TypeId} {t : TypeId} (ats : Array TypeId) (ht : ats[0]? = some t) (ha : RV φ ok w a x) (ho : opLen P t a = some r) :
    ∃ v, (Builtin.len_ ats ty #[x]).run P w = .ok v w ∧ RV φ ok w r v := by
  unfold opLen at ho
  split at ho
  · rename_i hk
    obtain ⟨e, hu⟩ := seqKind_run hk
    cases ho; cases ha
    exact ⟨.int .i64 _, by simp [Builtin.len_, ht, run_underlying hu, goInt], .v _⟩
  · rename_i hk
    obtain ⟨e, hu⟩ := seqKind_run hk
    cases ho; cases ha
    exact ⟨.int .i64 _, by simp [Builtin.len_, ht, run_underlying hu, goInt], .v _⟩
  · rename_i hk
    obtain ⟨e, hu⟩ := seqKind_run hk
    cases ho; cases ha
    exact ⟨.int .i64 0, by simp [Builtin.len_, ht, run_underlying hu, goInt], .v _⟩
  · rename_i hk
    have hu := seqKind_run hk
    simp only [if_true] at hu
    cases ho; cases ha
    exact ⟨.int .i64 _, by simp [Builtin.len_, ht, run_underlying hu, goInt], .v _⟩
  · cases ho

end Go.Proofs.Dv
