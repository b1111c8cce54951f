/- Append, and other operations over whole slices. -/
import Derived.Test.YtmbbedleimajcaaDoorDvG
namespace Go.Proofs.Dv
open Go Go.RowKit
set_option linter.unusedSimpArgs false
set_option linter.unusedVariables false

/-- The elements that a slice shows. -/
def elems (h : Heap) : AV → Option (Nat × List (List AV))
  | .hs k sz lo len => (h.get k).bind fun A => if A.sz = sz ∧ lo + len ≤ A.es.length then some (sz, (A.es.drop lo).take len) else none
  | .cs sz es => some (sz, es)
  | _ => none

/-- How a list of elements lies behind a slice's address. -/
def At (φ : Plc) (ok : Nat → Prop) (w : World) (sz : Nat) (es : List (List AV)) (a : Option Addr) : Prop :=
  (∀ e ∈ es, e.length = sz) ∧ ∀ (i j : Nat) e x, es[i]? = some e → e[j]? = some x → ∃ b o y, a = some ⟨b, o, none⟩ ∧ w.cell? ⟨b, o + i * sz + j, none⟩ = some y ∧ one y = true ∧ RV φ ok w x y

theorem elems_sound {φ : Plc} {ok : Nat → Prop} {h : Heap} {w : World} {a : AV} {x : Value} {sz : Nat} {es : List (List AV)} (hR : Rel φ ok h w) (ha : RV φ ok w a x) (he : elems h a = some (sz, es)) :
    ∃ ad c, x = .slice ad es.length c ∧ es.length ≤ c ∧ At φ ok w sz es ad ∧ (es ≠ [] → ∃ b o, ad = some ⟨b, o, none⟩) := by
  cases ha with
  | @hs k sz' lo len ad c hl hc =>
    simp only [elems] at he
    cases hA : h.get k with
    | none => simp [hA] at he
    | some A =>
      simp only [hA, Option.bind_some] at he
      split at he
      · rename_i hcond
        obtain ⟨h1, h2⟩ := hcond
        cases he
        have hlen : ((A.es.drop lo).take len).length = len := by simp; omega
        have get : ∀ (i : Nat) e, ((A.es.drop lo).take len)[i]? = some e → A.es[lo + i]? = some e ∧ i < len := fun i e hi => by
          have hlt : i < len := by have := (List.getElem?_eq_some_iff.1 hi).1; omega
          rw [List.getElem?_take_of_lt hlt, List.getElem?_drop] at hi
          exact ⟨hi, hlt⟩
        refine ⟨ad, c, by rw [hlen], by omega, ⟨fun e he => ?_, fun i j e x h3 h4 => ?_⟩, fun hne => ?_⟩
        · obtain ⟨i, hi⟩ := List.getElem?_of_mem he
          rw [← h1]
          exact hR.size k A hA e (List.mem_of_getElem? (get i e hi).1)
        · obtain ⟨h5, h6⟩ := get i e h3
          obtain ⟨b, s, q, h7, h8, h9, h10⟩ := hc (by omega)
          obtain ⟨_, C, g1, g2, g3⟩ := hR.lies k A b s hA h7
          obtain ⟨y, g4, g5, g6⟩ := g3 (lo + i) j e x h5 h4
          refine ⟨b, _, y, h8, ?_, g5, g6⟩
          rw [cell_of_row w b _ C A.ty (0, 0) g1, ← g4, h1]
          congr 1
          rw [Nat.add_mul]; omega
        · have : 0 < len := by rw [← hlen]; exact List.length_pos_iff.2 hne
          obtain ⟨b, s, q, h7, h8, h9, h10⟩ := hc (by omega)
          exact ⟨b, _, h8⟩
      · cases he
  | @cs sz' es' ad c hl hz hb y hc hone hr =>
    simp only [elems, Option.some.injEq, Prod.mk.injEq] at he
    obtain ⟨rfl, rfl⟩ := he
    refine ⟨ad, c, rfl, hl, ⟨hz, fun i j e x h3 h4 => ?_⟩, fun hne => ?_⟩
    · have hne : es' ≠ [] := by intro h; subst h; simp at h3
      obtain ⟨b, o, h5, h6⟩ := hb hne
      exact ⟨b, o, y i j, h5, hc i j e x b o h3 h4 h5, hone i j e x h3 h4, hr i j e x h3 h4⟩
    · obtain ⟨b, o, h5, _⟩ := hb hne
      exact ⟨b, o, h5⟩
  | _ => simp [elems] at he

/-- Reading all the cells of elements that lie. -/
theorem At.firstCells {P : Program} {φ : Plc} {ok : Nat → Prop} {w w2 : World} {sz : Nat} {es : List (List AV)} {ad : Option Addr} {c : Nat} (h : At φ ok w sz es ad) (hne : es ≠ [] → ∃ b o, ad = some ⟨b, o, none⟩) (hw : w2.heap = w.heap) :
    ∃ ys : List Value, (Builtin.firstCells sz es.length (.slice ad es.length c)).run P w2 = .ok ys.toArray w2 ∧ ys.length = es.length * sz ∧
      ∀ (i j : Nat) e x, es[i]? = some e → e[j]? = some x → ∃ y, ys[i * sz + j]? = some y ∧ one y = true ∧ RV φ ok w x y := by
  by_cases he : es = []
  · subst he
    cases ad with
    | none => exact ⟨[], by simp [Builtin.firstCells], by simp, fun i j e x h1 => by simp at h1⟩
    | some a => exact ⟨[], by simp [Builtin.firstCells, loadCells, loadCellsFrom], by simp, fun i j e x h1 => by simp at h1⟩
  · obtain ⟨b, o, had⟩ := hne he
    subst had
    have hy : ∀ m, ∃ y, m < es.length * sz → w.cell? ⟨b, o + m, none⟩ = some y ∧ one y = true ∧ ∀ i j e x, es[i]? = some e → e[j]? = some x → m = i * sz + j → RV φ ok w x y := fun m => by
      by_cases hm : m < es.length * sz
      · have hsz : 0 < sz := by
          rcases Nat.eq_zero_or_pos sz with h0 | h0
          · subst h0; omega
          · exact h0
        have hi : m / sz < es.length := Nat.div_lt_of_lt_mul (by rw [Nat.mul_comm]; exact hm)
        have hj : m % sz < (es[m / sz]).length := by rw [h.1 _ (List.getElem_mem hi)]; exact Nat.mod_lt _ hsz
        obtain ⟨b', o', y, h1, h2, h3, h4⟩ := h.2 (m / sz) (m % sz) _ _ (List.getElem?_eq_getElem hi) (List.getElem?_eq_getElem hj)
        cases h1
        have e1 : o + m / sz * sz + m % sz = o + m := by have := Nat.div_add_mod m sz; rw [Nat.mul_comm] at this; omega
        rw [e1] at h2
        refine ⟨y, fun _ => ⟨h2, h3, fun i j e x h5 h6 h7 => ?_⟩⟩
        have hjl : j < sz := by rw [← h.1 e (List.mem_of_getElem? h5)]; exact (List.getElem?_eq_some_iff.1 h6).1
        have hii : m / sz = i := by rw [h7, Nat.mul_comm, Nat.mul_add_div hsz, Nat.div_eq_of_lt hjl]; omega
        have hjj : m % sz = j := by rw [h7, Nat.mul_comm, Nat.mul_add_mod, Nat.mod_eq_of_lt hjl]
        subst hii hjj
        rw [List.getElem?_eq_getElem hi] at h5; cases h5
        rw [List.getElem?_eq_getElem hj] at h6; cases h6
        exact h4
      · exact ⟨undef, fun h => absurd h hm⟩
    obtain ⟨f, hf⟩ := Classical.skolem.1 hy
    have hl := run_loadCells (P := P) w2 ⟨b, o, none⟩ (es.length * sz) f (fun m hm => by
      rw [addr_add, cell_of_block (w := w) (by rw [hw])]; exact (hf m hm).1)
    refine ⟨(List.range (es.length * sz)).map f, by simp only [Builtin.firstCells]; exact hl, by simp, fun i j e x h1 h2 => ?_⟩
    have hil : i < es.length := (List.getElem?_eq_some_iff.1 h1).1
    have hjl : j < sz := by rw [← h.1 e (List.mem_of_getElem? h1)]; exact (List.getElem?_eq_some_iff.1 h2).1
    have hm : i * sz + j < es.length * sz := by
      have : (i + 1) * sz ≤ es.length * sz := Nat.mul_le_mul_right _ hil
      rw [Nat.add_mul, Nat.one_mul] at this; omega
    obtain ⟨h3, h4, h5⟩ := hf _ hm
    exact ⟨f (i * sz + j), by simp [hm], h4, h5 i j e x h1 h2 rfl⟩

/-- Storing cell after cell into a block. -/
theorem storeCells_raw {P : Program} {b : Nat} {ty : TypeId} : ∀ (ys : List Value) (w : World) (C : Array Value) (o m : Nat), w.heap[b]? = some (.cells C ty (0, 0)) → o + m + ys.length ≤ C.size → (∀ y ∈ ys, one y = true) →
    ∃ w' C', (storeCells ⟨b, o, none⟩ ys m).run P w = .ok () w' ∧ w'.heap[b]? = some (.cells C' ty (0, 0)) ∧ C'.size = C.size ∧
      (∀ i : Nat, C'[i]? = if o + m ≤ i ∧ i < o + m + ys.length then ys[i - (o + m)]? else C[i]?) ∧ (∀ b', b' ≠ b → w'.heap[b']? = w.heap[b']?) ∧
      w'.os = w.os ∧ w'.tape = w.tape ∧ w'.output = w.output ∧ w'.heap.size = w.heap.size ∧ ∀ b' s, w.shape? b' = some s → w'.shape? b' = some s := by
  intro ys
  induction ys with
  | nil =>
    intro w C o m hb _ _
    exact ⟨w, C, rfl, hb, rfl, fun i => by simp; omega, fun _ _ => rfl, rfl, rfl, rfl, rfl, fun _ _ h => h⟩
  | cons y ys ih =>
    intro w C o m hb hs hone
    simp only [List.length_cons] at hs
    have hy := hone y List.mem_cons_self
    have hcell : w.cell? ⟨b, o + m, none⟩ = some C[o + m] := by
      rw [cell_of_row w b _ C ty (0, 0) hb]; simp
    have hblk := heap_setCell_same w b (o + m) C ty y hb
    obtain ⟨w', C', h1, h2, h3, h4, h5, h6, h7, h8, h9, h10⟩ := ih (w.setCell ⟨b, o + m, none⟩ y) (C.setIfInBounds (o + m) y) o (m + 1) hblk (by rw [Array.size_setIfInBounds]; omega) (fun z hz => hone z (List.mem_cons_of_mem _ hz))
    refine ⟨w', C', ?_, h2, by simpa using h3, fun i => ?_, fun b' hb' => by rw [h5 b' hb', heap_setCell_other w _ b' y hb'], h6, h7, h8, by simpa using h9, fun b' s hs => h10 b' s (shape_setCell _ _ _ _ _ hs)⟩
    · simp only [storeCells, Sem.run_bind, addr_add]
      rw [run_store P w _ y .plain (by cases y <;> first | rfl | (simp [one] at hy)), hcell]
      simp only [frozen_of_row w b _ C ty hb, Bool.false_eq_true, if_false, Result.andThen_ok]
      exact h1
    · rw [h4 i]
      simp only [List.length_cons]
      by_cases g1 : o + (m + 1) ≤ i ∧ i < o + (m + 1) + ys.length
      · rw [if_pos g1, if_pos (by omega)]
        obtain ⟨q, hq⟩ : ∃ q, i - (o + m) = q + 1 := ⟨i - (o + m) - 1, by omega⟩
        rw [hq, List.getElem?_cons_succ]
        congr 1; omega
      · rw [if_neg g1]
        by_cases g2 : i = o + m
        · subst g2
          have hlt : o + m < C.size := by omega
          rw [if_pos (by omega), Nat.sub_self, List.getElem?_cons_zero]; simp [hlt]
        · rw [if_neg (by omega), Array.getElem?_setIfInBounds_ne (by omega)]

end Go.Proofs.Dv
