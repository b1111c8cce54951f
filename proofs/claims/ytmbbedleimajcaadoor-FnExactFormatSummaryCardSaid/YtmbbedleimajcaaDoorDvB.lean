/- Steps of the abstract state and what they say of the world: the operations that make no call. -/
import Derived.Test.YtmbbedleimajcaaDoorDvA
namespace Go.Proofs.Dv
open Go Go.RowKit
set_option linter.unusedSimpArgs false
set_option linter.unusedVariables false
set_option linter.unnecessarySimpa false

def live (φ : Plc) (h : Heap) (b : Nat) : Prop := ∃ k A s, h.get k = some A ∧ φ k = some (b, s)

structure Step (φ φ' : Plc) (ok ok' : Nat → Prop) (h h' : Heap) (w w' : World) : Prop where
  rel : Rel φ' ok' h' w'
  ext : Ext φ φ' ok ok' w w'
  frame : Frame (live φ h) w w'
  own : ∀ b, live φ' h' b → live φ h b ∨ w.heap.size ≤ b
  okg : ∀ b, ok' b → ok b ∨ w.heap.size ≤ b

theorem Ext.refl (φ : Plc) (ok : Nat → Prop) (w : World) : Ext φ φ ok ok w w := ⟨fun _ _ h => h, fun _ h => h, fun _ _ => rfl, fun _ _ h => h⟩
theorem Ext.trans {φ φ' φ'' : Plc} {ok ok' ok'' : Nat → Prop} {w w' w'' : World} (h : Ext φ φ' ok ok' w w') (k : Ext φ' φ'' ok' ok'' w' w'') : Ext φ φ'' ok ok'' w w'' :=
  ⟨fun i p hp => k.plc i p (h.plc i p hp), fun b hb => k.sub b (h.sub b hb), fun b hb => (k.cells b (h.sub b hb)).trans (h.cells b hb), fun b s hs => k.shape b s (h.shape b s hs)⟩

theorem Step.refl {φ : Plc} {ok : Nat → Prop} {h : Heap} {w : World} (hr : Rel φ ok h w) : Step φ φ ok ok h h w w :=
  ⟨hr, Ext.refl _ _ _, Frame.refl _ _, fun _ h => .inl h, fun _ h => .inl h⟩

theorem Step.trans {φ φ' φ'' : Plc} {ok ok' ok'' : Nat → Prop} {h h' h'' : Heap} {w w' w'' : World} (s : Step φ φ' ok ok' h h' w w') (t : Step φ' φ'' ok' ok'' h' h'' w' w'') : Step φ φ'' ok ok'' h h'' w w'' :=
  ⟨t.rel, s.ext.trans t.ext, s.frame.trans t.frame s.own,
    fun b hb => (t.own b hb).elim (fun h => s.own b h) (fun h => .inr (Nat.le_trans s.frame.size h)),
    fun b hb => (t.okg b hb).elim (fun h => s.okg b h) (fun h => .inr (Nat.le_trans s.frame.size h))⟩

/-- Only the count of draws has turned. -/
theorem Step.drew {φ : Plc} {ok : Nat → Prop} {h : Heap} {w : World} (hr : Rel φ ok h w) : Step φ φ ok ok h h w w.drew := by
  have he : Ext φ φ ok ok w w.drew := ⟨fun _ _ h => h, fun _ h => h, fun _ _ => rfl, fun _ _ h => h⟩
  refine ⟨⟨hr.okLt, hr.fresh, fun k A b s h1 h2 => ?_, hr.none_, hr.inj, hr.size⟩, he, ⟨rfl, rfl, rfl, Nat.le_refl _, fun _ _ _ => rfl, fun _ _ h => h⟩, fun _ h => .inl h, fun _ h => .inl h⟩
  obtain ⟨ho, C, h3, h4, h5⟩ := hr.lies k A b s h1 h2
  exact ⟨ho, C, h3, h4, fun i j e x h6 h7 => let ⟨y, h8, h9, h10⟩ := h5 i j e x h6 h7; ⟨y, h8, h9, h10.ext he⟩⟩

theorem shape_alloc (w : World) (o : Obj) (b : Nat) (s : TypeId × Nat) (h : w.shape? b = some s) : (w.alloc o).shape? b = some s := by
  have hb : b < w.heap.size := by
    rcases Nat.lt_or_ge b w.heap.size with h' | h'
    · exact h'
    · simp [World.shape?, Array.getElem?_eq_none h'] at h
  simpa [World.shape?, Below.heap_alloc w o b hb] using h

theorem shape_setCell (w : World) (a : Addr) (u : Value) (b : Nat) (s : TypeId × Nat) (h : w.shape? b = some s) : (w.setCell a u).shape? b = some s := by
  by_cases hb : b = a.block
  · subst hb
    unfold World.shape? at *
    simp only [World.setCell, Array.getElem?_modify, if_true]
    cases hh : w.heap[a.block]? with
    | none => simp [hh] at h
    | some o =>
      cases o <;> simp [hh] at h ⊢
      rename_i c e f
      by_cases hs : a.spot.isSome = true
      · simp [hs, h]
      · simp [hs, h]
  · unfold World.shape? at *; rw [heap_setCell_other w a b u hb]; exact h

/-- The frame of a world with one block more. -/
theorem frame_alloc (own : Nat → Prop) (w : World) (o : Obj) : Frame own w (w.alloc o) :=
  ⟨rfl, rfl, rfl, by simp, fun b hb _ => Below.heap_alloc w o b hb, fun b s hs => shape_alloc w o b s hs⟩

theorem live_lt {φ : Plc} {ok : Nat → Prop} {h : Heap} {w : World} (hr : Rel φ ok h w) {b : Nat} (hb : live φ h b) : b < w.heap.size := by
  obtain ⟨k, A, s, h1, h2⟩ := hb
  obtain ⟨_, C, h3, _⟩ := hr.lies k A b s h1 h2
  exact (Array.getElem?_eq_some_iff.1 h3).1

theorem live_off {φ : Plc} {ok : Nat → Prop} {h : Heap} {w : World} (hr : Rel φ ok h w) {b : Nat} (hb : live φ h b) : ¬ ok b := by
  obtain ⟨k, A, s, h1, h2⟩ := hb
  exact (hr.lies k A b s h1 h2).off

/-- A new block, under a new key. 'w1' is 'w' but for its draws. -/
theorem step_new {φ : Plc} {ok : Nat → Prop} {h : Heap} {w : World} (hr : Rel φ ok h w) (A : Arr) (C : Array Value)
    (hs : A.es.length * A.sz ≤ C.size) (hz : ∀ e ∈ A.es, e.length = A.sz)
    (hc : ∀ (i j : Nat) e x, A.es[i]? = some e → e[j]? = some x → ∃ y, C[i * A.sz + j]? = some y ∧ one y = true ∧ RV φ ok w x y) :
    Step φ (fun k => if k = h.next then some (w.heap.size, 0) else φ k) ok ok h (h.add A) w (w.alloc (.cells C A.ty)) := by
  have hn := (hr.fresh h.next (Nat.le_refl _))
  have he : Ext φ (fun k => if k = h.next then some (w.heap.size, 0) else φ k) ok ok w (w.alloc (.cells C A.ty)) := by
    refine ⟨fun k p hp => ?_, fun _ h => h, fun b hb => Below.heap_alloc _ _ _ (hr.okLt b hb), fun b s hs => shape_alloc _ _ _ _ hs⟩
    by_cases hk : k = h.next
    · subst hk; rw [hn.2] at hp; cases hp
    · simpa [hk] using hp
  refine ⟨⟨fun b hb => by have := hr.okLt b hb; simp; omega, fun k hk => ?_, fun k B b s h1 h2 => ?_, fun k B h1 h2 => ?_, fun k k' B B' b s b' s' h1 h2 h3 h4 h5 => ?_, fun k B h1 => ?_⟩, he, frame_alloc _ _ _, fun b hb => ?_, fun b hb => .inl hb⟩
  · have hk' : h.next + 1 ≤ k := hk
    have := hr.fresh k (by omega)
    simp only [Heap.add]
    rw [if_neg (by omega), if_neg (by omega)]
    exact this
  · by_cases hk : k = h.next
    · subst hk
      simp only [Heap.add, if_true, Option.some.injEq] at h1
      simp only [if_true, Option.some.injEq, Prod.mk.injEq] at h2
      obtain ⟨rfl, rfl⟩ := h2
      subst h1
      refine ⟨fun hok => by have := hr.okLt _ hok; omega, C, heap_alloc_new _ _, by simpa using hs, fun i j e x h6 h7 => ?_⟩
      obtain ⟨y, h8, h9, h10⟩ := hc i j e x h6 h7
      exact ⟨y, by simpa using h8, h9, h10.ext he⟩
    · simp only [Heap.add, hk, if_false] at h1 h2
      obtain ⟨ho, D, h3, h4, h5⟩ := hr.lies k B b s h1 h2
      exact ⟨ho, D, by rw [Below.heap_alloc _ _ _ (Array.getElem?_eq_some_iff.1 h3).1]; exact h3, h4, fun i j e x h6 h7 => let ⟨y, h8, h9, h10⟩ := h5 i j e x h6 h7; ⟨y, h8, h9, h10.ext he⟩⟩
  · by_cases hk : k = h.next
    · simp [hk] at h2
    · simp only [Heap.add, hk, if_false] at h1 h2
      exact hr.none_ k B h1 h2
  · have old : ∀ k B b s, h.get k = some B → φ k = some (b, s) → b < w.heap.size := fun k B b s h1 h2 => live_lt hr ⟨k, B, s, h1, h2⟩
    by_cases hk : k = h.next
    · have hk' : k' ≠ h.next := fun e => h5 (hk.trans e.symm)
      simp only [hk, if_true, Option.some.injEq, Prod.mk.injEq] at h3
      simp only [Heap.add, hk', if_false] at h2 h4
      have := old _ _ _ _ h2 h4
      omega
    · simp only [Heap.add, hk, if_false] at h1 h3
      by_cases hk' : k' = h.next
      · simp only [hk', if_true, Option.some.injEq, Prod.mk.injEq] at h4
        have := old _ _ _ _ h1 h3
        omega
      · simp only [Heap.add, hk', if_false] at h2 h4
        exact hr.inj k k' B B' b s b' s' h1 h2 h3 h4 h5
  · by_cases hk : k = h.next
    · subst hk
      simp only [Heap.add, if_true, Option.some.injEq] at h1
      subst h1; exact hz
    · simp only [Heap.add, hk, if_false] at h1
      exact hr.size k B h1
  · obtain ⟨k, B, s, h1, h2⟩ := hb
    by_cases hk : k = h.next
    · simp only [hk, if_true, Option.some.injEq, Prod.mk.injEq] at h2
      exact .inr (by omega)
    · simp only [Heap.add, hk, if_false] at h1 h2
      exact .inl ⟨k, B, s, h1, h2⟩

/-- A block that no key owns comes: garbage. -/
theorem step_garbage {φ : Plc} {ok : Nat → Prop} {h : Heap} {w : World} (hr : Rel φ ok h w) (o : Obj) : Step φ φ ok ok h h w (w.alloc o) := by
  have he : Ext φ φ ok ok w (w.alloc o) := ⟨fun _ _ h => h, fun _ h => h, fun b hb => Below.heap_alloc _ _ _ (hr.okLt b hb), fun b s hs => shape_alloc _ _ _ _ hs⟩
  refine ⟨⟨fun b hb => by have := hr.okLt b hb; simp; omega, hr.fresh, fun k A b s h1 h2 => ?_, hr.none_, hr.inj, hr.size⟩, he, frame_alloc _ _ _, fun _ h => .inl h, fun _ h => .inl h⟩
  obtain ⟨ho, C, h3, h4, h5⟩ := hr.lies k A b s h1 h2
  exact ⟨ho, C, by rw [Below.heap_alloc _ _ _ (Array.getElem?_eq_some_iff.1 h3).1]; exact h3, h4, fun i j e x h6 h7 => let ⟨y, h8, h9, h10⟩ := h5 i j e x h6 h7; ⟨y, h8, h9, h10.ext he⟩⟩

/-- A key is given up. -/
theorem step_drop {φ : Plc} {ok : Nat → Prop} {h : Heap} {w : World} (hr : Rel φ ok h w) (k0 : Nat) : Step φ φ ok ok h (h.upd k0 none) w w := by
  refine ⟨⟨hr.okLt, fun k hk => ?_, fun k A b s h1 h2 => ?_, fun k A h1 h2 => ?_, fun k k' A A' b s b' s' h1 h2 h3 h4 h5 => ?_, fun k A h1 => ?_⟩, Ext.refl _ _ _, Frame.refl _ _, fun b hb => ?_, fun _ h => .inl h⟩
  · have := hr.fresh k hk
    refine ⟨?_, this.2⟩
    simp only [Heap.upd]; split
    · rfl
    · exact this.1
  all_goals simp only [Heap.upd] at *
  · split at h1
    · cases h1
    · exact hr.lies k A b s h1 h2
  · split at h1
    · cases h1
    · exact hr.none_ k A h1 h2
  · split at h1
    · cases h1
    · split at h2
      · cases h2
      · exact hr.inj k k' A A' b s b' s' h1 h2 h3 h4 h5
  · split at h1
    · cases h1
    · exact hr.size k A h1
  · obtain ⟨k, A, s, h1, h2⟩ := hb
    simp only at h1
    split at h1
    · cases h1
    · exact .inl ⟨k, A, s, h1, h2⟩

/-- One cell of an own array is written. -/
theorem step_set {φ : Plc} {ok : Nat → Prop} {h : Heap} {w : World} (hr : Rel φ ok h w) {k : Nat} {A : Arr} {b s i j : Nat} {e : List AV} {x : AV} {y : Value}
    (hk : h.get k = some A) (hp : φ k = some (b, s)) (hi : A.es[i]? = some e) (hj : j < e.length) (hy : one y = true) (hx : RV φ ok w x y) :
    w.cell? ⟨b, s + i * A.sz + j, none⟩ ≠ none ∧ w.frozen? ⟨b, s + i * A.sz + j, none⟩ = false ∧
    Step φ φ ok ok h (h.upd k (some { A with es := A.es.set i (e.set j x) })) w (w.setCell ⟨b, s + i * A.sz + j, none⟩ y) := by
  obtain ⟨ho, C, h3, h4, h5⟩ := hr.lies k A b s hk hp
  have hlen := hr.size k A hk e (List.mem_of_getElem? hi)
  have hil : i < A.es.length := (List.getElem?_eq_some_iff.1 hi).1
  have hidx : s + i * A.sz + j < C.size := by
    have : (i + 1) * A.sz ≤ A.es.length * A.sz := Nat.mul_le_mul_right _ hil
    rw [Nat.add_mul, Nat.one_mul] at this
    omega
  have hcell : w.cell? ⟨b, s + i * A.sz + j, none⟩ = C[s + i * A.sz + j]? := cell_of_row w b _ C A.ty (0, 0) h3
  refine ⟨by rw [hcell]; simp [hidx], frozen_of_row w b _ C A.ty h3, ?_⟩
  have he : Ext φ φ ok ok w (w.setCell ⟨b, s + i * A.sz + j, none⟩ y) :=
    ⟨fun _ _ h => h, fun _ h => h, fun b' hb' => heap_setCell_other w _ b' y (fun (e : b' = b) => ho (e ▸ hb')), fun b' s' hs' => shape_setCell _ _ _ _ _ hs'⟩
  have hblk : (w.setCell ⟨b, s + i * A.sz + j, none⟩ y).heap[b]? = some (.cells (C.setIfInBounds (s + i * A.sz + j) y) A.ty (0, 0)) := heap_setCell_same w b _ C A.ty y h3
  refine ⟨⟨fun b' hb' => by have := hr.okLt b' hb'; simpa using this, fun k' hk' => ?_, fun k' B b' s' h1 h2 => ?_, fun k' B h1 h2 => ?_, fun k1 k2 B1 B2 b1 s1 b2 s2 g1 g2 g3 g4 g5 => ?_, fun k' B h1 => ?_⟩, he,
    ⟨rfl, rfl, rfl, by simp, fun b' _ hn => heap_setCell_other w _ b' y (fun (e : b' = b) => hn ⟨k, A, s, hk, e ▸ hp⟩), fun b' s' hs' => shape_setCell _ _ _ _ _ hs'⟩, fun b' hb' => ?_, fun _ h => .inl h⟩
  · have := hr.fresh k' hk'
    refine ⟨?_, this.2⟩
    simp only [Heap.upd]
    rw [if_neg (fun e => by subst e; rw [this.1] at hk; cases hk)]; exact this.1
  · by_cases hkk : k' = k
    · subst hkk
      simp only [Heap.upd, if_true, Option.some.injEq] at h1
      subst h1
      rw [hp] at h2; cases h2
      refine ⟨ho, _, hblk, by simpa using h4, fun i' j' e' x' h6 h7 => ?_⟩
      by_cases hii : i = i'
      · subst hii
        rw [List.getElem?_set_self hil] at h6; cases h6
        by_cases hjj : j = j'
        · subst hjj
          rw [List.getElem?_set_self hj] at h7; cases h7
          exact ⟨y, by simp [hidx], hy, hx.ext he⟩
        · rw [List.getElem?_set_ne hjj] at h7
          obtain ⟨y', h8, h9, h10⟩ := h5 i j' e x' hi h7
          refine ⟨y', ?_, h9, h10.ext he⟩
          rw [Array.getElem?_setIfInBounds_ne (by simp only at *; omega)]; exact h8
      · rw [List.getElem?_set_ne hii] at h6
        obtain ⟨y', h8, h9, h10⟩ := h5 i' j' e' x' h6 h7
        refine ⟨y', ?_, h9, h10.ext he⟩
        have hj' : j' < A.sz := by rw [← hr.size k' A hk e' (List.mem_of_getElem? h6)]; exact (List.getElem?_eq_some_iff.1 h7).1
        rw [Array.getElem?_setIfInBounds_ne (fun he => ?_)]; exact h8
        have hjs : j < A.sz := hlen ▸ hj
        have heq : i * A.sz + j = i' * A.sz + j' := by simp only at he; omega
        rcases Nat.lt_or_gt_of_ne hii with hlt | hgt
        · have : (i + 1) * A.sz ≤ i' * A.sz := Nat.mul_le_mul_right _ hlt
          rw [Nat.add_mul, Nat.one_mul] at this; omega
        · have : (i' + 1) * A.sz ≤ i * A.sz := Nat.mul_le_mul_right _ hgt
          rw [Nat.add_mul, Nat.one_mul] at this; omega
    · simp only [Heap.upd, hkk, if_false] at h1
      obtain ⟨ho', D, g3, g4, g5⟩ := hr.lies k' B b' s' h1 h2
      have hne : b' ≠ b := hr.inj k' k B A b' s' b s h1 hk h2 hp hkk
      exact ⟨ho', D, by rw [heap_setCell_other w _ b' y hne]; exact g3, g4, fun i j e x h6 h7 => let ⟨y, h8, h9, h10⟩ := g5 i j e x h6 h7; ⟨y, h8, h9, h10.ext he⟩⟩
  · by_cases hkk : k' = k
    · subst hkk; rw [hp] at h2; cases h2
    · simp only [Heap.upd, hkk, if_false] at h1; exact hr.none_ k' B h1 h2
  · have back : ∀ k' B, (h.upd k (some { A with es := A.es.set i (e.set j x) })).get k' = some B → ∃ B', h.get k' = some B' := fun k' B hB => by
      simp only [Heap.upd] at hB
      split at hB
      · subst_vars; exact ⟨A, hk⟩
      · exact ⟨B, hB⟩
    obtain ⟨B1', g1'⟩ := back _ _ g1
    obtain ⟨B2', g2'⟩ := back _ _ g2
    exact hr.inj k1 k2 B1' B2' b1 s1 b2 s2 g1' g2' g3 g4 g5
  · by_cases hkk : k' = k
    · subst hkk
      simp only [Heap.upd, if_true, Option.some.injEq] at h1
      subst h1
      intro e' he'
      rcases List.mem_or_eq_of_mem_set he' with h' | h'
      · exact hr.size k' A hk e' h'
      · subst h'; simpa using hlen
    · simp only [Heap.upd, hkk, if_false] at h1; exact hr.size k' B h1
  · obtain ⟨k', B, s', h1, h2⟩ := hb'
    by_cases hkk : k' = k
    · subst hkk; exact .inl ⟨k', A, s', hk, h2⟩
    · simp only [Heap.upd, hkk, if_false] at h1; exact .inl ⟨k', B, s', h1, h2⟩

end Go.Proofs.Dv
