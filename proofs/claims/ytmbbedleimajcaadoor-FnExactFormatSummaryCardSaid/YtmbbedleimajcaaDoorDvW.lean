/- strings.Join as a judgement. -/
import Derived.Test.YtmbbedleimajcaaDoorDvZ
import Derived.Below
import Derived.Shelf.Strings.OnBuilder
namespace Go.Proofs.Dv
open Go Go.RowKit
set_option linter.unusedSimpArgs false
set_option linter.unusedVariables false

theorem step_below {φ : Plc} {ok : Nat → Prop} {h : Heap} {w w' : World} (hr : Rel φ ok h w) (hb : Below w.heap.size w w') : Step φ φ ok ok h h w w' :=
  step_keep hr ⟨hb.os, hb.tape, hb.output, hb.size, fun b hlt _ => hb.block b hlt, fun b s hs => by
    have hlt : b < w.heap.size := by
      rcases Nat.lt_or_ge b w.heap.size with h' | h'
      · exact h'
      · simp [World.shape?, Array.getElem?_eq_none h'] at hs
    simpa [World.shape?, hb.block b hlt] using hs⟩ (fun _ h => h) (fun _ h => .inl h)

theorem view_hs {h : Heap} {k sz lo len : Nat} {es : List (List AV)} (he : elems h (.hs k sz lo len) = some (sz, es)) (hp : ∀ e ∈ es, ∀ a ∈ e, Pure a) : View h (.hs k sz lo len) (.cs sz es) :=
  .hs he rfl (fun i e e' h1 h2 => by rw [h1] at h2; cases h2; rfl) fun i j e e' a b h1 h2 h3 h4 => by
    rw [h1] at h2; cases h2
    rw [h3] at h4; cases h4
    exact .pure (hp e (List.mem_of_getElem? h1) a (List.mem_of_getElem? h3))

theorem ret_join {P : Program} {f : FuncId} (hen : enterB P f = true)
    (hJ0 : ∀ (a : Option Addr) (c : Nat) (sep : ByteArray) (w : World), Calls P f #[.slice a 0 c, .string sep] w fun e w' => e = .returned (.string ⟨#[]⟩) ∧ w' = w)
    (hJ : ∀ (bk o c : Nat) (xs : List ByteArray) (sep : ByteArray) (w : World), (∀ (j : Nat) x, xs[j]? = some x → w.cell? ⟨bk, o + j, none⟩ = some (.string x)) → bk < w.heap.size → xs.length ≤ 140737488355328 → xs.length ≤ c →
      (Lib.join (xs.map (·.data.toList)) sep.data.toList).length ≤ 140737488355328 →
      Calls P f #[.slice (some ⟨bk, o, none⟩) xs.length c, .string sep] w fun e w' => e = .returned (.string ⟨(Lib.join (xs.map (·.data.toList)) sep.data.toList).toArray⟩) ∧ Below w.heap.size w w')
    {a : AV} {h : Heap} (xs : List (List UInt8)) (sep : List UInt8) (he : elems h a = some (1, xs.map fun x => [S x])) (hn : xs.length ≤ 140737488355328) (hl : (Lib.join xs sep).length ≤ 140737488355328) :
    Ret P f [a, S sep] h (S (Lib.join xs sep)) h := by
  refine ⟨hen, fun φ ok w vs hG hR hv => ?_⟩
  obtain ⟨h1, h2⟩ := hv
  obtain ⟨p, q, rfl⟩ : ∃ p q, vs = #[p, q] := by
    obtain ⟨l⟩ := vs
    match l, h1 with
    | [p, q], _ => exact ⟨p, q, rfl⟩
  have ha := h2 0 a p rfl rfl
  have hs := h2 1 (S sep) q rfl rfl
  cases hs
  obtain ⟨ad, c, rfl, hc, ⟨_, hat⟩, hne⟩ := elems_sound hR ha he
  rw [List.length_map] at hc
  rw [List.length_map]
  by_cases hx : xs = []
  · subst hx
    refine (hJ0 ad c ⟨sep.toArray⟩ w).mono ?_
    rintro e w' ⟨rfl, rfl⟩
    exact ⟨_, φ, ok, rfl, Step.refl hR, .v _⟩
  · obtain ⟨b, o, hb⟩ := hne (by simpa using hx)
    subst hb
    have hcell : ∀ (j : Nat) x, (xs.map fun x => (⟨x.toArray⟩ : ByteArray))[j]? = some x → w.cell? ⟨b, o + j, none⟩ = some (.string x) := fun j x hj => by
      simp only [List.getElem?_map, Option.map_eq_some_iff] at hj
      obtain ⟨y, hy, rfl⟩ := hj
      obtain ⟨b', o', z, h3, h4, _, h6⟩ := hat j 0 [S y] (S y) (by simp [hy]) rfl
      cases h3
      cases h6
      simpa using h4
    have hlt : b < w.heap.size := by
      cases xs with
      | nil => exact absurd rfl hx
      | cons y ys => exact (spot_lt (hcell 0 _ rfl))
    have hm : (xs.map fun x => (⟨x.toArray⟩ : ByteArray)).map (·.data.toList) = xs := by simp [List.map_map, Function.comp_def]
    have := hJ b o c (xs.map fun x => ⟨x.toArray⟩) ⟨sep.toArray⟩ w hcell hlt (by simpa using hn) (by simpa using hc) (by rw [hm]; simpa using hl)
    rw [hm, List.length_map] at this
    refine this.mono ?_
    rintro e w' ⟨rfl, hbl⟩
    exact ⟨_, φ, ok, rfl, step_below hR hbl, .v _⟩
where
  spot_lt {w : World} {a : Addr} {v : Value} (h : w.cell? a = some v) : a.block < w.heap.size := by
    unfold World.cell? at h
    split at h
    · rename_i c _ _ hb
      exact (Array.getElem?_eq_some_iff.1 hb).1
    · cases h

end Go.Proofs.Dv
