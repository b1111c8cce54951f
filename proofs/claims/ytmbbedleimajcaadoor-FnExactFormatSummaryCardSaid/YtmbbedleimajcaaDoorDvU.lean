/- The library's contracts as judgements; what strconv.Itoa writes. -/
import Derived.Test.YtmbbedleimajcaaDoorDvS
import Derived.Sort.Grow
import Derived.Lib.ItoaLen
import Derived.Shelf.Strconv.Itoa3
namespace Go.Proofs.Dv
open Go Go.RowKit
set_option linter.unusedSimpArgs false
set_option linter.unusedVariables false

theorem step_drewN {φ : Plc} {ok : Nat → Prop} {h : Heap} {w : World} (hr : Rel φ ok h w) : ∀ k, Step φ φ ok ok h h w (w.drewN k)
  | 0 => Step.refl hr
  | k + 1 => by
    have := step_drewN hr k
    exact this.trans (Step.drew this.rel)

theorem step_grow {φ : Plc} {ok : Nat → Prop} {h : Heap} : ∀ (os : List Obj) {w : World}, Rel φ ok h w → Step φ φ ok ok h h w (Sort.grow w os.toArray)
  | [], w, hr => by
    have : Sort.grow w #[] = w := by simp [Sort.grow]
    rw [this]; exact Step.refl hr
  | o :: os, w, hr => by
    have h1 := step_garbage hr o
    have h2 := step_grow os h1.rel
    have : Sort.grow (w.alloc o) os.toArray = Sort.grow w (o :: os).toArray := by
      simp only [Sort.grow, World.alloc]
      congr 1
      apply Array.ext'
      simp
    rw [this] at h2
    exact h1.trans h2

theorem step_grown {φ : Plc} {ok : Nat → Prop} {h : Heap} {w w' : World} (hr : Rel φ ok h w) (hw : ∃ k os, w' = Sort.grow (w.drewN k) os) : Step φ φ ok ok h h w w' := by
  obtain ⟨k, os, rfl⟩ := hw
  have h1 := step_drewN hr k
  have h2 := step_grow os.toList h1.rel
  simpa using h1.trans h2

/-- A contract of the library: a plain result, and nothing of ours has turned. -/
theorem ret_lib {P : Program} {f : FuncId} {args : List AV} {h : Heap} {x : Value} (hen : enterB P f = true)
    (hc : ∀ φ ok w vs, Gl P ok w → Rel φ ok h w → RVs φ ok w args vs → Calls P f vs w fun e w' => e = .returned x ∧ ∃ k os, w' = Sort.grow (w.drewN k) os) : Ret P f args h (.v x) h := by
  refine ⟨hen, fun φ ok w vs hG hR hv => (hc φ ok w vs hG hR hv).mono ?_⟩
  rintro e w' ⟨rfl, hw⟩
  exact ⟨x, φ, ok, rfl, step_grown hR hw, .v x⟩

theorem RVs.one {φ : Plc} {ok : Nat → Prop} {w : World} {x : Value} {vs : Array Value} (h : RVs φ ok w [.v x] vs) : vs = #[x] := by
  obtain ⟨h1, h2⟩ := h
  obtain ⟨l⟩ := vs
  match l, h1 with
  | [y], _ =>
    have := h2 0 (.v x) y rfl rfl
    cases this; rfl

theorem RVs.two {φ : Plc} {ok : Nat → Prop} {w : World} {x y : Value} {vs : Array Value} (h : RVs φ ok w [.v x, .v y] vs) : vs = #[x, y] := by
  obtain ⟨h1, h2⟩ := h
  obtain ⟨l⟩ := vs
  match l, h1 with
  | [p, q], _ =>
    have a := h2 0 (.v x) p rfl rfl
    have b := h2 1 (.v y) q rfl rfl
    cases a; cases b; rfl

theorem itoa_len {n : Int} (h : In64 n) : (Lib.itoa n).length ≤ 21 := Lib.itoa_length_le n h.1 h.2

/-! What a decimal loop writes. -/
/-- The loop of spec.FormatInt: digits in front, while n is not 0. -/
def digs (n : Int) (out : List UInt8) : List UInt8 :=
  if h : n = 0 then out else digs (n.tdiv 10) (UInt8.ofNat (48 + (n.tmod 10).natAbs) :: out)
termination_by n.natAbs
decreasing_by
  have : (n.tdiv 10).natAbs = n.natAbs / 10 := by rw [Int.natAbs_tdiv]; rfl
  omega

theorem digs_nat : ∀ (n : Nat) (m : Int) (out : List UInt8), m.natAbs = n → n ≠ 0 → digs m out = Lib.decDigits n ++ out := by
  intro n
  induction n using Nat.strongRecOn with
  | _ n ih =>
    intro m out hm hn
    have h0 : m ≠ 0 := by omega
    rw [digs, dif_neg h0]
    have h1 : (m.tdiv 10).natAbs = n / 10 := by rw [Int.natAbs_tdiv, hm]; rfl
    have h2 : (m.tmod 10).natAbs = n % 10 := by rw [Int.natAbs_tmod, hm]; rfl
    rw [h2]
    by_cases h : n < 10
    · have h3 : m.tdiv 10 = 0 := by rw [← Int.natAbs_eq_zero, h1]; omega
      rw [h3, digs, dif_pos rfl, Lib.decDigits_one h, Nat.mod_eq_of_lt h]; rfl
    · rw [ih (n / 10) (by omega) (m.tdiv 10) _ h1 (by omega)]
      conv => rhs; rw [Lib.decDigits, dif_neg h]
      simp

theorem digs_itoa (n : Int) (h : n ≠ 0) : (if n < 0 then 45 :: digs n [] else digs n []) = Lib.itoa n := by
  rw [digs_nat n.natAbs n [] rfl (by omega)]
  simp only [List.append_nil, Lib.itoa]
  by_cases hn : n < 0
  · simp only [hn, if_true]
  · simp only [hn, if_false]
    congr 1; omega
theorem itoa_zero : Lib.itoa 0 = [48] := by rw [Lib.itoa, if_neg (by decide)]; exact Lib.decDigits_one (by decide)

end Go.Proofs.Dv
