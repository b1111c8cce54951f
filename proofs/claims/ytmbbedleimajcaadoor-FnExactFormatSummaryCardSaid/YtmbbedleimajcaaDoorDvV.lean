import Derived.Test.YtmbbedleimajcaaDoorDvU
namespace Go.Proofs.Dv
open Go Go.RowKit
/-- A heap whose arrays are listed. -/
def hl (l : List (Option Arr)) : Heap := ⟨fun k => (l[k]?).join, l.length⟩
theorem empty_hl : Heap.empty = hl [] := by simp [Heap.empty, hl]
@[simp] theorem hl_next (l : List (Option Arr)) : (hl l).next = l.length := rfl
@[simp] theorem hl_get (l : List (Option Arr)) (k : Nat) : (hl l).get k = (l[k]?).join := rfl
@[simp] theorem hl_add (l : List (Option Arr)) (A : Arr) : (hl l).add A = hl (l ++ [some A]) := by
  simp only [Heap.add, hl, Heap.mk.injEq, List.length_append, List.length_singleton, and_true]
  funext k
  by_cases h : k = l.length
  · subst h; simp
  · simp only [h, if_false]
    by_cases h' : k < l.length
    · rw [List.getElem?_append_left h']
    · rw [List.getElem?_eq_none (by omega), List.getElem?_eq_none (by simp; omega)]
@[simp] theorem hl_upd (l : List (Option Arr)) (k : Nat) (a : Option Arr) (h : k < l.length) : (hl l).upd k a = hl (l.set k a) := by
  simp only [Heap.upd, hl, Heap.mk.injEq, List.length_set, and_true]
  funext j
  by_cases hj : j = k
  · subst hj; simp [h]
  · simp only [hj, if_false]
    rw [List.getElem?_set_ne (fun e => hj e.symm)]
end Go.Proofs.Dv
