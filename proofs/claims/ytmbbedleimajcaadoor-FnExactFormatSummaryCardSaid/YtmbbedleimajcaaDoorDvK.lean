/- One operation: soundness. Calls, code, functions. -/
import Derived.Test.YtmbbedleimajcaaDoorDvJ
namespace Go.Proofs.Dv
open Go Go.RowKit
set_option linter.unusedSimpArgs false
set_option linter.unusedVariables false

theorem BV_map {φ : Plc} {ok : Nat → Prop} {w : World} {ρ : Operand → AV} {ρr : Operand → Value} (hρ : ∀ x, RV φ ok w (ρ x) (ρr x)) (x : Option Operand) : BV φ ok w (x.map ρ) (x.map ρr) := by
  cases x with
  | none => trivial
  | some x => exact hρ x

theorem RV.v_inv {φ : Plc} {ok : Nat → Prop} {w : World} {x y : Value} (h : RV φ ok w (.v x) y) : y = x := by cases h; rfl

theorem list_two {α : Type} {a : Array α} {x y : α} (h : a.toList = [x, y]) : a = #[x, y] := by
  cases a; simp only at h; subst h; rfl
theorem list_one {α : Type} {a : Array α} {x : α} (h : a.toList = [x]) : a = #[x] := by
  cases a; simp only at h; subst h; rfl

theorem builtin_sound {P : Program} {φ : Plc} {ok : Nat → Prop} {h h' : Heap} {w : World} {b : Builtin} {ats : Array TypeId} {ty : TypeId} {cs : Array Bool} {args : Array Operand} {r : AV} {ρ : Operand → AV} {ρr : Operand → Value}
    (hR : Rel φ ok h w) (hρ : ∀ x, RV φ ok w (ρ x) (ρr x)) (ho : opBuiltin P h b ats (args.toList.map ρ) = some (r, h')) : Does P (builtin b ats ty cs (args.map ρr)) φ ok h w r h' := by
  unfold opBuiltin at ho
  split at ho
  · rename_i t x ha hx
    have hats := list_one ha
    obtain ⟨o, ho1, ho2⟩ : ∃ o, args.toList = [o] ∧ ρ o = x := by
      cases hl : args.toList with
      | nil => simp [hl] at hx
      | cons o l => cases l with
        | nil => simp [hl] at hx; exact ⟨o, rfl, hx⟩
        | cons _ _ => simp [hl] at hx
    have hargs := list_one ho1
    subst hargs hats ho2
    cases hl : opLen P t (ρ o) with
    | none => simp [hl] at ho
    | some r' =>
      simp [hl] at ho
      obtain ⟨rfl, rfl⟩ := ho
      exact Does.of hR (by simpa using len_sound (ty := ty) #[t] rfl (hρ o) hl)
  · rename_i t u x y ha hx
    have hats := list_two ha
    obtain ⟨o, o', ho1, ho2, ho3⟩ : ∃ o o', args.toList = [o, o'] ∧ ρ o = x ∧ ρ o' = y := by
      match hl : args.toList, hx with
      | [o, o'], hx => simp at hx; exact ⟨o, o', rfl, hx.1, hx.2⟩
    have hargs := list_two ho1
    subst hargs hats ho2 ho3
    exact Does.of' (by simpa using append_sound (ty := ty) hR (hρ o) (hρ o') ho)
  · rename_i x y hx
    obtain ⟨o, o', ho1, ho2, ho3⟩ : ∃ o o', args.toList = [o, o'] ∧ ρ o = x ∧ ρ o' = y := by
      match hl : args.toList, hx with
      | [o, o'], hx => simp at hx; exact ⟨o, o', rfl, hx.1, hx.2⟩
    have hargs := list_two ho1
    subst hargs ho2 ho3
    cases hm : mm false (ρ o) (ρ o') with
    | none => simp [hm] at ho
    | some r' =>
      simp [hm] at ho
      obtain ⟨rfl, rfl⟩ := ho
      obtain ⟨z, h1, h2⟩ := mm_sound (P := P) (hρ o) (hρ o') hm
      exact Does.of hR ⟨z, by simpa [Builtin.min_] using h1, h2⟩
  · rename_i x y hx
    obtain ⟨o, o', ho1, ho2, ho3⟩ : ∃ o o', args.toList = [o, o'] ∧ ρ o = x ∧ ρ o' = y := by
      match hl : args.toList, hx with
      | [o, o'], hx => simp at hx; exact ⟨o, o', rfl, hx.1, hx.2⟩
    have hargs := list_two ho1
    subst hargs ho2 ho3
    cases hm : mm true (ρ o) (ρ o') with
    | none => simp [hm] at ho
    | some r' =>
      simp [hm] at ho
      obtain ⟨rfl, rfl⟩ := ho
      obtain ⟨z, h1, h2⟩ := mm_sound (P := P) (hρ o) (hρ o') hm
      exact Does.of hR ⟨z, by simpa [Builtin.max_] using h1, h2⟩
  · cases ho

theorem opv_sound {P : Program} {φ : Plc} {ok : Nat → Prop} {h h' : Heap} {w : World} {o : Oper} {r : AV} {ρ : Operand → AV} {ρr : Operand → Value}
    (hR : Rel φ ok h w) (hρ : ∀ x, RV φ ok w (ρ x) (ρr x)) (hcn : ∀ v, ρr (.const v) = v) (ho : opv P ρ h o.op = some (r, h')) : Does P (execOp ρr o) φ ok h w r h' := by
  obtain ⟨dst, op, type, pos, after, guard⟩ := o
  simp only at ho
  unfold opv at ho
  split at ho
  · cases ho; exact .same hR rfl (hρ _)
  · cases ho; exact .same hR rfl (hρ _)
  · rename_i c a b
    split at ho
    · rename_i t hc
      cases ho
      have hcr : ρr c = .bool t := by have := hρ c; rw [hc] at this; exact this.v_inv
      refine .same hR (v := if t then ρr a else ρr b) (by simp [execOp, hcr, asBool]) ?_
      cases t
      · exact hρ b
      · exact hρ a
    · cases ho
  · obtain ⟨v, w', φ', h1, h2, h3⟩ := alloc_sound hR ho
    exact Does.of' ⟨v, w', φ', h1, h2, h3⟩
  · exact Does.of' (box_sound hR (hρ _) ho)
  · rename_i t a
    cases hl : opLoad P h t (ρ a) with
    | none => simp [hl] at ho
    | some q =>
      simp [hl] at ho
      obtain ⟨rfl, rfl⟩ := ho
      exact Does.of hR (load_sound hR (hρ a) hl)
  · rename_i t a x
    cases hl : opStore P h t (ρ a) (ρ x) with
    | none => simp [hl] at ho
    | some q =>
      simp [hl] at ho
      obtain ⟨rfl, rfl⟩ := ho
      obtain ⟨w', h1, h2⟩ := store_sound hR (hρ a) (hρ x) hl
      exact ⟨undef, w', .inr ⟨by simp [execOp, h1], rfl⟩, φ, ok, h2, .v _⟩
  · rename_i x
    have hx := hρ x
    split at ho
    · rename_i hx'
      cases ho
      rw [hx'] at hx
      refine .same hR (v := ρr x) ?_ (by rw [hx']; exact hx)
      simp only [execOp]
      generalize ρr x = y at hx
      cases hx; rfl
    · rename_i hx'
      cases ho
      rw [hx'] at hx
      refine .same hR (v := ρr x) ?_ (by rw [hx']; exact hx)
      simp only [execOp]
      generalize ρr x = y at hx
      cases hx; rfl
    · rename_i hx'
      cases ho
      rw [hx'] at hx
      refine .same hR (v := ρr x) ?_ (by rw [hx']; exact hx)
      simp only [execOp]
      generalize ρr x = y at hx
      cases hx; rfl
    · cases ho
  · rename_i op t x y yt
    split at ho
    · rename_i hy
      have hy' : y = .const (.slice none 0 0) := by
        unfold isNilC at hy
        split at hy
        · rfl
        · cases hy
      subst hy'
      cases hl : opNil P op t (ρ x) with
      | none => simp [hl] at ho
      | some q =>
        simp [hl] at ho
        obtain ⟨rfl, rfl⟩ := ho
        refine Does.of hR ?_
        rw [hcn]
        exact opNil_sound (hρ x) hl
    · cases hl : opBin P op t (ρ x) (ρ y) with
      | none => simp [hl] at ho
      | some q =>
        simp [hl] at ho
        obtain ⟨rfl, rfl⟩ := ho
        exact Does.of hR (opBin_sound (hρ x) (hρ y) hl)
  · rename_i op t x
    split at ho
    · rename_i a hx
      cases hu : unv op a with
      | none => simp [hu] at ho
      | some q =>
        simp [hu] at ho
        obtain ⟨rfl, rfl⟩ := ho
        have hxr : ρr x = a := by have := hρ x; rw [hx] at this; exact this.v_inv
        exact Does.of hR ⟨q, by rw [hxr]; exact unv_sound hu w, .v q⟩
    · cases ho
  · rename_i s d x
    cases hl : opConv P h s d (ρ x) with
    | none => simp [hl] at ho
    | some q =>
      simp [hl] at ho
      obtain ⟨rfl, rfl⟩ := ho
      exact Does.of hR (opConv_sound hR (hρ x) hl)
  · rename_i f first caps
    split at ho
    · rename_i hf
      cases ho
      have hf' : first = #[] := Array.eq_empty_of_size_eq_zero hf
      subst hf'
      refine .same hR (v := .func (.func f) #[] (caps.map ρr)) (by simp [execOp, Instr.makeFunc]) (.clo (by simp) fun i a y h1 h2 => ?_)
      cases hc : caps[i]? with
      | none => simp [hc] at h1
      | some c =>
        simp [hc] at h1 h2
        subst h1 h2; exact hρ c
    · cases ho
  · exact Does.of' (make_sound hR (hρ _) (hρ _) ho)
  · rename_i t x lo hi
    cases hl : opSlice P t (ρ x) (lo.map ρ) (hi.map ρ) with
    | none => simp [hl] at ho
    | some q =>
      simp [hl] at ho
      obtain ⟨rfl, rfl⟩ := ho
      exact Does.of hR (slice_sound (hρ x) (BV_map hρ lo) (BV_map hρ hi) hl)
  · rename_i t x f
    cases hl : opField P t (ρ x) f with
    | none => simp [hl] at ho
    | some q =>
      simp [hl] at ho
      obtain ⟨rfl, rfl⟩ := ho
      exact Does.of hR (field_sound (hρ x) hl)
  · rename_i t x i
    cases hl : opIndexAddr P t (ρ x) (ρ i) with
    | none => simp [hl] at ho
    | some q =>
      simp [hl] at ho
      obtain ⟨rfl, rfl⟩ := ho
      exact Does.of hR (indexAddr_sound (hρ x) (hρ i) hl)
  · rename_i t x i
    cases hl : opIndex P t (ρ x) (ρ i) with
    | none => simp [hl] at ho
    | some q =>
      simp [hl] at ho
      obtain ⟨rfl, rfl⟩ := ho
      exact Does.of hR (opIndex_sound (hρ x) (hρ i) hl)
  · rename_i x i
    cases hl : opExtract (ρ x) i with
    | none => simp [hl] at ho
    | some q =>
      simp [hl] at ho
      obtain ⟨rfl, rfl⟩ := ho
      exact Does.of hR (extract_sound (hρ x) hl)
  · rename_i t ps
    cases hl : opBuild P t (ps.toList.map fun p => (p.1, ρ p.2)) with
    | none => simp [hl] at ho
    | some q =>
      simp [hl] at ho
      obtain ⟨rfl, rfl⟩ := ho
      have := build_sound (P := P) (φ := φ) (ok := ok) (w := w) (t := t) (ps := ps.toList.map fun p => (p.1, ρ p.2, ρr p.2)) (r := q) (fun p hp => by
        obtain ⟨x, _, rfl⟩ := List.mem_map.1 hp; exact hρ _) (by simpa [List.map_map, Function.comp_def] using hl)
      refine Does.of hR ?_
      have e : (ps.map fun (i, x) => (i, ρr x)) = (List.map (fun p => (p.1, p.2.2)) (ps.toList.map fun p => (p.1, ρ p.2, ρr p.2))).toArray := by
        apply Array.ext'; simp [List.map_map, Function.comp_def]
      rw [e]; exact this
  · rename_i t n ps
    have := buildSlice_sound (P := P) (φ := φ) (ok := ok) (w := w) (t := t) (len := n) (ps := ps.toList.map fun p => (p.1, ρ p.2, ρr p.2)) (r := r) (h' := h') hR (fun p hp => by
        obtain ⟨x, _, rfl⟩ := List.mem_map.1 hp; exact hρ _) (by simpa [List.map_map, Function.comp_def] using ho)
    refine Does.of' ?_
    have e : (ps.map fun (i, x) => (i, ρr x)) = (List.map (fun p => (p.1, p.2.2)) (ps.toList.map fun p => (p.1, ρ p.2, ρr p.2))).toArray := by
      apply Array.ext'; simp [List.map_map, Function.comp_def]
    rw [e]; exact this
  · rename_i b args ats
    exact builtin_sound (ty := type) hR hρ ho
  · cases ho

end Go.Proofs.Dv
