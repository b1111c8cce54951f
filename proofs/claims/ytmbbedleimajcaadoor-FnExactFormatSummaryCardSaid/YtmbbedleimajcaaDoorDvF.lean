/- Slices cut, made, written out, and structs built. -/
import Derived.Test.YtmbbedleimajcaaDoorDvE
namespace Go.Proofs.Dv
open Go Go.RowKit
set_option linter.unusedSimpArgs false
set_option linter.unusedVariables false
set_option linter.unnecessarySimpa false

/-- A bound of a slice expression. -/
def bnd (x : Option AV) (d : Nat) : Option Nat :=
  match x with
  | none => some d
  | some (.v (.int _ m)) => if 0 ≤ m then some m.toNat else none
  | _ => none

def opSlice (P : Program) (t : TypeId) (x : AV) (lo hi : Option AV) : Option AV :=
  match x with
  | .hs k sz l0 len => (selem P t).bind fun e => (tsz P e).bind fun n => (bnd lo 0).bind fun l => (bnd hi len).bind fun h =>
    if n = sz ∧ l ≤ h ∧ h ≤ len then some (.hs k sz (l0 + l) (h - l)) else none
  | .cs sz es => (selem P t).bind fun e => (tsz P e).bind fun n => (bnd lo 0).bind fun l => (bnd hi es.length).bind fun h =>
    if n = sz ∧ l ≤ h ∧ h ≤ es.length then some (.cs sz ((es.drop l).take (h - l))) else none
  | .emp => (selem P t).bind fun e => (tsz P e).bind fun _ => (bnd lo 0).bind fun l => (bnd hi 0).bind fun h => if l = 0 ∧ h = 0 then some .emp else none
  | .v (.string s) => match seqKind P t with
    | some true => (bnd lo 0).bind fun l => (bnd hi s.size).bind fun h => if l ≤ h ∧ h ≤ s.size then some (.v (.string (s.extract l h))) else none
    | _ => none
  | _ => none

/-- A bound and its value. -/
def BV (φ : Plc) (ok : Nat → Prop) (w : World) (x : Option AV) (y : Option Value) : Prop :=
  match x, y with
  | none, none => True
  | some a, some v => RV φ ok w a v
  | _, _ => False

theorem bound_run {P : Program} {φ : Plc} {ok : Nat → Prop} {w : World} {a : AV} {v : Value} {d m y : Nat} (code : BoundsCode) (ha : RV φ ok w a v) (h : bnd (some a) d = some m) (hm : m ≤ y) : (Instr.sliceBound v y code).run P w = .ok m w := by
  unfold bnd at h
  split at h
  · simp_all
  · rename_i heq; cases heq
    split at h
    · rename_i h0; cases h
      cases ha
      simp [Instr.sliceBound, asIntOf, h0]; omega
    · cases h
  · cases h

theorem bounds_run {P : Program} {φ : Plc} {ok : Nat → Prop} {w : World} {lo hi : Option AV} {ylo yhi : Option Value} (isS : Bool) {len cap l h : Nat} (hl : BV φ ok w lo ylo) (hh : BV φ ok w hi yhi)
    (h1 : bnd lo 0 = some l) (h2 : bnd hi len = some h) (hle : l ≤ h) (hc : h ≤ cap) :
    (Instr.sliceBounds isS len cap ylo yhi none).run P w = .ok (l, h, cap) w := by
  cases lo with
  | none =>
    cases ylo with
    | some _ => exact hl.elim
    | none =>
      simp [bnd] at h1
      subst h1
      cases hi with
      | none =>
        cases yhi with
        | some _ => exact hh.elim
        | none => simp [bnd] at h2; subst h2; simp [Instr.sliceBounds]
      | some b =>
        cases yhi with
        | none => exact hh.elim
        | some z => simp [Instr.sliceBounds, bound_run _ hh h2 hc]
  | some a =>
    cases ylo with
    | none => exact hl.elim
    | some y =>
      cases hi with
      | none =>
        cases yhi with
        | some _ => exact hh.elim
        | none => simp [bnd] at h2; subst h2; simp [Instr.sliceBounds, bound_run _ hl h1 hle]
      | some b =>
        cases yhi with
        | none => exact hh.elim
        | some z => simp [Instr.sliceBounds, bound_run _ hh h2 hc, bound_run _ hl h1 hle]

theorem slice_sound {P : Program} {φ : Plc} {ok : Nat → Prop} {w : World} {t : TypeId} {a r : AV} {x : Value} {lo hi : Option AV} {ylo yhi : Option Value} (ha : RV φ ok w a x) (hl : BV φ ok w lo ylo) (hh : BV φ ok w hi yhi) (ho : opSlice P t a lo hi = some r) :
    ∃ v, (Instr.sliceAt t x ylo yhi none).run P w = .ok v w ∧ RV φ ok w r v := by
  unfold opSlice at ho
  split at ho
  · rename_i k sz l0 len
    cases he : selem P t with
    | none => simp [he] at ho
    | some e =>
    cases hn : tsz P e with
    | none => simp [he, hn] at ho
    | some n =>
    cases h1 : bnd lo 0 with
    | none => simp [he, h1] at ho
    | some l =>
    cases h2 : bnd hi len with
    | none => simp [he, h1, h2] at ho
    | some h =>
    simp only [he, hn, h1, h2, Option.bind_some] at ho
    split at ho
    · rename_i hc
      obtain ⟨hsz, hlh, hhl⟩ := hc
      cases ho
      have hu := selem_run he
      cases ha with
      | @hs _ _ _ _ ad c hlen hcap =>
        refine ⟨.slice (if c = l then ad else ad.map (·.add (l * n))) (h - l) (c - l), ?_, ?_⟩
        · simp [Instr.sliceAt, run_underlying hu, Instr.slice, bounds_run true hl hh h1 h2 hlh (Nat.le_trans hhl hlen), tsz_run hn]
        · refine .hs (by omega) fun h0 => ?_
          obtain ⟨b, s, q, h3, h4, h5, h6⟩ := hcap (by omega)
          subst h4
          rw [if_neg (by omega)]
          have e7 : l0 + l + (c - l) = l0 + c := by rw [Nat.add_assoc, Nat.add_sub_of_le (Nat.le_trans hlh (Nat.le_trans hhl hlen))]
          refine ⟨b, s, q, h3, ?_, h5, by rw [e7]; exact h6⟩
          simp only [Option.map_some, addr_add, hsz, Nat.add_mul, Nat.add_assoc]
    · cases ho
  · rename_i sz es
    cases he : selem P t with
    | none => simp [he] at ho
    | some e =>
    cases hn : tsz P e with
    | none => simp [he, hn] at ho
    | some n =>
    cases h1 : bnd lo 0 with
    | none => simp [he, h1] at ho
    | some l =>
    cases h2 : bnd hi es.length with
    | none => simp [he, h1, h2] at ho
    | some h =>
    simp only [he, hn, h1, h2, Option.bind_some] at ho
    split at ho
    · rename_i hc
      obtain ⟨hsz, hlh, hhl⟩ := hc
      cases ho
      have hu := selem_run he
      cases ha with
      | @cs _ _ ad c hlen hz hb y hcell hone hr =>
        have hl' : ((es.drop l).take (h - l)).length = h - l := by simp; omega
        have get : ∀ (i : Nat) e, ((es.drop l).take (h - l))[i]? = some e → es[l + i]? = some e ∧ i < h - l := fun i e hi => by
          have hlt : i < h - l := by
            have := (List.getElem?_eq_some_iff.1 hi).1
            omega
          rw [List.getElem?_take_of_lt hlt, List.getElem?_drop] at hi
          exact ⟨hi, hlt⟩
        refine ⟨.slice (if c = l then ad else ad.map (·.add (l * n))) ((es.drop l).take (h - l)).length (c - l), ?_, ?_⟩
        · rw [hl']
          simp [Instr.sliceAt, run_underlying hu, Instr.slice, bounds_run true hl hh h1 h2 hlh (Nat.le_trans hhl hlen), tsz_run hn]
        · refine .cs (by omega) (fun e he => hz e ?_) (fun hne => ?_) (fun i j => y (l + i) j) (fun i j e x b o h3 h4 h5 => ?_) (fun i j e x h3 h4 => ?_) (fun i j e x h3 h4 => ?_)
          · obtain ⟨i, hi⟩ := List.getElem?_of_mem he
            exact List.mem_of_getElem? (get i e hi).1
          · have h0 : 0 < h - l := by
              rw [← hl']; exact List.length_pos_iff.2 hne
            have hne' : es ≠ [] := by intro e; subst e; simp at hhl; omega
            obtain ⟨b, o, h3, h4⟩ := hb hne'
            subst h3
            exact ⟨b, o + l * n, by rw [if_neg (by omega)]; simp [addr_add], h4⟩
          · obtain ⟨h6, h7⟩ := get i e h3
            have hne' : es ≠ [] := by intro e; subst e; simp at h6
            obtain ⟨b', o', h8, h9⟩ := hb hne'
            subst h8
            rw [if_neg (by omega)] at h5
            simp only [Option.map_some, addr_add, Option.some.injEq, Addr.mk.injEq] at h5
            obtain ⟨rfl, rfl, _⟩ := h5
            have := hcell (l + i) j e x _ _ h6 h4 rfl
            rw [hsz]
            have e3 : o' + l * sz + i * sz + j = o' + (l + i) * sz + j := by rw [Nat.add_mul]; omega
            rw [e3]; exact this
          · exact hone (l + i) j e x (get i e h3).1 h4
          · exact hr (l + i) j e x (get i e h3).1 h4
    · cases ho
  · cases he : selem P t with
    | none => simp [he] at ho
    | some e =>
    cases hn : tsz P e with
    | none => simp [he, hn] at ho
    | some n =>
    cases h1 : bnd lo 0 with
    | none => simp [he, h1] at ho
    | some l =>
    cases h2 : bnd hi 0 with
    | none => simp [he, h1, h2] at ho
    | some h =>
    simp only [he, hn, h1, h2, Option.bind_some] at ho
    split at ho
    · rename_i hc
      obtain ⟨rfl, rfl⟩ := hc
      cases ho
      have hu := selem_run he
      cases ha with
      | emp ad => exact ⟨.slice ad 0 0, by simp [Instr.sliceAt, run_underlying hu, Instr.slice, bounds_run true hl hh h1 h2 (Nat.le_refl _) (Nat.le_refl _), tsz_run hn], .emp ad⟩
    · cases ho
  · rename_i s
    split at ho
    · rename_i hk
      have hu := seqKind_run hk
      simp only [if_true] at hu
      cases h1 : bnd lo 0 with
      | none => simp [h1] at ho
      | some l =>
      cases h2 : bnd hi s.size with
      | none => simp [h1, h2] at ho
      | some h =>
      simp only [h1, h2, Option.bind_some] at ho
      split at ho
      · rename_i hc
        cases ho; cases ha
        exact ⟨.string (s.extract l h), by simp [Instr.sliceAt, run_underlying hu, Instr.slice, bounds_run false hl hh h1 h2 hc.1 hc.2], .v _⟩
      · cases ho
    · cases ho
  · cases ho

def tbytes (P : Program) (t : TypeId) : Option Nat := (P.info? t).map (·.bytes)

/-- 'make([]T, n)', length and capacity one. -/
def opMake (P : Program) (h : Heap) (t : TypeId) (x y : AV) : Option (AV × Heap) :=
  (selem P t).bind fun e => (tzero P e).bind fun z => (tsz P e).bind fun n => (tbytes P e).bind fun b =>
    match x, y with
    | .v (.int _ m), .v (.int _ m') =>
      if m = m' ∧ 0 ≤ m ∧ m ≤ 1073741824 ∧ b ≤ 4096 ∧ n = z.length ∧ 0 < n ∧ z.all AV.single then some (.hs h.next n 0 m.toNat, h.add ⟨n, e, List.replicate m.toNat z⟩) else none
    | _, _ => none

theorem make_sound {P : Program} {φ : Plc} {ok : Nat → Prop} {h h' : Heap} {w : World} {t : TypeId} {r a b : AV} {x y : Value} (hR : Rel φ ok h w) (hx : RV φ ok w a x) (hy : RV φ ok w b y) (ho : opMake P h t a b = some (r, h')) :
    ∃ v w' φ', (Instr.makeSlice t x y).run P w = .ok v w' ∧ Step φ φ' ok ok h h' w w' ∧ RV φ' ok w' r v := by
  unfold opMake at ho
  cases he : selem P t with
  | none => simp [he] at ho
  | some e =>
  cases hz : tzero P e with
  | none => simp [he, hz] at ho
  | some z =>
  cases hn : tsz P e with
  | none => simp [he, hz, hn] at ho
  | some n =>
  cases hb : tbytes P e with
  | none => simp [he, hz, hn, hb] at ho
  | some bt =>
  simp only [he, hz, hn, hb, Option.bind_some] at ho
  split at ho
  · rename_i k m k' m'
    split at ho
    · rename_i hc
      obtain ⟨rfl, h0, h1, h2, h3, h4, h5⟩ := hc
      cases ho
      cases hx; cases hy
      obtain ⟨zv, hz1, hz2, i, hi, hiz⟩ := tzero_run hz w
      have hu := selem_run he
      have hbt : i.bytes = bt := by simpa [tbytes, hi] using hb
      have hsz : i.size = n := by simpa [tsz, hi] using hn
      have hw : IntKind.i64.wrap m = m := by simp [IntKind.wrap, IntKind.signed, IntKind.bits]; omega
      have hzl : zv.cells.size = n := by rw [h3, hz2]; simp
      have hmul : (bt : Int) * m ≤ 4096 * 1073741824 := Int.mul_le_mul (by omega) h1 h0 (by omega)
      have hC : ((Array.range (m.toNat * n)).map (zv.cells[· % zv.cells.size]!)).size = m.toNat * n := by simp
      have hst := step_new (φ := φ) (ok := ok) (h := h) (w := w) hR ⟨n, e, List.replicate m.toNat z⟩ ((Array.range (m.toNat * n)).map (zv.cells[· % zv.cells.size]!)) (by simp) (fun e he => by rw [List.eq_of_mem_replicate he, h3]) (fun i j e x h6 h7 => by
        have hil : i < m.toNat := by simpa using (List.getElem?_eq_some_iff.1 h6).1
        rw [List.getElem?_replicate, if_pos hil] at h6
        cases h6
        have hj : j < n := by rw [h3]; exact (List.getElem?_eq_some_iff.1 h7).1
        have hidx : i * n + j < m.toNat * n := by
          have : (i + 1) * n ≤ m.toNat * n := Nat.mul_le_mul_right _ hil
          rw [Nat.add_mul, Nat.one_mul] at this; omega
        refine ⟨zv.cells[j]'(by omega), ?_, ?_, ?_⟩
        · have hmod : (i * n + j) % n = j := by rw [Nat.mul_comm i n, Nat.mul_add_mod, Nat.mod_eq_of_lt hj]
          simp only [Array.getElem?_map, Array.getElem?_range, hidx, if_true, Option.map_some, hzl, hmod]
          simp [hzl, hj]
        · have h8 : x ∈ z := List.mem_of_getElem? h7
          have h9 : x.single = true := by simpa using List.all_eq_true.1 h5 x h8
          have h10 : x = AV.leaf (zv.cells[j]'(by omega)) := by
            subst hz2
            simp only [List.getElem?_map, Array.getElem?_toList] at h7
            rw [Array.getElem?_eq_getElem (by omega)] at h7
            simpa using h7.symm
          exact (h10 ▸ RV.leaf (φ := φ) (ok := ok) (w := w) (zv.cells[j]'(by omega))).single h9
        · have h10 : x = AV.leaf (zv.cells[j]'(by omega)) := by
            subst hz2
            simp only [List.getElem?_map, Array.getElem?_toList] at h7
            rw [Array.getElem?_eq_getElem (by omega)] at h7
            simpa using h7.symm
          rw [h10]; exact .leaf _)
      refine ⟨.slice (some ⟨w.heap.size, 0, none⟩) m.toNat m.toNat, _, _, ?_, hst, ?_⟩
      · have hl1 : ¬ ((bt : Int) * m > 2 ^ 48) := by omega
        have hneg : ¬ m < 0 := by omega
        simp only [Instr.makeSlice, Sem.run_bind, run_underlying hu, Result.andThen_ok, asInt, asIntOf, Sem.run_pure, typeInfo, run_program, hi, hw, hbt]
        simp only [hneg, decide_false, hl1, Bool.or_false, Bool.or_self, Bool.false_eq_true, Int.not_lt.2 (Int.le_refl m), gt_iff_lt, decide_eq_true_eq, if_false, Sem.run_ite, Bool.false_or, Sem.run_bind, run_askRoom, Result.andThen_ok, tsz_run hn, newRow, run_newObj, Sem.run_pure]
        by_cases hm0 : m.toNat * n = 0
        · simp only [hm0, if_true, Sem.run_pure, Result.andThen_ok, Array.range_zero', Array.map_empty]
          rfl
        · simp only [hm0, if_false, Sem.run_bind, hz1, Result.andThen_ok, Sem.run_pure]
          rfl
      · refine .hs (Nat.le_refl _) fun hpos => ⟨w.heap.size, 0, (e, m.toNat * n), by simp, by simp, ?_, by simp⟩
        unfold World.shape?
        rw [heap_alloc_new]
        simp
    · cases ho
  · cases ho

end Go.Proofs.Dv
