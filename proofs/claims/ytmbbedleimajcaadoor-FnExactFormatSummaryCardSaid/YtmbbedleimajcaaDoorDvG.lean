/- Structs and slices written out; append; conversions; functions as values. -/
import Derived.Test.YtmbbedleimajcaaDoorDvF
namespace Go.Proofs.Dv
open Go Go.RowKit
set_option linter.unusedSimpArgs false
set_option linter.unusedVariables false

/-- Cells 'c' in place of those from 'o' on. -/
def splice (l : List AV) (o : Nat) (c : List AV) : List AV := wrAt l o c

theorem wrAt_get (c : List AV) : ∀ (e : List AV) (o : Nat), o + c.length ≤ e.length → ∀ i : Nat, (wrAt e o c)[i]? = if o ≤ i ∧ i < o + c.length then c[i - o]? else e[i]? := by
  induction c with
  | nil => intro e o _ i; simp [wrAt]; omega
  | cons x c ih =>
    intro e o ho i
    simp only [List.length_cons] at ho
    simp only [wrAt]
    rw [ih (e.set o x) (o + 1) (by simp; omega) i]
    by_cases h1 : o + 1 ≤ i ∧ i < o + 1 + c.length
    · rw [if_pos h1, if_pos (by simp; omega)]
      obtain ⟨m, hm⟩ : ∃ m, i - o = m + 1 := ⟨i - o - 1, by omega⟩
      rw [hm, List.getElem?_cons_succ]
      congr 1; omega
    · rw [if_neg h1]
      by_cases h2 : i = o
      · subst h2
        rw [if_pos (by simp), List.getElem?_set_self (by omega)]; simp
      · rw [if_neg (by simp; omega), List.getElem?_set_ne (by omega)]

/-- The machine's own filling of a part. -/
theorem fill_get (l : List Value) : ∀ (cs : Array Value) (off : Nat), off + l.length ≤ cs.size → ∀ (k : Nat),
    ((l.zipIdx k).foldl (fun cs (p : Value × Nat) => cs.setIfInBounds (off + p.2) p.1) cs).size = cs.size ∧
    (off + k + l.length ≤ cs.size → ∀ i : Nat, ((l.zipIdx k).foldl (fun cs (p : Value × Nat) => cs.setIfInBounds (off + p.2) p.1) cs)[i]? = if off + k ≤ i ∧ i < off + k + l.length then l[i - (off + k)]? else cs[i]?) := by
  induction l with
  | nil => intro cs off _ k; simp; omega
  | cons x l ih =>
    intro cs off ho k
    simp only [List.length_cons] at ho
    simp only [List.zipIdx_cons, List.foldl_cons]
    obtain ⟨h1, h2⟩ := ih (cs.setIfInBounds (off + k) x) off (by simp; omega) (k + 1)
    refine ⟨by simpa using h1, fun hk i => ?_⟩
    rw [h2 (by rw [Array.size_setIfInBounds]; simp only [List.length_cons] at hk; omega) i]
    simp only [List.length_cons] at hk ⊢
    by_cases h3 : off + (k + 1) ≤ i ∧ i < off + (k + 1) + l.length
    · rw [if_pos h3, if_pos (by omega)]
      obtain ⟨m, hm⟩ : ∃ m, i - (off + k) = m + 1 := ⟨i - (off + k) - 1, by omega⟩
      rw [hm, List.getElem?_cons_succ]
      congr 1; omega
    · rw [if_neg h3]
      by_cases h4 : i = off + k
      · subst h4
        have hlt : off + k < cs.size := by omega
        rw [if_pos (by omega), Nat.sub_self, List.getElem?_cons_zero]; simp [hlt]
      · rw [if_neg (by omega), Array.getElem?_setIfInBounds_ne (by omega)]

/-- Parts, each with its place: laid into the cells. -/
def fillA (l : List AV) : List (Nat × Nat × AV) → Option (List AV)
  | [] => some l
  | (o, n, x) :: r => if x.cells.length = n ∧ o + n ≤ l.length ∧ x.cells.all AV.single then fillA (wrAt l o x.cells) r else none

def CellsRV (φ : Plc) (ok : Nat → Prop) (w : World) (l : List AV) (cs : Array Value) : Prop :=
  l.length = cs.size ∧ ∀ (i : Nat) x y, l[i]? = some x → cs[i]? = some y → RV φ ok w x y ∧ (x.single = true → one y = true)

theorem fill_sound {φ : Plc} {ok : Nat → Prop} {w : World} (place : Nat → Option (Nat × Nat)) : ∀ (ps : List (Nat × AV × Value)) (pls : List (Nat × Nat × AV)) (l r : List AV) (cs : Array Value),
    pls.length = ps.length → (∀ (m : Nat) p q, ps[m]? = some p → pls[m]? = some q → place p.1 = some (q.1, q.2.1) ∧ q.2.2 = p.2.1) → (∀ p ∈ ps, RV φ ok w p.2.1 p.2.2) →
    CellsRV φ ok w l cs → fillA l pls = some r →
    ∃ cs', Instr.fill place cs (ps.map fun p => (p.1, p.2.2)) = some cs' ∧ CellsRV φ ok w r cs' := by
  intro ps
  induction ps with
  | nil =>
    intro pls l r cs hl _ _ hc hf
    have : pls = [] := by cases pls <;> simp_all
    subst this
    simp [fillA] at hf
    subst hf
    exact ⟨cs, rfl, hc⟩
  | cons p ps ih =>
    intro pls l r cs hl hp hv hc hf
    cases pls with
    | nil => simp at hl
    | cons q pls =>
      obtain ⟨o, n, x⟩ := q
      obtain ⟨i, a, v⟩ := p
      obtain ⟨h1, h2⟩ := hp 0 _ _ rfl rfl
      simp only at h1 h2
      subst h2
      simp only [fillA] at hf
      split at hf
      · rename_i hcond
        obtain ⟨h3, h4, h5⟩ := hcond
        have hs : ∀ c ∈ x.cells, c.single = true := fun c hc => by simpa using List.all_eq_true.1 h5 c hc
        obtain ⟨h6, h7⟩ := (hv _ (List.mem_cons_self)).cells hs
        simp only at h6 h7
        have hvl : v.cells.size = n := by omega
        have hle : o + v.cells.toList.length ≤ cs.size := by rw [Array.length_toList, ← hc.1]; omega
        obtain ⟨g1, g2⟩ := fill_get v.cells.toList cs o hle 0
        have g3 := g2 (by rw [Nat.add_zero]; exact hle)
        have hfold : v.cells.zipIdx.foldl (fun cs (c, j) => cs.setIfInBounds (o + j) c) cs = (v.cells.toList.zipIdx 0).foldl (fun cs (p : Value × Nat) => cs.setIfInBounds (o + p.2) p.1) cs := by
          rw [← Array.foldl_toList, Array.toList_zipIdx]
        have hnew : CellsRV φ ok w (wrAt l o x.cells) ((v.cells.toList.zipIdx 0).foldl (fun cs (p : Value × Nat) => cs.setIfInBounds (o + p.2) p.1) cs) := by
          refine ⟨by rw [wrAt_length, g1]; exact hc.1, fun i a y h8 h9 => ?_⟩
          rw [wrAt_get _ _ _ (by omega) i] at h8
          rw [g3 i] at h9
          simp only [Nat.add_zero, Array.length_toList, hvl] at h9
          rw [h3] at h8
          by_cases hh : o ≤ i ∧ i < o + n
          · rw [if_pos hh] at h8 h9
            have h10 := h7 (i - o) a y h8 (by simpa using h9)
            exact ⟨h10, fun hs' => h10.single hs'⟩
          · rw [if_neg hh] at h8 h9
            exact hc.2 i a y h8 h9
        obtain ⟨cs', h10, h11⟩ := ih pls _ _ _ (by simpa using hl) (fun m p q h8 h9 => hp (m + 1) p q h8 h9) (fun p hp => hv p (List.mem_cons_of_mem _ hp)) hnew hf
        refine ⟨cs', ?_, h11⟩
        simp only [List.map_cons, Instr.fill, h1]
        rw [if_neg (by have := hc.1; simp [hvl]; omega), hfold]
        exact h10
      · cases hf

def places (P : Program) (t : TypeId) : Option (List (Nat × Nat)) :=
  match P.underlying t with
  | some (.struct fs) => fs.toList.mapM fun f => (tsz P f.type).map fun n => (f.offset, n)
  | _ => none

def withPlaces (pl : List (Nat × Nat)) : List (Nat × AV) → Option (List (Nat × Nat × AV))
  | [] => some []
  | (i, x) :: r => (pl[i]?).bind fun p => (withPlaces pl r).map fun q => (p.1, p.2, x) :: q

def opBuild (P : Program) (t : TypeId) (ps : List (Nat × AV)) : Option AV :=
  (tzero P t).bind fun z => (places P t).bind fun pl => (withPlaces pl ps).bind fun q => (fillA z q).map .agg

theorem withPlaces_spec {pl : List (Nat × Nat)} : ∀ {ps : List (Nat × AV)} {q : List (Nat × Nat × AV)}, withPlaces pl ps = some q →
    q.length = ps.length ∧ ∀ (m : Nat) p r, ps[m]? = some p → q[m]? = some r → pl[p.1]? = some (r.1, r.2.1) ∧ r.2.2 = p.2 := by
  intro ps
  induction ps with
  | nil => intro q h; simp [withPlaces] at h; subst h; exact ⟨rfl, fun m p r h => by simp at h⟩
  | cons x ps ih =>
    intro q h
    obtain ⟨i, a⟩ := x
    simp only [withPlaces] at h
    cases hp : pl[i]? with
    | none => simp [hp] at h
    | some p =>
      cases hw : withPlaces pl ps with
      | none => simp [hp, hw] at h
      | some q' =>
        simp [hp, hw] at h
        subst h
        obtain ⟨h1, h2⟩ := ih hw
        refine ⟨by simp [h1], fun m p' r h3 h4 => ?_⟩
        cases m with
        | zero => simp at h3 h4; subst h3 h4; exact ⟨hp, rfl⟩
        | succ m => exact h2 m p' r (by simpa using h3) (by simpa using h4)

theorem mapM_sizes {P : Program} {w : World} : ∀ (fs : List Field) (pl : List (Nat × Nat)), (fs.mapM fun f => (tsz P f.type).map fun n => (f.offset, n)) = some pl →
    (fs.mapM fun f => do pure (f.offset, ← sizeOf f.type) : Sem (List (Nat × Nat))).run P w = .ok pl w := by
  intro fs
  induction fs with
  | nil => intro pl h; simp at h; subst h; rfl
  | cons f fs ih =>
    intro pl h
    simp only [List.mapM_cons] at h ⊢
    cases hn : tsz P f.type with
    | none => simp [hn] at h
    | some n =>
      cases hm : (fs.mapM fun f => (tsz P f.type).map fun n => (f.offset, n)) with
      | none => simp [hn, hm] at h
      | some pl' =>
        simp [hn, hm] at h
        subst h
        simp only [Sem.run_bind, tsz_run hn, Result.andThen_ok, Sem.run_pure, ih pl' hm]

theorem zero_cells {P : Program} {φ : Plc} {ok : Nat → Prop} {w : World} {t : TypeId} {z : List AV} {v : Value} (h : z = v.cells.toList.map AV.leaf) : CellsRV φ ok w z v.cells := by
  subst h
  refine ⟨by simp, fun i x y h1 h2 => ?_⟩
  simp only [List.getElem?_map, Array.getElem?_toList, h2, Option.map_some, Option.some.injEq] at h1
  subst h1
  exact ⟨.leaf y, fun hs => (RV.leaf (φ := φ) (ok := ok) (w := w) y).single hs⟩

theorem build_sound {P : Program} {φ : Plc} {ok : Nat → Prop} {w : World} {t : TypeId} {ps : List (Nat × AV × Value)} {r : AV} (hv : ∀ p ∈ ps, RV φ ok w p.2.1 p.2.2) (ho : opBuild P t (ps.map fun p => (p.1, p.2.1)) = some r) :
    ∃ v, (Instr.build t (ps.map fun p => (p.1, p.2.2)).toArray).run P w = .ok v w ∧ RV φ ok w r v := by
  unfold opBuild at ho
  cases hz : tzero P t with
  | none => simp [hz] at ho
  | some z =>
  cases hp : places P t with
  | none => simp [hz, hp] at ho
  | some pl =>
  cases hq : withPlaces pl (ps.map fun p => (p.1, p.2.1)) with
  | none => simp [hz, hp, hq] at ho
  | some q =>
  cases hf : fillA z q with
  | none => simp [hz, hp, hq, hf] at ho
  | some l =>
  simp [hz, hp, hq, hf] at ho
  subst ho
  obtain ⟨zv, hz1, hz2, _⟩ := tzero_run hz w
  unfold places at hp
  split at hp
  · rename_i fs hu
    obtain ⟨h1, h2⟩ := withPlaces_spec hq
    have hm : (fs.mapM fun f => do pure (f.offset, ← sizeOf f.type) : Sem (Array (Nat × Nat))).run P w = .ok pl.toArray w := by
      rw [Array.mapM_eq_mapM_toList, Sem.run_map, mapM_sizes (w := w) fs.toList pl hp]; rfl
    obtain ⟨cs', h3, h4⟩ := fill_sound (φ := φ) (ok := ok) (w := w) (fun i => pl.toArray[i]?) ps q z l zv.cells (by simpa using h1) (fun m p r h5 h6 => by
      have := h2 m (p.1, p.2.1) r (by simp [h5]) h6
      exact ⟨by simpa using this.1, this.2⟩) hv (zero_cells (P := P) (t := t) hz2) hf
    refine ⟨.agg cs', ?_, .agg h4.1 fun i a y h5 h6 => (h4.2 i a y h5 h6).1⟩
    simp only [Instr.build, Sem.run_bind, hz1, Result.andThen_ok, run_underlying hu, hm]
    simp only [h3, Sem.run_pure]
  · cases hp


/-- Elements, each with its number: laid into the rows. -/
def fillE (sz : Nat) (l : List (List AV)) : List (Nat × AV) → Option (List (List AV))
  | [] => some l
  | (i, x) :: r => if x.cells.length = sz ∧ i < l.length ∧ x.cells.all AV.single then fillE sz (l.set i x.cells) r else none

/-- A slice literal that names each of its places in order. -/
def fillF (sz : Nat) : Nat → List (Nat × AV) → Option (List (List AV))
  | _, [] => some []
  | i, (j, x) :: r => if j = i ∧ x.cells.length = sz ∧ x.cells.all AV.single = true then (fillF sz (i + 1) r).map (x.cells :: ·) else none

def opBuildSlice (P : Program) (h : Heap) (t : TypeId) (len : Nat) (ps : List (Nat × AV)) : Option (AV × Heap) :=
  (selem P t).bind fun e => (tsz P e).bind fun n =>
    if len = 0 ∧ ps = [] then some (.emp, h) else
    (tzero P e).bind fun z => if n = z.length ∧ 0 < n ∧ len * n ≤ 65536 ∧ z.all AV.single ∧ ps.length = len then (fillF n 0 ps).map fun es => (.hs h.next n 0 len, h.add ⟨n, e, es⟩) else none

theorem fillF_fillE {sz : Nat} : ∀ (ps : List (Nat × AV)) (done rest es : List (List AV)), fillF sz done.length ps = some es → rest.length = ps.length → fillE sz (done ++ rest) ps = some (done ++ es)
  | [], done, rest, es, h, hr => by
    have : rest = [] := List.length_eq_zero_iff.1 hr
    subst this; simp [fillF] at h; subst h; simp [fillE]
  | (i, x) :: ps, done, rest, es, h, hr => by
    match rest, hr with
    | y :: rest, hr =>
    simp only [fillF] at h
    split at h
    · rename_i hc
      obtain ⟨rfl, h1, h2⟩ := hc
      obtain ⟨es', h3, rfl⟩ := Option.map_eq_some_iff.1 h
      simp only [fillE]
      rw [if_pos ⟨h1, by simp, h2⟩, List.set_append_right _ _ (Nat.le_refl _)]
      simp only [Nat.sub_self, List.set_cons_zero]
      have := fillF_fillE ps (done ++ [x.cells]) rest es' (by simpa using h3) (by simpa using hr)
      simpa using this
    · cases h

def RowsRV (φ : Plc) (ok : Nat → Prop) (w : World) (sz : Nat) (es : List (List AV)) (cs : Array Value) : Prop :=
  es.length * sz = cs.size ∧ (∀ e ∈ es, e.length = sz) ∧ ∀ (i j : Nat) e x, es[i]? = some e → e[j]? = some x → ∃ y, cs[i * sz + j]? = some y ∧ one y = true ∧ RV φ ok w x y

theorem fillE_length {sz : Nat} : ∀ {ps : List (Nat × AV)} {l r : List (List AV)}, fillE sz l ps = some r → r.length = l.length := by
  intro ps
  induction ps with
  | nil => intro l r h; simp [fillE] at h; rw [h]
  | cons p ps ih =>
    intro l r h
    obtain ⟨i, x⟩ := p
    simp only [fillE] at h
    split at h
    · rw [ih h]; simp
    · cases h

theorem fillE_sound {φ : Plc} {ok : Nat → Prop} {w : World} {sz : Nat} (hsz : 0 < sz) : ∀ (ps : List (Nat × AV × Value)) (l r : List (List AV)) (cs : Array Value),
    (∀ p ∈ ps, RV φ ok w p.2.1 p.2.2) → RowsRV φ ok w sz l cs → fillE sz l (ps.map fun p => (p.1, p.2.1)) = some r →
    ∃ cs', Instr.fill (fun i => some (i * sz, sz)) cs (ps.map fun p => (p.1, p.2.2)) = some cs' ∧ RowsRV φ ok w sz r cs' := by
  intro ps
  induction ps with
  | nil =>
    intro l r cs _ hc hf
    simp [fillE] at hf
    subst hf
    exact ⟨cs, rfl, hc⟩
  | cons p ps ih =>
    intro l r cs hv hc hf
    obtain ⟨i, x, v⟩ := p
    simp only [List.map_cons, fillE] at hf
    split at hf
    · rename_i hcond
      obtain ⟨h3, h4, h5⟩ := hcond
      have hs : ∀ c ∈ x.cells, c.single = true := fun c hc => by simpa using List.all_eq_true.1 h5 c hc
      obtain ⟨h6, h7⟩ := (hv _ (List.mem_cons_self)).cells hs
      simp only at h6 h7
      have hvl : v.cells.size = sz := by omega
      have hin : i * sz + sz ≤ cs.size := by
        have : (i + 1) * sz ≤ l.length * sz := Nat.mul_le_mul_right _ h4
        rw [Nat.add_mul, Nat.one_mul, hc.1] at this; exact this
      obtain ⟨g1, g2⟩ := fill_get v.cells.toList cs (i * sz) (by rw [Array.length_toList]; omega) 0
      have g3 := g2 (by rw [Nat.add_zero, Array.length_toList]; omega)
      have hfold : v.cells.zipIdx.foldl (fun cs (c, j) => cs.setIfInBounds (i * sz + j) c) cs = (v.cells.toList.zipIdx 0).foldl (fun cs (p : Value × Nat) => cs.setIfInBounds (i * sz + p.2) p.1) cs := by
        rw [← Array.foldl_toList, Array.toList_zipIdx]
      have hnew : RowsRV φ ok w sz (l.set i x.cells) ((v.cells.toList.zipIdx 0).foldl (fun cs (p : Value × Nat) => cs.setIfInBounds (i * sz + p.2) p.1) cs) := by
        refine ⟨by rw [List.length_set, g1]; exact hc.1, fun e he => ?_, fun i' j e a h8 h9 => ?_⟩
        · rcases List.mem_or_eq_of_mem_set he with h | h
          · exact hc.2.1 e h
          · rw [h]; exact h3
        · rw [g3]
          simp only [Nat.add_zero, Array.length_toList, hvl]
          by_cases hii : i = i'
          · subst hii
            rw [List.getElem?_set_self h4] at h8
            cases h8
            have hj : j < sz := by rw [← h3]; exact (List.getElem?_eq_some_iff.1 h9).1
            rw [if_pos (by omega)]
            have : i * sz + j - i * sz = j := by omega
            rw [this]
            have hj' : j < v.cells.size := by omega
            have h10 := h7 j a v.cells[j] h9 (by simp [hj'])
            exact ⟨v.cells[j], by simp [hj'], h10.single (hs a (List.mem_of_getElem? h9)), h10⟩
          · rw [List.getElem?_set_ne hii] at h8
            have hj : j < sz := by rw [← hc.2.1 e (List.mem_of_getElem? h8)]; exact (List.getElem?_eq_some_iff.1 h9).1
            have hout : ¬ (i * sz ≤ i' * sz + j ∧ i' * sz + j < i * sz + sz) := by
              rcases Nat.lt_or_gt_of_ne hii with hlt | hgt
              · have : (i + 1) * sz ≤ i' * sz := Nat.mul_le_mul_right _ hlt
                rw [Nat.add_mul, Nat.one_mul] at this; omega
              · have : (i' + 1) * sz ≤ i * sz := Nat.mul_le_mul_right _ hgt
                rw [Nat.add_mul, Nat.one_mul] at this; omega
            rw [if_neg hout]
            exact hc.2.2 i' j e a h8 h9
      obtain ⟨cs', h10, h11⟩ := ih _ _ _ (fun p hp => hv p (List.mem_cons_of_mem _ hp)) hnew hf
      refine ⟨cs', ?_, h11⟩
      simp only [List.map_cons, Instr.fill]
      rw [if_neg (by simp [hvl]; omega), hfold]
      exact h10
    · cases hf

theorem buildSlice_sound {P : Program} {φ : Plc} {ok : Nat → Prop} {h h' : Heap} {w : World} {t : TypeId} {len : Nat} {ps : List (Nat × AV × Value)} {r : AV} (hR : Rel φ ok h w) (hv : ∀ p ∈ ps, RV φ ok w p.2.1 p.2.2)
    (ho : opBuildSlice P h t len (ps.map fun p => (p.1, p.2.1)) = some (r, h')) :
    ∃ v w' φ', (Instr.buildSlice t len (ps.map fun p => (p.1, p.2.2)).toArray).run P w = .ok v w' ∧ Step φ φ' ok ok h h' w w' ∧ RV φ' ok w' r v := by
  unfold opBuildSlice at ho
  cases he : selem P t with
  | none => simp [he] at ho
  | some e =>
  cases hn : tsz P e with
  | none => simp [he, hn] at ho
  | some n =>
  simp only [he, hn, Option.bind_some] at ho
  have hu := selem_run he
  split at ho
  · rename_i h0
    obtain ⟨rfl, h0⟩ := h0
    cases ho
    have hps : ps = [] := by simpa using h0
    subst hps
    refine ⟨.slice (some ⟨w.heap.size, 0, none⟩) 0 0, w.alloc (.cells #[] e), φ, ?_, step_garbage hR _, .emp _⟩
    simp only [Instr.buildSlice, Sem.run_bind, run_underlying hu, Result.andThen_ok, tsz_run hn, Nat.zero_mul, if_true, Sem.run_pure, Array.range_zero', Array.map_empty, List.map_nil, Instr.fill, newRow, run_newObj]
    rw [if_neg (by omega)]
    simp only [Sem.run_bind, Sem.run_pure, Result.andThen_ok, Instr.fill, newRow, run_newObj]
    rfl
  · cases hz : tzero P e with
    | none => simp [hz] at ho
    | some z =>
    simp only [hz, Option.bind_some] at ho
    split at ho
    · rename_i hc
      obtain ⟨h1, h2, h3, h4, h5⟩ := hc
      cases hF : fillF n 0 (ps.map fun p => (p.1, p.2.1)) with
      | none => simp [hF] at ho
      | some es =>
      have hf : fillE n (List.replicate len z) (ps.map fun p => (p.1, p.2.1)) = some es := by
        have := fillF_fillE (ps.map fun p => (p.1, p.2.1)) [] (List.replicate len z) es hF (by rw [h5]; simp)
        simpa using this
      simp only [hF, Option.map_some, Option.some.injEq, Prod.mk.injEq] at ho
      obtain ⟨rfl, rfl⟩ := ho
      obtain ⟨zv, hz1, hz2, i, hi, hiz⟩ := tzero_run hz w
      have hzl : zv.cells.size = n := by rw [h1, hz2]; simp
      have hrows : RowsRV φ ok w n (List.replicate len z) ((Array.range (len * n)).map (zv.cells[· % zv.cells.size]!)) := by
        refine ⟨by simp, fun e he => by rw [List.eq_of_mem_replicate he, h1], fun i j e x h6 h7 => ?_⟩
        have hil : i < len := by simpa using (List.getElem?_eq_some_iff.1 h6).1
        rw [List.getElem?_replicate, if_pos hil] at h6
        cases h6
        have hj : j < n := by rw [h1]; exact (List.getElem?_eq_some_iff.1 h7).1
        have hidx : i * n + j < len * n := by
          have : (i + 1) * n ≤ len * n := Nat.mul_le_mul_right _ hil
          rw [Nat.add_mul, Nat.one_mul] at this; omega
        have h10 : x = AV.leaf (zv.cells[j]'(by omega)) := by
          subst hz2
          simp only [List.getElem?_map, Array.getElem?_toList] at h7
          rw [Array.getElem?_eq_getElem (by omega)] at h7
          simpa using h7.symm
        have hmod : (i * n + j) % n = j := by rw [Nat.mul_comm i n, Nat.mul_add_mod, Nat.mod_eq_of_lt hj]
        refine ⟨zv.cells[j]'(by omega), ?_, ?_, by rw [h10]; exact .leaf _⟩
        · simp only [Array.getElem?_map, Array.getElem?_range, hidx, if_true, Option.map_some, hzl, hmod]
          simp [hzl, hj]
        · have h9 : x.single = true := by simpa using List.all_eq_true.1 h4 x (List.mem_of_getElem? h7)
          exact (h10 ▸ RV.leaf (φ := φ) (ok := ok) (w := w) (zv.cells[j]'(by omega))).single h9
      obtain ⟨cs', h5, h6⟩ := fillE_sound h2 ps _ _ _ hv hrows hf
      have hlen : es.length = len := by rw [fillE_length hf]; simp
      have hst := step_new (φ := φ) (ok := ok) (h := h) (w := w) hR ⟨n, e, es⟩ cs' (Nat.le_of_eq h6.1) h6.2.1 h6.2.2
      refine ⟨.slice (some ⟨w.heap.size, 0, none⟩) len len, _, _, ?_, hst, ?_⟩
      · simp only [Instr.buildSlice, Sem.run_bind, run_underlying hu, Result.andThen_ok, tsz_run hn]
        rw [if_neg (by omega)]
        by_cases hm0 : len * n = 0
        · have hl0 : len = 0 := by
            rcases Nat.mul_eq_zero.1 hm0 with h | h
            · exact h
            · omega
          simp only [hm0, if_true, Sem.run_bind, Sem.run_pure, Result.andThen_ok, Array.range_zero', Array.map_empty]
          simp only [hm0, Array.range_zero', Array.map_empty] at h5
          rw [h5]
          simp only [Sem.run_bind, newRow, run_newObj, Result.andThen_ok, Sem.run_pure]
          rfl
        · simp only [hm0, if_false, Sem.run_bind, hz1, Result.andThen_ok, Sem.run_pure]
          rw [h5]
          simp only [Sem.run_bind, newRow, run_newObj, Result.andThen_ok, Sem.run_pure]
          rfl
      · refine .hs (Nat.le_refl _) fun hpos => ⟨w.heap.size, 0, (e, cs'.size), by simp, by simp, ?_, by simp [← h6.1, hlen]⟩
        unfold World.shape?
        rw [heap_alloc_new]
    · cases ho

end Go.Proofs.Dv
