/- One operation that makes no call, and its soundness. -/
import Derived.Test.YtmbbedleimajcaaDoorDvC
import Derived.Laws.Slices
import Derived.Laws.Append
namespace Go.Proofs.Dv
open Go Go.RowKit
set_option linter.unusedSimpArgs false
set_option linter.unusedVariables false
set_option linter.unnecessarySimpa false

def rdAt (e : List AV) (j : Nat) (agg : Bool) (n : Nat) : Option AV :=
  if agg then (if j + n ≤ e.length then some (.agg ((e.drop j).take n)) else none) else e[j]?

def wrAt (e : List AV) (j : Nat) (c : List AV) : List AV :=
  match c with
  | [] => e
  | x :: c => wrAt (e.set j x) (j + 1) c

/-- What a machine's step does, told abstractly. -/
def Does (P : Program) (s : Sem Next) (φ : Plc) (ok : Nat → Prop) (h : Heap) (w : World) (r : AV) (h' : Heap) : Prop :=
  ∃ v w', (s.run P w = .ok (.value v) w' ∨ (s.run P w = .ok .skip w' ∧ v = undef)) ∧ ∃ φ' ok', Step φ φ' ok ok' h h' w w' ∧ RV φ' ok' w' r v

theorem Does.same {P : Program} {s : Sem Next} {φ : Plc} {ok : Nat → Prop} {h : Heap} {w : World} {r : AV} {v : Value} (hr : Rel φ ok h w) (hs : s.run P w = .ok (.value v) w) (hv : RV φ ok w r v) : Does P s φ ok h w r h :=
  ⟨v, w, .inl hs, φ, ok, .refl hr, hv⟩

def opLoad (P : Program) (h : Heap) (t : TypeId) (p : AV) : Option AV :=
  (tsz P t).bind fun n => (tagg P t).bind fun g =>
    match p with
    | .hp k sz i j => (h.get k).bind fun A => if A.sz = sz then (A.es[i]?).bind fun e => rdAt e j g n else none
    | .cp _ es i j => (es[i]?).bind fun e => rdAt e j g n
    | _ => none

def opStore (P : Program) (h : Heap) (t : TypeId) (p x : AV) : Option Heap :=
  (tsz P t).bind fun n =>
    match p with
    | .hp k sz i j => (h.get k).bind fun A => (A.es[i]?).bind fun e =>
      if A.sz = sz ∧ x.cells.length = n ∧ x.cells.all AV.single ∧ j + n ≤ e.length then some (h.upd k (some { A with es := A.es.set i (wrAt e j x.cells) })) else none
    | _ => none

theorem tagg_run {P : Program} {t : TypeId} {g : Bool} (h : tagg P t = some g) (w : World) : (isAgg t).run P w = .ok g w := by
  unfold tagg at h
  unfold isAgg
  cases hu : P.underlying t with
  | none => simp [hu] at h
  | some d =>
    simp only [hu] at h
    cases d <;> simp_all [run_underlying hu]

theorem tsz_run {P : Program} {t : TypeId} {n : Nat} (h : tsz P t = some n) (w : World) : (sizeOf t).run P w = .ok n w := by
  unfold tsz at h
  cases hi : P.info? t with
  | none => simp [hi] at h
  | some i => simp [hi] at h; simp [sizeOf, typeInfo, hi, h]

theorem addr_add (b o n : Nat) : (⟨b, o, none⟩ : Addr).add n = ⟨b, o + n, none⟩ := Addr.add_lit b o n

/-- Reading a variable whose cells are known. -/
theorem run_loadVar_cells {P : Program} {φ : Plc} {ok : Nat → Prop} {w : World} {t : TypeId} {n : Nat} {g : Bool} (hn : tsz P t = some n) (hg : tagg P t = some g) {b o j : Nat} {e : List AV} {r : AV}
    (hc : ∀ (j : Nat) x, e[j]? = some x → ∃ y, w.cell? ⟨b, o + j, none⟩ = some y ∧ RV φ ok w x y) (hr : rdAt e j g n = some r) :
    ∃ v, (loadVar t ⟨b, o + j, none⟩).run P w = .ok v w ∧ RV φ ok w r v := by
  unfold rdAt at hr
  cases g with
  | false =>
    simp only [Bool.false_eq_true, if_false] at hr
    obtain ⟨y, h1, h2⟩ := hc j r hr
    exact ⟨y, by simp [loadVar, tagg_run hg, h1], h2⟩
  | true =>
    simp only [if_true] at hr
    split at hr
    · rename_i hle
      cases hr
      have hy : ∀ i, ∃ y, i < n → ∃ x, e[j + i]? = some x ∧ w.cell? ⟨b, o + (j + i), none⟩ = some y ∧ RV φ ok w x y := fun i => by
        by_cases hi : i < n
        · have hlt : j + i < e.length := by omega
          obtain ⟨y, h1, h2⟩ := hc (j + i) e[j + i] (List.getElem?_eq_getElem hlt)
          exact ⟨y, fun _ => ⟨_, List.getElem?_eq_getElem hlt, h1, h2⟩⟩
        · exact ⟨undef, fun h => absurd h hi⟩
      obtain ⟨f, hf⟩ := Classical.skolem.1 hy
      have hl := run_loadCells (P := P) w ⟨b, o + j, none⟩ n f (fun i hi => by
        obtain ⟨x, _, h1, _⟩ := hf i hi
        rw [addr_add, Nat.add_assoc]; exact h1)
      refine ⟨.agg ((List.range n).map f).toArray, by simp [loadVar, tagg_run hg, tsz_run hn, hl], .agg (by simp; omega) fun i a y h1 h2 => ?_⟩
      have hi : i < n := by
        rcases Nat.lt_or_ge i n with h | h
        · exact h
        · simp [List.getElem?_eq_none, h] at h2
      obtain ⟨x, h3, h4, h5⟩ := hf i hi
      rw [List.getElem?_take_of_lt hi, List.getElem?_drop, h3] at h1
      cases h1
      simp [hi] at h2
      subst h2; exact h5
    · cases hr

theorem load_sound {P : Program} {φ : Plc} {ok : Nat → Prop} {h : Heap} {w : World} {t : TypeId} {p r : AV} {x : Value} (hR : Rel φ ok h w) (hp : RV φ ok w p x) (ho : opLoad P h t p = some r) :
    ∃ v, (Instr.loadAt t x).run P w = .ok v w ∧ RV φ ok w r v := by
  unfold opLoad at ho
  cases hn : tsz P t with
  | none => simp [hn] at ho
  | some n =>
  cases hg : tagg P t with
  | none => simp [hn, hg] at ho
  | some g =>
  simp only [hn, hg, Option.bind_some] at ho
  cases hp with
  | @hp k sz i j b s hk =>
    simp only at ho
    cases hA : h.get k with
    | none => simp [hA] at ho
    | some A =>
    simp only [hA, Option.bind_some] at ho
    split at ho
    · rename_i hsz
      cases he : A.es[i]? with
      | none => simp [he] at ho
      | some e =>
      simp only [he, Option.bind_some] at ho
      obtain ⟨_, C, h3, h4, h5⟩ := hR.lies k A b s hA hk
      have hc : ∀ (j : Nat) x, e[j]? = some x → ∃ y, w.cell? ⟨b, (s + i * sz) + j, none⟩ = some y ∧ RV φ ok w x y := fun j x hx => by
        obtain ⟨y, h6, _, h7⟩ := h5 i j e x he hx
        exact ⟨y, by rw [cell_of_row w b _ C A.ty (0, 0) h3, ← hsz]; exact h6, h7⟩
      obtain ⟨v, h6, h7⟩ := run_loadVar_cells hn hg hc ho
      exact ⟨v, by simp [Instr.loadAt, Instr.sureAddr, h6], h7⟩
    · cases ho
  | @cp sz es i j b o hz hb y hc hone hr =>
    simp only at ho
    cases he : es[i]? with
    | none => simp [he] at ho
    | some e =>
    simp only [he, Option.bind_some] at ho
    have hc' : ∀ (j : Nat) x, e[j]? = some x → ∃ y, w.cell? ⟨b, (o + i * sz) + j, none⟩ = some y ∧ RV φ ok w x y := fun j x hx => ⟨y i j, hc i j e x he hx, hr i j e x he hx⟩
    obtain ⟨v, h6, h7⟩ := run_loadVar_cells hn hg hc' ho
    exact ⟨v, by simp [Instr.loadAt, Instr.sureAddr, h6], h7⟩
  | _ => simp at ho

theorem wrAt_length (c : List AV) : ∀ (e : List AV) (j : Nat), (wrAt e j c).length = e.length := by
  induction c with
  | nil => intro e j; rfl
  | cons x c ih => intro e j; simp [wrAt, ih]

theorem Heap.upd_upd (h : Heap) (k : Nat) (a b : Option Arr) : (h.upd k a).upd k b = h.upd k b := by
  unfold Heap.upd
  congr 1
  funext k'
  simp only
  split <;> rfl

theorem Heap.upd_self (h : Heap) (k : Nat) (A : Arr) (hk : h.get k = some A) : h.upd k (some A) = h := by
  unfold Heap.upd
  cases h
  congr 1
  funext k'
  split
  · subst_vars; exact hk.symm
  · rfl

/-- Writing cell after cell. -/
theorem storeCells_sound {P : Program} {φ : Plc} {ok : Nat → Prop} {k b s i : Nat} : ∀ (c : List AV) (ys : List Value) (h : Heap) (w : World) (A : Arr) (e : List AV) (j m : Nat),
    Rel φ ok h w → h.get k = some A → φ k = some (b, s) → A.es[i]? = some e → j + c.length ≤ e.length → c.length = ys.length →
    (∀ (m : Nat) x y, c[m]? = some x → ys[m]? = some y → RV φ ok w x y ∧ one y = true) →
    ∃ w', (storeCells ⟨b, s + i * A.sz + (j - m), none⟩ ys m).run P w = .ok () w' ∧ (m ≤ j → Step φ φ ok ok h (h.upd k (some { A with es := A.es.set i (wrAt e j c) })) w w') ∨ ¬ m ≤ j := by
  intro c
  induction c with
  | nil =>
    intro ys h w A e j m hR hk hp hi hj hl hv
    have : ys = [] := by cases ys <;> simp_all
    subst this
    refine ⟨w, .inl ⟨by simp [storeCells], fun _ => ?_⟩⟩
    have : (A.es.set i (wrAt e j [])) = A.es := by simp only [wrAt]; exact List.set_getElem_self (List.getElem?_eq_some_iff.1 hi).1 |> fun h => by rw [← (List.getElem?_eq_some_iff.1 hi).2]; exact h
    rw [this, Heap.upd_self h k A hk]
    exact .refl hR
  | cons x c ih =>
    intro ys h w A e j m hR hk hp hi hj hl hv
    by_cases hm : m ≤ j
    · cases ys with
      | nil => simp at hl
      | cons y ys =>
        obtain ⟨hx, hy⟩ := hv 0 x y rfl rfl
        simp only [List.length_cons] at hj hl
        obtain ⟨h1, h2, h3⟩ := step_set hR hk hp hi (j := j) (by omega) hy hx
        have hil : i < A.es.length := (List.getElem?_eq_some_iff.1 hi).1
        have hR' := h3.rel
        have hk' : (h.upd k (some { A with es := A.es.set i (e.set j x) })).get k = some { A with es := A.es.set i (e.set j x) } := by simp [Heap.upd]
        have := ih ys _ _ { A with es := A.es.set i (e.set j x) } (e.set j x) (j + 1) (m + 1) hR' hk' hp (by simp [List.getElem?_set_self hil]) (by simp; omega) (by omega)
          (fun m x y h4 h5 => ⟨(hv (m + 1) x y h4 h5).1.ext h3.ext, (hv (m + 1) x y h4 h5).2⟩)
        obtain ⟨w', hw⟩ := this
        rcases hw with ⟨h4, h5⟩ | h4
        · refine ⟨w', .inl ⟨?_, fun _ => ?_⟩⟩
          · simp only [storeCells, Sem.run_bind]
            have haddr : (⟨b, s + i * A.sz + (j - m), none⟩ : Addr).add m = ⟨b, s + i * A.sz + j, none⟩ := by rw [addr_add]; congr 1; omega
            rw [haddr, run_store P w _ y .plain (by cases y <;> first | rfl | (simp [one] at hy))]
            cases hcell : w.cell? ⟨b, s + i * A.sz + j, none⟩ with
            | none => exact absurd hcell h1
            | some u =>
              simp only [h2, Bool.false_eq_true, if_false, Result.andThen_ok]
              have e2 : j + 1 - (m + 1) = j - m := by omega
              rw [e2] at h4
              exact h4
          · have h6 := h3.trans (h5 (by omega))
            rw [Heap.upd_upd] at h6
            simpa [wrAt, List.set_set] using h6
        · omega
    · exact ⟨w, .inr hm⟩

theorem store_sound {P : Program} {φ : Plc} {ok : Nat → Prop} {h h' : Heap} {w : World} {t : TypeId} {p a : AV} {x y : Value} (hR : Rel φ ok h w) (hp : RV φ ok w p x) (ha : RV φ ok w a y) (ho : opStore P h t p a = some h') :
    ∃ w', (Instr.storeAt t x y).run P w = .ok () w' ∧ Step φ φ ok ok h h' w w' := by
  unfold opStore at ho
  cases hn : tsz P t with
  | none => simp [hn] at ho
  | some n =>
  simp only [hn, Option.bind_some] at ho
  cases hp with
  | @hp k sz i j b s hk =>
    simp only at ho
    cases hA : h.get k with
    | none => simp [hA] at ho
    | some A =>
    simp only [hA, Option.bind_some] at ho
    cases he : A.es[i]? with
    | none => simp [he] at ho
    | some e =>
    simp only [he, Option.bind_some] at ho
    split at ho
    · rename_i hc
      obtain ⟨hsz, hl, hs, hj⟩ := hc
      cases ho
      have hs' : ∀ c ∈ a.cells, c.single = true := fun c hc => by simpa using List.all_eq_true.1 hs c hc
      obtain ⟨h1, h2⟩ := ha.cells hs'
      obtain ⟨w', hw⟩ := storeCells_sound (P := P) a.cells y.cells.toList h w A e j 0 hR hA hk he (by omega) (by simp [h1]) (fun m x z h3 h4 => by
        have h5 := h2 m x z h3 (by simpa using h4)
        exact ⟨h5, h5.single (hs' x (List.mem_of_getElem? h3))⟩)
      rcases hw with ⟨h3, h4⟩ | h3
      · refine ⟨w', ?_, h4 (Nat.zero_le _)⟩
        simp only [Nat.sub_zero, hsz] at h3
        simp only [Instr.storeAt, Instr.sureAddr, storeVar, Sem.run_bind, Sem.run_pure, Result.andThen_ok, tsz_run hn]
        rw [if_neg (by omega)]
        exact h3
      · omega
    · cases ho
  | _ => simp at ho

end Go.Proofs.Dv
