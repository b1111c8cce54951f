/- Append. -/
import Derived.Test.YtmbbedleimajcaaDoorDvH
import Derived.Laws.AppendOwn
namespace Go.Proofs.Dv
open Go Go.RowKit
set_option linter.unusedSimpArgs false
set_option linter.unusedVariables false

theorem Heap.add_get (h : Heap) (a : Arr) (k : Nat) : (h.add a).get k = if k = h.next then some a else h.get k := rfl
theorem Heap.upd_get (h : Heap) (k : Nat) (a : Option Arr) (k' : Nat) : (h.upd k a).get k' = if k' = k then a else h.get k' := rfl
theorem Heap.upd_next (h : Heap) (k : Nat) (a : Option Arr) : (h.upd k a).next = h.next := rfl

def srcOf (h : Heap) (n : Nat) : AV → Option (List (List AV))
  | .emp => some []
  | x => (elems h x).bind fun p => if p.1 = n then some p.2 else none

def opAppend (P : Program) (h : Heap) (t u : TypeId) (s x : AV) : Option (AV × Heap) :=
  (selem P t).bind fun e => (tsz P e).bind fun n => (tbytes P e).bind fun bt => (tzero P e).bind fun z => (srcOf h n x).bind fun xs =>
    if seqKind P u = some false ∧ bt ≤ 4096 ∧ z.length = n then
      match s with
      | .emp => if xs.length ≤ 1073741824 then some (.hs h.next n 0 xs.length, h.add ⟨n, e, xs⟩) else none
      | .hs k sz lo len => (h.get k).bind fun A => (elems h s).bind fun p =>
        if sz = n ∧ A.ty = e ∧ p.2.length + xs.length ≤ 1073741824 then some (.hs h.next n 0 (p.2.length + xs.length), (h.upd k none).add ⟨n, e, p.2 ++ xs⟩) else none
      | _ => none
    else none

theorem src_sound {φ : Plc} {ok : Nat → Prop} {h : Heap} {w : World} {a : AV} {x : Value} {n : Nat} {es : List (List AV)} (hR : Rel φ ok h w) (ha : RV φ ok w a x) (he : srcOf h n a = some es) :
    ∃ ad c, x = .slice ad es.length c ∧ es.length ≤ c ∧ At φ ok w n es ad ∧ (es ≠ [] → ∃ b o, ad = some ⟨b, o, none⟩) := by
  unfold srcOf at he
  split at he
  · cases he
    cases ha with
    | emp ad => exact ⟨ad, 0, rfl, Nat.le_refl _, ⟨fun e he => (List.not_mem_nil he).elim, fun i j e x h1 => by simp at h1⟩, fun h => absurd rfl h⟩
  · cases hp : elems h a with
    | none => simp [hp] at he
    | some p =>
      simp only [hp, Option.bind_some] at he
      split at he
      · rename_i hn
        cases he
        obtain ⟨sz, es⟩ := p
        simp only at hn
        subst hn
        exact elems_sound hR ha hp
      · cases he

theorem At.ext {φ φ' : Plc} {ok ok' : Nat → Prop} {w w' : World} (he : Ext φ φ' ok ok' w w') (hh : w'.heap = w.heap) {sz : Nat} {es : List (List AV)} {a : Option Addr} (h : At φ ok w sz es a) : At φ' ok' w' sz es a :=
  ⟨h.1, fun i j e x h1 h2 => let ⟨b, o, y, h3, h4, h5, h6⟩ := h.2 i j e x h1 h2; ⟨b, o, y, h3, by rw [cell_of_block (w := w) (by rw [hh])]; exact h4, h5, h6.ext he⟩⟩

/-- A phantom key: an array of no elements that lies nowhere. -/
theorem step_phantom {φ : Plc} {ok : Nat → Prop} {h : Heap} {w : World} (hr : Rel φ ok h w) (sz : Nat) (ty : TypeId) : Step φ φ ok ok h (h.add ⟨sz, ty, []⟩) w w := by
  have hn := hr.fresh h.next (Nat.le_refl _)
  refine ⟨⟨hr.okLt, fun k hk => ?_, fun k A b s h1 h2 => ?_, fun k A h1 h2 => ?_, fun k k' A A' b s b' s' h1 h2 h3 h4 h5 => ?_, fun k A h1 => ?_⟩, Ext.refl _ _ _, Frame.refl _ _, fun b hb => ?_, fun _ h => .inl h⟩
  · have hk' : h.next + 1 ≤ k := hk
    have := hr.fresh k (by omega)
    simp only [Heap.add]
    rw [if_neg (by omega)]; exact this
  · simp only [Heap.add] at h1
    split at h1
    · subst_vars; rw [hn.2] at h2; cases h2
    · exact hr.lies k A b s h1 h2
  · simp only [Heap.add] at h1
    split at h1
    · cases h1; rfl
    · exact hr.none_ k A h1 h2
  · simp only [Heap.add] at h1 h2
    split at h1
    · subst_vars; rw [hn.2] at h3; cases h3
    · split at h2
      · subst_vars; rw [hn.2] at h4; cases h4
      · exact hr.inj k k' A A' b s b' s' h1 h2 h3 h4 h5
  · simp only [Heap.add] at h1
    split at h1
    · cases h1; simp
    · exact hr.size k A h1
  · obtain ⟨k, A, s, h1, h2⟩ := hb
    simp only [Heap.add] at h1
    split at h1
    · subst_vars; rw [hn.2] at h2; cases h2
    · exact .inl ⟨k, A, s, h1, h2⟩

/-- An own array's block goes over to a new key. -/
theorem step_move {φ : Plc} {ok : Nat → Prop} {h : Heap} {w w' : World} (hr : Rel φ ok h w) {k : Nat} {A B : Arr} {b s s' : Nat} (hk : h.get k = some A) (hp : φ k = some (b, s)) {C' : Array Value}
    (hty : B.ty = A.ty) (hb : w'.heap[b]? = some (.cells C' A.ty (0, 0))) (hsz : s' + B.es.length * B.sz ≤ C'.size) (hz : ∀ e ∈ B.es, e.length = B.sz)
    (hc : ∀ (i j : Nat) e x, B.es[i]? = some e → e[j]? = some x → ∃ y, C'[s' + i * B.sz + j]? = some y ∧ one y = true ∧ RV φ ok w x y)
    (ho : ∀ b', b' ≠ b → w'.heap[b']? = w.heap[b']?) (hos : w'.os = w.os) (htp : w'.tape = w.tape) (hout : w'.output = w.output) (hsize : w'.heap.size = w.heap.size) (hsh : ∀ b' s, w.shape? b' = some s → w'.shape? b' = some s) :
    Step φ (fun q => if q = h.next then some (b, s') else φ q) ok ok h ((h.upd k none).add B) w w' := by
  have hn := hr.fresh h.next (Nat.le_refl _)
  have hoff := (hr.lies k A b s hk hp).off
  have hkn : k ≠ h.next := fun e => by subst e; rw [hn.1] at hk; cases hk
  have he : Ext φ (fun q => if q = h.next then some (b, s') else φ q) ok ok w w' := by
    refine ⟨fun q p hq => ?_, fun _ h => h, fun b' hb' => ho b' (fun e => hoff (e ▸ hb')), hsh⟩
    by_cases hqn : q = h.next
    · subst hqn; rw [hn.2] at hq; cases hq
    · simpa [hqn] using hq
  have get : ∀ q D, ((h.upd k none).add B).get q = some D → (q = h.next ∧ D = B) ∨ (q ≠ h.next ∧ q ≠ k ∧ h.get q = some D) := fun q D hq => by
    rw [Heap.add_get, Heap.upd_next, Heap.upd_get] at hq
    by_cases e : q = h.next
    · rw [if_pos e] at hq; cases hq; exact .inl ⟨e, rfl⟩
    · rw [if_neg e] at hq
      by_cases e' : q = k
      · rw [if_pos e'] at hq; cases hq
      · rw [if_neg e'] at hq; exact .inr ⟨e, e', hq⟩
  refine ⟨⟨fun b' hb' => by have := hr.okLt b' hb'; omega, fun q hq => ?_, fun q D b1 s1 h1 h2 => ?_, fun q D h1 h2 => ?_, fun q q' D D' b1 s1 b2 s2 h1 h2 h3 h4 h5 => ?_, fun q D h1 => ?_⟩, he,
    ⟨hos, htp, hout, by omega, fun b' _ hn => ho b' (fun e => hn ⟨k, A, s, hk, e ▸ hp⟩), hsh⟩, fun b' hb' => ?_, fun _ h => .inl h⟩
  · have hq' : h.next + 1 ≤ q := hq
    have := hr.fresh q (by omega)
    have hne : q ≠ h.next := by omega
    rw [Heap.add_get, Heap.upd_next, Heap.upd_get]
    rw [if_neg hne, if_neg hne]
    refine ⟨?_, this.2⟩
    by_cases e' : q = k
    · rw [if_pos e']
    · rw [if_neg e']; exact this.1
  · rcases get q D h1 with ⟨rfl, rfl⟩ | ⟨g1, g2, g3⟩
    · simp only [if_true, Option.some.injEq, Prod.mk.injEq] at h2
      obtain ⟨rfl, rfl⟩ := h2
      exact ⟨hoff, C', by rw [hty]; exact hb, hsz, fun i j e x h6 h7 => let ⟨y, h8, h9, h10⟩ := hc i j e x h6 h7; ⟨y, h8, h9, h10.ext he⟩⟩
    · simp only [g1, if_false] at h2
      obtain ⟨ho', E, g4, g5, g6⟩ := hr.lies q D b1 s1 g3 h2
      have hne : b1 ≠ b := hr.inj q k D A b1 s1 b s g3 hk h2 hp g2
      exact ⟨ho', E, by rw [ho b1 hne]; exact g4, g5, fun i j e x h6 h7 => let ⟨y, h8, h9, h10⟩ := g6 i j e x h6 h7; ⟨y, h8, h9, h10.ext he⟩⟩
  · rcases get q D h1 with ⟨rfl, rfl⟩ | ⟨g1, g2, g3⟩
    · simp at h2
    · simp only [g1, if_false] at h2; exact hr.none_ q D g3 h2
  · rcases get q D h1 with ⟨rfl, rfl⟩ | ⟨g1, g2, g3⟩
    · rcases get q' D' h2 with ⟨rfl, rfl⟩ | ⟨g1', g2', g3'⟩
      · exact absurd rfl h5
      · simp only [if_true, Option.some.injEq, Prod.mk.injEq] at h3
        simp only [g1', if_false] at h4
        obtain ⟨rfl, rfl⟩ := h3
        exact (hr.inj q' k D' A b2 s2 b s g3' hk h4 hp g2').symm
    · simp only [g1, if_false] at h3
      rcases get q' D' h2 with ⟨rfl, rfl⟩ | ⟨g1', g2', g3'⟩
      · simp only [if_true, Option.some.injEq, Prod.mk.injEq] at h4
        obtain ⟨rfl, rfl⟩ := h4
        exact hr.inj q k D A b1 s1 b s g3 hk h3 hp g2
      · simp only [g1', if_false] at h4
        exact hr.inj q q' D D' b1 s1 b2 s2 g3 g3' h3 h4 h5
  · rcases get q D h1 with ⟨rfl, rfl⟩ | ⟨g1, g2, g3⟩
    · exact hz
    · exact hr.size q D g3
  · obtain ⟨q, D, s1, h1, h2⟩ := hb'
    rcases get q D h1 with ⟨rfl, rfl⟩ | ⟨g1, g2, g3⟩
    · simp only [if_true, Option.some.injEq, Prod.mk.injEq] at h2
      obtain ⟨rfl, rfl⟩ := h2
      exact .inl ⟨k, A, s, hk, hp⟩
    · simp only [g1, if_false] at h2
      exact .inl ⟨q, D, s1, g3, h2⟩

section
variable {P : Program} {w : World} {t u ty e : TypeId} {i : TypeInfo} {z : Value} {n : Nat}

theorem append_in (hu : seqKind P u = some false) (he : P.underlying t = some (.slice e)) (hn : tsz P e = some n) {base : Option Addr} {sLen sCap xn xc : Nat} {xa : Option Addr} {news : List Value}
    (hx : (Builtin.firstCells n xn (.slice xa xn xc)).run P w = .ok news.toArray w) (hle : sLen + xn ≤ sCap) {w' : World}
    (hs : ∀ a, base = some a → (storeCells (a.add (sLen * n)) news).run P w = .ok () w') (hb : base = none → w' = w) :
    (Builtin.append_ #[t, u] ty #[.slice base sLen sCap, .slice xa xn xc]).run P w = .ok (.slice base (sLen + xn) sCap) w' := by
  obtain ⟨d, hd⟩ := seqKind_run hu
  simp only [Builtin.append_, List.getElem?_toArray, List.getElem?_cons_zero, List.getElem?_cons_succ, Sem.run_bind, run_underlying he, Result.andThen_ok, tsz_run hn, run_underlying hd, Sem.run_pure, Bool.false_eq_true, if_false, Builtin.lenOf, Bool.not_false, if_true, hx]
  rw [if_pos hle]
  simp only [Sem.run_bind, hx, Result.andThen_ok]
  cases base with
  | none => rw [hb rfl]; rfl
  | some a => simp only [Sem.run_bind, hs a rfl, Result.andThen_ok, Sem.run_pure]

theorem append_new (hu : seqKind P u = some false) (he : P.underlying t = some (.slice e)) (hn : tsz P e = some n) (hi : P.info? e = some i) (hz : i.zero = some z) {base : Option Addr} {sLen sCap xn xc : Nat} {xa : Option Addr} {olds news : List Value}
    (ho : (Builtin.firstCells n sLen (.slice base sLen sCap)).run P w.drew = .ok olds.toArray w.drew)
    (hx : (Builtin.firstCells n xn (.slice xa xn xc)).run P w.drew = .ok news.toArray w.drew) (hg : sCap < sLen + xn) (hbt : i.bytes ≤ 4096) (hlen : sLen + xn ≤ 1073741824) :
    (Builtin.append_ #[t, u] ty #[.slice base sLen sCap, .slice xa xn xc]).run P w =
      .ok (.slice (some ⟨w.heap.size, 0, none⟩) (sLen + xn) (grownCap w (sLen + xn) sCap e)) (w.drew.alloc (.cells (olds.toArray ++ news.toArray ++ Builtin.zeroCells z.cells (grownCap w (sLen + xn) sCap e - (sLen + xn))) e)) := by
  obtain ⟨d, hd⟩ := seqKind_run hu
  have hfit : Builtin.nextslicecap (sLen + xn) sCap * i.bytes ≤ 281474976710656 := by
    have h1 : (sLen + xn) * i.bytes ≤ 140737488355328 := Nat.le_trans (Nat.mul_le_mul hlen hbt) (by decide)
    exact growslice_fits hg h1
  have hn0 : ¬ (sLen + xn ≤ sCap) := by omega
  have h63 : ¬ (9223372036854775807 < ((sLen : Int) + (xn : Int))) := by omega
  have h48 : ¬ (281474976710656 < Builtin.nextslicecap (sLen + xn) sCap * i.bytes) := by omega
  have hsz : i.size = n := by simpa [tsz, hi] using hn
  simp [Builtin.append_, run_underlying he, run_underlying hd, sizeOf, typeInfo, zeroValue, hi, hz, Builtin.lenOf, hn0, h63, h48, Question.forced, hsz, ho, hx, newRow, grownCap]
  rw [← List.append_toArray, Array.append_assoc]
end


theorem rows_get {sz : Nat} : ∀ (A B : List (List AV)) (ya yb : List Value) (φ : Plc) (ok : Nat → Prop) (w : World), ya.length = A.length * sz →
    (∀ (i j : Nat) e x, A[i]? = some e → e[j]? = some x → ∃ y, ya[i * sz + j]? = some y ∧ one y = true ∧ RV φ ok w x y) →
    (∀ (i j : Nat) e x, B[i]? = some e → e[j]? = some x → ∃ y, yb[i * sz + j]? = some y ∧ one y = true ∧ RV φ ok w x y) →
    ∀ (i j : Nat) e x, (A ++ B)[i]? = some e → e[j]? = some x → ∃ y, (ya ++ yb)[i * sz + j]? = some y ∧ one y = true ∧ RV φ ok w x y := by
  intro A B ya yb φ ok w hl hA hB i j e x h1 h2
  by_cases hi : i < A.length
  · rw [List.getElem?_append_left hi] at h1
    obtain ⟨y, h3, h4, h5⟩ := hA i j e x h1 h2
    refine ⟨y, ?_, h4, h5⟩
    rw [List.getElem?_append_left (List.getElem?_eq_some_iff.1 h3).1]; exact h3
  · rw [List.getElem?_append_right (by omega)] at h1
    obtain ⟨y, h3, h4, h5⟩ := hB _ j e x h1 h2
    refine ⟨y, ?_, h4, h5⟩
    have e1 : i * sz = A.length * sz + (i - A.length) * sz := by rw [← Nat.add_mul]; congr 1; omega
    rw [List.getElem?_append_right (by omega), ← h3]
    congr 1; omega

theorem zeroCells_size (z : Array Value) (n : Nat) : (Builtin.zeroCells z n).size = n * z.size := by simp [Builtin.zeroCells]

theorem append_sound {P : Program} {φ : Plc} {ok : Nat → Prop} {h h' : Heap} {w : World} {t u ty : TypeId} {a b r : AV} {x y : Value} (hR : Rel φ ok h w) (ha : RV φ ok w a x) (hb : RV φ ok w b y) (ho : opAppend P h t u a b = some (r, h')) :
    ∃ v w' φ', (Builtin.append_ #[t, u] ty #[x, y]).run P w = .ok v w' ∧ Step φ φ' ok ok h h' w w' ∧ RV φ' ok w' r v := by
  unfold opAppend at ho
  cases he : selem P t with
  | none => simp [he] at ho
  | some e =>
  cases hn : tsz P e with
  | none => simp [he, hn] at ho
  | some n =>
  cases hbt : tbytes P e with
  | none => simp [he, hn, hbt] at ho
  | some bt =>
  cases hz : tzero P e with
  | none => simp [he, hn, hbt, hz] at ho
  | some z =>
  cases hxs : srcOf h n b with
  | none => simp [he, hn, hbt, hz, hxs] at ho
  | some xs =>
  simp only [he, hn, hbt, hz, hxs, Option.bind_some] at ho
  split at ho
  · rename_i hc
    obtain ⟨hu, hbt', hzn⟩ := hc
    have hut := selem_run he
    obtain ⟨zv, _, hzv, i, hi, hiz⟩ := tzero_run hz w
    have hzs : zv.cells.size = n := by rw [← hzn, hzv]; simp
    have hib : i.bytes ≤ 4096 := by
      have : i.bytes = bt := by simpa [tbytes, hi] using hbt
      omega
    obtain ⟨xa, xc, rfl, hxc, hat, hxne⟩ := src_sound hR hb hxs
    have hde : Ext φ φ ok ok w w.drew := ⟨fun _ _ h => h, fun _ h => h, fun _ _ => rfl, fun _ _ h => h⟩
    obtain ⟨news, hn1, hn2, hn3⟩ := hat.firstCells (P := P) (c := xc) hxne (w2 := w) rfl
    obtain ⟨news', hm1, hm2, hm3⟩ := (hat.ext hde rfl).firstCells (P := P) (c := xc) hxne (w2 := w.drew) rfl
    have hd := Step.drew hR
    split at ho
    · split at ho
      · rename_i hlen
        cases ho
        cases ha with
        | emp ad =>
          by_cases hx0 : xs.length = 0
          · have hxs0 : xs = [] := List.length_eq_zero_iff.1 hx0
            subst hxs0
            have hnl : news = [] := by simpa using hn2
            subst hnl
            refine ⟨_, w, φ, append_in (w' := w) hu hut hn hn1 (by simp) (fun a _ => rfl) (fun _ => rfl), step_phantom hR n e, .hs (by simp) (fun h => absurd h (by simp))⟩
          · refine ⟨_, _, _, append_new hu hut hn hi hiz (olds := []) ?_ hm1 (by simp; omega) hib (by simpa using hlen), hd.trans (step_new hd.rel ⟨n, e, xs⟩ _ ?_ hat.1 fun i j e x h1 h2 => ?_), ?_⟩
            · cases ad with
              | none => simp [Builtin.firstCells]
              | some a => simp [Builtin.firstCells, loadCells, loadCellsFrom]
            · simp [hm2]
            · obtain ⟨y, h3, h4, h5⟩ := hm3 i j e x h1 h2
              refine ⟨y, ?_, h4, h5⟩
              have := (List.getElem?_eq_some_iff.1 h3).1
              simp only [List.nil_append, Array.empty_append, Array.getElem?_append, List.size_toArray, this, if_true, List.getElem?_toArray]
              simpa [this] using h3
            · simp only [Nat.zero_add]
              refine .hs (grownCap_ge ..) fun hpos => ⟨w.heap.size, 0, (e, (grownCap w xs.length 0 e) * n), if_pos rfl, by simp, ?_, by simp⟩
              unfold World.shape?
              rw [show w.heap.size = w.drew.heap.size from rfl, heap_alloc_new]
              have hge := grownCap_ge w xs.length 0 e
              simp only [Option.some.injEq, Prod.mk.injEq, true_and, Array.size_append, List.size_toArray, List.length_nil, Nat.zero_add, hm2, zeroCells_size, hzs, ← Nat.add_mul]
              congr 1; omega
      · cases ho
    · rename_i k sz lo len
      cases hA : h.get k with
      | none => simp [hA] at ho
      | some A =>
      simp only [hA, Option.bind_some] at ho
      cases hp : elems h (.hs k sz lo len) with
      | none => simp [hp] at ho
      | some p =>
      simp only [hp, Option.bind_some] at ho
      split at ho
      · rename_i hcond
        obtain ⟨hsz, hty, hlen⟩ := hcond
        cases ho
        obtain ⟨sz', olds⟩ := p
        have hp' := hp
        simp only [elems, hA, Option.bind_some] at hp'
        split at hp'
        · rename_i hpc
          obtain ⟨hAsz, hle⟩ := hpc
          simp only [Option.some.injEq, Prod.mk.injEq] at hp'
          obtain ⟨rfl, hol⟩ := hp'
          subst hsz
          have hollen : olds.length = len := by rw [← hol]; simp; omega
          obtain ⟨ad, c, hxeq, hoc, hoat, hone⟩ := elems_sound hR ha hp
          subst hxeq
          cases ha with
          | @hs _ _ _ _ _ _ hlc hcap =>
          simp only at hlen
          by_cases hneed : olds.length + xs.length ≤ c
          · by_cases hc0 : c = 0
            · have ho0 : olds = [] := List.length_eq_zero_iff.1 (by omega)
              have hx0 : xs = [] := List.length_eq_zero_iff.1 (by omega)
              subst hx0
              have hnl : news = [] := by simpa using hn2
              subst hnl
              have hst := (step_drop hR k).trans (step_phantom (step_drop hR k).rel sz e)
              simp only [ho0, List.length_nil, Nat.add_zero, List.append_nil] at hst ⊢
              refine ⟨_, w, φ, append_in (w' := w) hu hut hn hn1 (by simp) (fun a _ => rfl) (fun _ => rfl), hst, .hs (by simp) (fun h => absurd h (by omega))⟩
            · obtain ⟨b', s, q, h1, h2, h3, h4⟩ := hcap (by omega)
              obtain ⟨hoff, C, g1, g2, g3⟩ := hR.lies k A b' s hA h1
              have hq : q.2 = C.size := by simp [World.shape?, g1] at h3; rw [← h3]
              have hnone : ∀ y ∈ news, one y = true := fun y hy => by
                obtain ⟨m, hm⟩ := List.getElem?_of_mem hy
                have hml : m < xs.length * sz := by rw [← hn2]; exact (List.getElem?_eq_some_iff.1 hm).1
                have hszp : 0 < sz := by
                  rcases Nat.eq_zero_or_pos sz with h0 | h0
                  · subst h0; omega
                  · exact h0
                have hi' : m / sz < xs.length := Nat.div_lt_of_lt_mul (by rw [Nat.mul_comm]; exact hml)
                have hj' : m % sz < (xs[m / sz]).length := by rw [hat.1 _ (List.getElem_mem hi')]; exact Nat.mod_lt _ hszp
                obtain ⟨y', e1, e2, _⟩ := hn3 (m / sz) (m % sz) _ _ (List.getElem?_eq_getElem hi') (List.getElem?_eq_getElem hj')
                have e3 : m / sz * sz + m % sz = m := by have := Nat.div_add_mod m sz; rw [Nat.mul_comm] at this; exact this
                rw [e3, hm] at e1
                cases e1; exact e2
              have hfit : s + lo * sz + olds.length * sz + news.length ≤ C.size := by
                rw [hn2]
                have : (olds.length + xs.length) * sz ≤ c * sz := Nat.mul_le_mul_right _ hneed
                rw [Nat.add_mul] at this
                rw [hq, Nat.add_mul] at h4
                omega
              obtain ⟨w', C', k1, k2, k3, k4, k5, k6, k7, k8, k9, k10⟩ := storeCells_raw (P := P) news w C (s + lo * sz + olds.length * sz) 0 g1 (by omega) hnone
              subst h2
              have hrows : ∀ (i j : Nat) e x, (olds ++ xs)[i]? = some e → e[j]? = some x → ∃ y, C'[s + lo * sz + i * sz + j]? = some y ∧ one y = true ∧ RV φ ok w x y := fun i j e x r1 r2 => by
                rw [k4]
                simp only [Nat.add_zero]
                by_cases hio : i < olds.length
                · rw [List.getElem?_append_left hio] at r1
                  have hjl : j < sz := by rw [← hoat.1 e (List.mem_of_getElem? r1)]; exact (List.getElem?_eq_some_iff.1 r2).1
                  obtain ⟨bb, oo, y, r3, r4, r5, r6⟩ := hoat.2 i j e x r1 r2
                  cases r3
                  have hlt : (i + 1) * sz ≤ olds.length * sz := Nat.mul_le_mul_right _ hio
                  rw [Nat.add_mul, Nat.one_mul] at hlt
                  rw [if_neg (by omega)]
                  rw [cell_of_row w b' _ C A.ty (0, 0) g1] at r4
                  exact ⟨y, r4, r5, r6⟩
                · rw [List.getElem?_append_right (by omega)] at r1
                  obtain ⟨y, r3, r4, r5⟩ := hn3 _ j e x r1 r2
                  have e1 : i * sz = olds.length * sz + (i - olds.length) * sz := by rw [← Nat.add_mul]; congr 1; omega
                  have hlt := (List.getElem?_eq_some_iff.1 r3).1
                  rw [if_pos (by omega)]
                  refine ⟨y, ?_, r4, r5⟩
                  rw [← r3]; congr 1; omega
              have hst := step_move (B := ⟨sz, e, olds ++ xs⟩) (s' := s + lo * sz) hR hA h1 (C' := C') hty.symm k2 (by
                  simp only [List.length_append, Nat.add_mul]; rw [k3]; omega) (fun e he => by
                  rcases List.mem_append.1 he with h | h
                  · exact hoat.1 e h
                  · exact hat.1 e h) hrows k5 k6 k7 k8 k9 k10
              refine ⟨_, w', _, append_in (w' := w') hu hut hn hn1 hneed (fun a ha => ?_) (fun h => by cases h), hst, ?_⟩
              · cases ha
                rw [addr_add]; exact k1
              · refine .hs hneed fun _ => ⟨b', s + lo * sz, q, by simp [Heap.upd_next], by simp, k10 _ _ h3, ?_⟩
                rw [Nat.zero_add]
                rw [Nat.add_mul] at h4
                omega
          · obtain ⟨olds', p1, p2, p3⟩ := (hoat.ext hde rfl).firstCells (P := P) (c := c) hone (w2 := w.drew) rfl
            have hst0 := hd.trans (step_drop hd.rel k)
            refine ⟨_, _, _, append_new hu hut hn hi hiz p1 hm1 (by omega) hib hlen, hst0.trans (step_new hst0.rel ⟨sz, e, olds ++ xs⟩ _ ?_ (fun e he => ?_) fun i j e x r1 r2 => ?_), ?_⟩
            · simp only [List.length_append, Nat.add_mul, Array.size_append, List.size_toArray, p2, hm2]; omega
            · rcases List.mem_append.1 he with h | h
              · exact hoat.1 e h
              · exact hat.1 e h
            · obtain ⟨y, r3, r4, r5⟩ := rows_get olds xs olds' news' φ ok w.drew p2 p3 hm3 i j e x r1 r2
              refine ⟨y, ?_, r4, r5⟩
              have hlt := (List.getElem?_eq_some_iff.1 r3).1
              have e7 : olds'.toArray ++ news'.toArray = (olds' ++ news').toArray := by simp
              rw [e7, Array.getElem?_append, List.size_toArray, if_pos hlt, List.getElem?_toArray]
              exact r3
            · refine .hs (grownCap_ge ..) fun hpos => ⟨w.heap.size, 0, (e, (grownCap w (olds.length + xs.length) c e) * sz), by simp [Heap.upd_next], by simp, ?_, by simp⟩
              unfold World.shape?
              rw [show w.heap.size = w.drew.heap.size from rfl, heap_alloc_new]
              have hge := grownCap_ge w (olds.length + xs.length) c e
              simp only [Option.some.injEq, Prod.mk.injEq, true_and, Array.size_append, List.size_toArray, p2, hm2, zeroCells_size, hzs, ← Nat.add_mul]
              congr 1; omega
        · cases hp'
      · cases ho
    · cases ho
  · cases ho

end Go.Proofs.Dv
