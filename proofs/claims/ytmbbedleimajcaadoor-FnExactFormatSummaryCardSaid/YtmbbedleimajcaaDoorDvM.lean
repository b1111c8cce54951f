/- Functions: from the body's walk to the judgement; pure values; own arrays seen as content. -/
import Derived.Test.YtmbbedleimajcaaDoorDvL
namespace Go.Proofs.Dv
open Go Go.RowKit
set_option linter.unusedSimpArgs false
set_option linter.unusedVariables false

/-- The state at a function's beginning. -/
def St.begin (args : List AV) (n : Nat) (h : Heap) : St := ⟨args ++ List.replicate (n - args.length) (.v undef), h⟩

def Ends (P : Program) (rs : List ResultVar) (r : AV) (h' : Heap) (e : Ex) (s : St) : Prop := (e = .ret ∨ e = .normal) ∧ resAV P rs s = some r ∧ s.h = h'

theorem ret_of_dwp {P : Program} {f : FuncId} {fn : Func} {c : Code} {args : List AV} {h h' : Heap} {r : AV} (hen : enterB P f = true) (hf : P.funcs[f]? = some fn) (hb : fn.body = some c)
    (hd : dwp P c (Ends P fn.results.toList r h') (St.begin args fn.ntmps h)) : Ret P f args h r h' := by
  refine ⟨hen, fun φ ok w vs hG hR hv => calls_of_wp hf hb ?_⟩
  have hs : Sim P w (live φ h) ok φ ok (St.begin args fn.ntmps h) { tmps := vs ++ Array.replicate (fn.ntmps - vs.size) undef, defers := [] } w := by
    refine ⟨hG, hR, Frame.refl _ _, fun b hb => .inl hb, fun b hb => .inl hb, by simp [St.begin, hv.1], fun i x y h1 h2 => ?_, rfl⟩
    simp only [St.begin] at h1
    by_cases hi : i < args.length
    · rw [List.getElem?_append_left hi] at h1
      rw [Array.getElem?_append_left (by rw [← hv.1]; exact hi)] at h2
      exact hv.2 i x y h1 h2
    · rw [List.getElem?_append_right (by omega)] at h1
      rw [Array.getElem?_append_right (by rw [← hv.1]; omega)] at h2
      rw [List.getElem?_replicate] at h1
      split at h1
      · cases h1
        simp only [Array.getElem?_replicate] at h2
        split at h2
        · cases h2; exact .v _
        · cases h2
      · cases h1
  refine wp_mono (dwp_sound c hs hd) ?_
  rintro e a' w' ⟨x, rfl, s', φ', ok', ht, hx, hres, hh⟩
  obtain ⟨v, h1, h2⟩ := results_sound ht.sim hres
  have hst : Step φ φ' ok ok' h h' w w' := by
    subst hh
    exact ⟨ht.sim.rel, ht.ext, ht.sim.frame, ht.sim.own, ht.sim.okg⟩
  rcases hx with rfl | rfl
  · exact ⟨ht.sim.df, v, h1, v, φ', ok', rfl, hst, h2⟩
  · exact ⟨ht.sim.df, v, h1, v, φ', ok', rfl, hst, h2⟩

/-- No key in it. -/
inductive Pure : AV → Prop where
  | v (x : Value) : Pure (.v x)
  | emp : Pure .emp
  | agg {l : List AV} (h : ∀ a ∈ l, Pure a) : Pure (.agg l)
  | tup {l : List AV} (h : ∀ a ∈ l, Pure a) : Pure (.tup l)
  | clo {f : FuncId} {l : List AV} (h : ∀ a ∈ l, Pure a) : Pure (.clo f l)
  | cs {sz : Nat} {es : List (List AV)} (h : ∀ e ∈ es, ∀ a ∈ e, Pure a) : Pure (.cs sz es)
  | cp {sz : Nat} {es : List (List AV)} {i j : Nat} (h : ∀ e ∈ es, ∀ a ∈ e, Pure a) : Pure (.cp sz es i j)

theorem Pure.v_iff (x : Value) : Pure (.v x) ↔ True := ⟨fun _ => trivial, fun _ => .v x⟩
theorem Pure.emp_iff : Pure .emp ↔ True := ⟨fun _ => trivial, fun _ => .emp⟩
theorem Pure.agg_iff (l : List AV) : Pure (.agg l) ↔ ∀ a ∈ l, Pure a := ⟨fun h => by cases h; assumption, .agg⟩
theorem Pure.tup_iff (l : List AV) : Pure (.tup l) ↔ ∀ a ∈ l, Pure a := ⟨fun h => by cases h; assumption, .tup⟩
theorem Pure.clo_iff (f : FuncId) (l : List AV) : Pure (.clo f l) ↔ ∀ a ∈ l, Pure a := ⟨fun h => by cases h; assumption, .clo⟩
theorem Pure.cs_iff (sz : Nat) (es : List (List AV)) : Pure (.cs sz es) ↔ ∀ e ∈ es, ∀ a ∈ e, Pure a := ⟨fun h => by cases h; assumption, .cs⟩
theorem Pure.cp_iff (sz : Nat) (es : List (List AV)) (i j : Nat) : Pure (.cp sz es i j) ↔ ∀ e ∈ es, ∀ a ∈ e, Pure a := ⟨fun h => by cases h; assumption, .cp⟩

theorem RV.pure {φ φ' : Plc} {ok : Nat → Prop} {w : World} {a : AV} {x : Value} (h : RV φ ok w a x) : Pure a → RV φ' ok w a x := by
  induction h with
  | v x => intro _; exact .v x
  | dead x => intro h; cases h
  | emp a => intro _; exact .emp a
  | hs _ _ => intro h; cases h
  | hp _ => intro h; cases h
  | agg hl _ ih => intro hp; cases hp with | agg hp => exact .agg hl fun i a y h1 h2 => ih i a y h1 h2 (hp a (List.mem_of_getElem? h1))
  | tup hl _ ih => intro hp; cases hp with | tup hp => exact .tup hl fun i a y h1 h2 => ih i a y h1 h2 (hp a (List.mem_of_getElem? h1))
  | clo hl _ ih => intro hp; cases hp with | clo hp => exact .clo hl fun i a y h1 h2 => ih i a y h1 h2 (hp a (List.mem_of_getElem? h1))
  | cs hl hz hb y hc ho _ ih => intro hp; cases hp with | cs hp => exact .cs hl hz hb y hc ho fun i j e x h1 h2 => ih i j e x h1 h2 (hp e (List.mem_of_getElem? h1) x (List.mem_of_getElem? h2))
  | cp hz hb y hc ho _ ih => intro hp; cases hp with | cp hp => exact .cp hz hb y hc ho fun i j e x h1 h2 => ih i j e x h1 h2 (hp e (List.mem_of_getElem? h1) x (List.mem_of_getElem? h2))

/-- Own arrays seen as content. -/
inductive View (h : Heap) : AV → AV → Prop where
  | pure {a : AV} (hp : Pure a) : View h a a
  | emp (sz : Nat) : View h .emp (.cs sz [])
  | agg {l l' : List AV} (hl : l.length = l'.length) (hv : ∀ (i : Nat) a b, l[i]? = some a → l'[i]? = some b → View h a b) : View h (.agg l) (.agg l')
  | tup {l l' : List AV} (hl : l.length = l'.length) (hv : ∀ (i : Nat) a b, l[i]? = some a → l'[i]? = some b → View h a b) : View h (.tup l) (.tup l')
  | hs {k sz lo len : Nat} {es es' : List (List AV)} (he : elems h (.hs k sz lo len) = some (sz, es)) (hl : es.length = es'.length) (hle : ∀ (i : Nat) e e', es[i]? = some e → es'[i]? = some e' → e.length = e'.length)
      (hv : ∀ (i j : Nat) e e' a b, es[i]? = some e → es'[i]? = some e' → e[j]? = some a → e'[j]? = some b → View h a b) : View h (.hs k sz lo len) (.cs sz es')
  | cs {sz : Nat} {es es' : List (List AV)} (hl : es.length = es'.length) (hle : ∀ (i : Nat) e e', es[i]? = some e → es'[i]? = some e' → e.length = e'.length)
      (hv : ∀ (i j : Nat) e e' a b, es[i]? = some e → es'[i]? = some e' → e[j]? = some a → e'[j]? = some b → View h a b) : View h (.cs sz es) (.cs sz es')

theorem get_of_len {α β : Type} {l : List α} {l' : List β} (h : l.length = l'.length) {i : Nat} {b : β} (hb : l'[i]? = some b) : ∃ a, l[i]? = some a := by
  have : i < l.length := by rw [h]; exact (List.getElem?_eq_some_iff.1 hb).1
  exact ⟨l[i], List.getElem?_eq_getElem this⟩

theorem RV.okmono {φ : Plc} {ok ok' : Nat → Prop} {w : World} {a : AV} {x : Value} (h : RV φ ok w a x) (hs : ∀ b, ok b → ok' b) : RV φ ok' w a x :=
  h.ext ⟨fun _ _ h => h, hs, fun _ _ => rfl, fun _ _ h => h⟩

theorem view_sound {φ : Plc} {ok : Nat → Prop} {h : Heap} {w : World} (hR : Rel φ ok h w) {a b : AV} (hv : View h a b) : ∀ {x : Value}, RV φ ok w a x → RV φ (fun b => ok b ∨ live φ h b) w b x := by
  induction hv with
  | pure hp => intro x hx; exact hx.okmono fun _ h => .inl h
  | emp sz => intro x hx; cases hx with | emp ad => exact .cs (sz := sz) (es := []) (Nat.le_refl _) (fun e he => (List.not_mem_nil he).elim) (fun h => absurd rfl h) (fun _ _ => undef) (fun i j e x b o h => by simp at h) (fun i j e x h => by simp at h) (fun i j e x h => by simp at h)
  | agg hl _ ih =>
    intro x hx
    cases hx with | agg hl' hh =>
    refine .agg (by omega) fun i a y h1 h2 => ?_
    obtain ⟨a', h3⟩ := get_of_len hl h1
    exact ih i a' a h3 h1 (hh i a' y h3 h2)
  | tup hl _ ih =>
    intro x hx
    cases hx with | tup hl' hh =>
    refine .tup (by omega) fun i a y h1 h2 => ?_
    obtain ⟨a', h3⟩ := get_of_len hl h1
    exact ih i a' a h3 h1 (hh i a' y h3 h2)
  | @hs k sz lo len es es' he hl hle _ ih =>
    intro x hx
    obtain ⟨ad, c, rfl, hc, hat, hne⟩ := elems_sound hR hx he
    have hex : ∀ i j, ∃ y, ∀ e x, es[i]? = some e → e[j]? = some x → ∀ b o, ad = some ⟨b, o, none⟩ → w.cell? ⟨b, o + i * sz + j, none⟩ = some y ∧ one y = true ∧ RV φ ok w x y := fun i j => by
      cases h1 : es[i]? with
      | none => exact ⟨undef, fun e x h => by cases h⟩
      | some e =>
        cases h2 : e[j]? with
        | none => exact ⟨undef, fun e' x h h' => by cases h; rw [h2] at h'; cases h'⟩
        | some x =>
          obtain ⟨b, o, y, h3, h4, h5, h6⟩ := hat.2 i j e x h1 h2
          refine ⟨y, fun e' x' h h' b' o' h7 => ?_⟩
          cases h; rw [h2] at h'; cases h'
          rw [h3] at h7; cases h7
          exact ⟨h4, h5, h6⟩
    obtain ⟨f, hf⟩ : ∃ f : Nat → Nat → Value, ∀ i j e x, es[i]? = some e → e[j]? = some x → ∀ b o, ad = some ⟨b, o, none⟩ → w.cell? ⟨b, o + i * sz + j, none⟩ = some (f i j) ∧ one (f i j) = true ∧ RV φ ok w x (f i j) :=
      ⟨fun i j => Classical.choose (hex i j), fun i j => Classical.choose_spec (hex i j)⟩
    have hlive : es ≠ [] → ∀ b o, ad = some ⟨b, o, none⟩ → live φ h b := fun hn b o hb => by
      subst hb
      cases hx with | hs hlc hcap =>
      obtain ⟨b', s, q, h1, h2, _⟩ := hcap (by have : 0 < es.length := List.length_pos_iff.2 hn; omega)
      cases h2
      simp only [elems] at he
      cases hA : h.get k with
      | none => simp [hA] at he
      | some A => exact ⟨k, A, s, hA, h1⟩
    have hz' : ∀ e ∈ es', e.length = sz := fun e he' => by
      obtain ⟨i, hi⟩ := List.getElem?_of_mem he'
      obtain ⟨e0, h3⟩ := get_of_len hl hi
      rw [← hle i e0 e h3 hi]
      exact hat.1 e0 (List.mem_of_getElem? h3)
    have back : ∀ (i j : Nat) e x, es'[i]? = some e → e[j]? = some x → ∃ e0 x0, es[i]? = some e0 ∧ e0[j]? = some x0 := fun i j e x h1 h2 => by
      obtain ⟨e0, h3⟩ := get_of_len hl h1
      obtain ⟨x0, h4⟩ := get_of_len (hle i e0 e h3 h1) h2
      exact ⟨e0, x0, h3, h4⟩
    have hne' : es' ≠ [] → es ≠ [] := fun h e => h (List.length_eq_zero_iff.1 (by rw [← hl, e]; rfl))
    rw [hl]
    refine .cs (by omega) hz' (fun hn' => ?_) f (fun i j e x b o h1 h2 h3 => ?_) (fun i j e x h1 h2 => ?_) (fun i j e x h1 h2 => ?_)
    · obtain ⟨b, o, h1⟩ := hne (hne' hn')
      exact ⟨b, o, h1, .inr (hlive (hne' hn') b o h1)⟩
    · obtain ⟨e0, x0, h4, h5⟩ := back i j e x h1 h2
      exact (hf i j e0 x0 h4 h5 b o h3).1
    · obtain ⟨e0, x0, h4, h5⟩ := back i j e x h1 h2
      have hn0 : es ≠ [] := by intro h; subst h; simp at h4
      obtain ⟨b, o, h6⟩ := hne hn0
      exact (hf i j e0 x0 h4 h5 b o h6).2.1
    · obtain ⟨e0, x0, h4, h5⟩ := back i j e x h1 h2
      have hn0 : es ≠ [] := by intro h; subst h; simp at h4
      obtain ⟨b, o, h6⟩ := hne hn0
      exact ih i j e0 e x0 x h4 h1 h5 h2 (hf i j e0 x0 h4 h5 b o h6).2.2
  | @cs sz es es' hl hle _ ih =>
    intro x hx
    cases hx with | cs hlc hz hb y hc hone hr =>
    have back : ∀ (i j : Nat) e x, es'[i]? = some e → e[j]? = some x → ∃ e0 x0, es[i]? = some e0 ∧ e0[j]? = some x0 := fun i j e x h1 h2 => by
      obtain ⟨e0, h3⟩ := get_of_len hl h1
      obtain ⟨x0, h4⟩ := get_of_len (hle i e0 e h3 h1) h2
      exact ⟨e0, x0, h3, h4⟩
    have hne' : es' ≠ [] → es ≠ [] := fun h e => h (List.length_eq_zero_iff.1 (by rw [← hl, e]; rfl))
    rw [hl]
    refine .cs (by omega) (fun e he' => ?_) (fun hn' => ?_) y (fun i j e x b o h1 h2 h3 => ?_) (fun i j e x h1 h2 => ?_) (fun i j e x h1 h2 => ?_)
    · obtain ⟨i, hi⟩ := List.getElem?_of_mem he'
      obtain ⟨e0, h3⟩ := get_of_len hl hi
      rw [← hle i e0 e h3 hi]
      exact hz e0 (List.mem_of_getElem? h3)
    · obtain ⟨b, o, h1, h2⟩ := hb (hne' hn')
      exact ⟨b, o, h1, .inl h2⟩
    · obtain ⟨e0, x0, h4, h5⟩ := back i j e x h1 h2
      exact hc i j e0 x0 b o h4 h5 h3
    · obtain ⟨e0, x0, h4, h5⟩ := back i j e x h1 h2
      exact hone i j e0 x0 h4 h5
    · obtain ⟨e0, x0, h4, h5⟩ := back i j e x h1 h2
      exact ih i j e0 e x0 x h4 h1 h5 h2 (hr i j e0 x0 h4 h5)

theorem rel_empty {ok : Nat → Prop} {w : World} (hok : ∀ b, ok b → b < w.heap.size) : Rel (fun _ => none) ok .empty w :=
  { okLt := hok
    fresh := fun k _ => ⟨rfl, rfl⟩
    lies := fun k A b s h => by simp [Heap.empty] at h
    none_ := fun k A h => by simp [Heap.empty] at h
    inj := fun k k' A A' b s b' s' h => by simp [Heap.empty] at h
    size := fun k A h => by simp [Heap.empty] at h }

theorem live_empty {φ : Plc} {b : Nat} : ¬ live φ .empty b := fun ⟨_, _, _, h, _⟩ => by cases h

/-- A heap of which nothing has turned, in a later world. -/
theorem step_keep {φ : Plc} {ok ok' : Nat → Prop} {h : Heap} {w w' : World} (hR : Rel φ ok h w) (hf : Frame (fun _ => False) w w') (hs : ∀ b, ok b → ok' b) (hg : ∀ b, ok' b → ok b ∨ (w.heap.size ≤ b ∧ b < w'.heap.size)) : Step φ φ ok ok' h h w w' := by
  have hblk : ∀ b, b < w.heap.size → w'.heap[b]? = w.heap[b]? := fun b hb => hf.block b hb id
  have he : Ext φ φ ok ok' w w' := ⟨fun _ _ h => h, hs, fun b hb => hblk b (hR.okLt b hb), hf.shape⟩
  refine ⟨⟨fun b hb => ?_, hR.fresh, fun k A b s h1 h2 => ?_, hR.none_, hR.inj, hR.size⟩, he, ⟨hf.os, hf.tape, hf.output, hf.size, fun b hb _ => hblk b hb, hf.shape⟩, fun _ h => .inl h, fun b hb => (hg b hb).elim .inl fun h => .inr h.1⟩
  · rcases hg b hb with h | h
    · exact Nat.lt_of_lt_of_le (hR.okLt b h) hf.size
    · exact h.2
  · obtain ⟨ho, C, h3, h4, h5⟩ := hR.lies k A b s h1 h2
    have hlt := (Array.getElem?_eq_some_iff.1 h3).1
    refine ⟨fun hb => ?_, C, by rw [hblk b hlt]; exact h3, h4, fun i j e x h6 h7 => let ⟨y, h8, h9, h10⟩ := h5 i j e x h6 h7; ⟨y, h8, h9, h10.ext he⟩⟩
    rcases hg b hb with h | h
    · exact ho h
    · omega

theorem frame_empty {φ : Plc} {w w' : World} (h : Frame (live φ .empty) w w') : Frame (fun _ => False) w w' :=
  ⟨h.os, h.tape, h.output, h.size, fun b hb _ => h.block b hb live_empty, h.shape⟩

/-- A function of content alone: it answers so in every heap. -/
theorem frame0 {P : Program} {f : FuncId} {args : List AV} {r0 r : AV} {h0 : Heap} (hr : Ret P f args .empty r0 h0) (hp : ∀ a ∈ args, Pure a) (hv : View h0 r0 r) (hpr : Pure r) (h : Heap) : Ret P f args h r h := by
  refine ⟨hr.1, fun φ ok w vs hG hR hvs => (hr.2 (fun _ => none) ok w vs hG (rel_empty hR.okLt) ⟨hvs.1, fun i x y h1 h2 => (hvs.2 i x y h1 h2).pure (hp x (List.mem_of_getElem? h1))⟩).mono ?_⟩
  rintro e w' ⟨v, φ', ok', rfl, st, hrv⟩
  have hf := frame_empty st.frame
  have h1 := (view_sound st.rel hv hrv).pure (φ' := φ) hpr
  have hsub : ∀ b, (ok' b ∨ live φ' h0 b) → ok b ∨ (w.heap.size ≤ b ∧ b < w'.heap.size) := fun b hb => by
    rcases hb with hb | hb
    · exact (st.okg b hb).imp id fun h => ⟨h, st.rel.okLt b hb⟩
    · exact (st.own b hb).elim (fun h => absurd h live_empty) fun h => .inr ⟨h, live_lt st.rel hb⟩
  exact ⟨v, φ, _, rfl, step_keep hR hf (fun b hb => .inl hb) (fun _ h => h), h1.okmono hsub⟩

/-- Nothing but plain values. -/
inductive Scal : AV → Prop where
  | v (x : Value) : Scal (.v x)
  | agg {l : List AV} (h : ∀ a ∈ l, Scal a) : Scal (.agg l)
  | tup {l : List AV} (h : ∀ a ∈ l, Scal a) : Scal (.tup l)

theorem RV.scal {φ φ' : Plc} {ok ok' : Nat → Prop} {w w' : World} {a : AV} (hs : Scal a) : ∀ {x : Value}, RV φ ok w a x → RV φ' ok' w' a x := by
  induction hs with
  | v x => intro x h; cases h; exact .v _
  | agg _ ih => intro x h; cases h with | agg hl h => exact .agg hl fun i a y h1 h2 => ih a (List.mem_of_getElem? h1) (h i a y h1 h2)
  | tup _ ih => intro x h; cases h with | tup hl h => exact .tup hl fun i a y h1 h2 => ih a (List.mem_of_getElem? h1) (h i a y h1 h2)

/-- A function of content, called with own arrays: a plain result. -/
theorem frameV {P : Program} {f : FuncId} {args cargs : List AV} {r : AV} {h : Heap} (hr : ∀ h, Ret P f cargs h r h) (hl : args.length = cargs.length) (hv : ∀ (i : Nat) a b, args[i]? = some a → cargs[i]? = some b → View h a b) (hpc : ∀ a ∈ cargs, Pure a) (hs : Scal r) : Ret P f args h r h := by
  refine ⟨(hr h).1, fun φ ok w vs hG hR hvs => ((hr .empty).2 (fun _ => none) (fun b => ok b ∨ live φ h b) w vs (hG.cells (fun _ h => .inl h) fun _ _ => rfl) (rel_empty fun b hb => hb.elim (hR.okLt b) (live_lt hR)) ⟨by rw [← hl]; exact hvs.1, fun i x y h1 h2 => ?_⟩).mono ?_⟩
  · obtain ⟨a, h3⟩ := get_of_len hl h1
    exact (view_sound hR (hv i a x h3 h1) (hvs.2 i a y h3 h2)).pure (hpc x (List.mem_of_getElem? h1))
  · rintro e w' ⟨v, φ', ok', rfl, st, hrv⟩
    exact ⟨v, φ, ok, rfl, step_keep hR (frame_empty st.frame) (fun _ h => h) (fun _ h => .inl h), hrv.scal hs⟩

/-- One abstract value says no more than another. -/
def Sub (a b : AV) : Prop := ∀ φ ok w x, RV φ ok w a x → RV φ ok w b x
theorem Sub.refl (a : AV) : Sub a a := fun _ _ _ _ h => h
theorem Sub.emp (sz : Nat) : Sub .emp (.cs sz []) := fun φ ok w x h => by
  cases h with | emp ad => exact .cs (sz := sz) (es := []) (Nat.le_refl _) (fun e he => (List.not_mem_nil he).elim) (fun h => absurd rfl h) (fun _ _ => undef) (fun i j e x b o h => by simp at h) (fun i j e x h => by simp at h) (fun i j e x h => by simp at h)
theorem Sub.agg {l l' : List AV} (hl : l.length = l'.length) (h : ∀ (i : Nat) a b, l[i]? = some a → l'[i]? = some b → Sub a b) : Sub (.agg l) (.agg l') := fun φ ok w x hx => by
  cases hx with | agg hl' hh =>
  refine .agg (by omega) fun i a y h1 h2 => ?_
  obtain ⟨a', h3⟩ := get_of_len hl h1
  exact h i a' a h3 h1 φ ok w y (hh i a' y h3 h2)

theorem ret_sub {P : Program} {f : FuncId} {args args' : List AV} {r : AV} {h h' : Heap} (hr : Ret P f args' h r h') (hl : args.length = args'.length) (hs : ∀ (i : Nat) a b, args[i]? = some a → args'[i]? = some b → Sub a b) : Ret P f args h r h' := by
  refine ⟨hr.1, fun φ ok w vs hG hR hvs => hr.2 φ ok w vs hG hR ⟨by rw [← hl]; exact hvs.1, fun i x y h1 h2 => ?_⟩⟩
  obtain ⟨a, h3⟩ := get_of_len hl h1
  exact hs i a x h3 h1 φ ok w y (hvs.2 i a y h3 h2)

end Go.Proofs.Dv
