/- What a law's arguments hold: content, by type. -/
import Derived.Test.YtmbbedleimajcaaDoorDvP
import Derived.ChangeOld
import Derived.Carry
import GoSem.ClaimChange
namespace Go.Proofs.Dv
open Go Go.RowKit
set_option linter.unusedSimpArgs false
set_option linter.unusedVariables false

def runB (P : Program) : List Field → Nat → Option Nat
  | [], o => some o
  | f :: r, o => if f.offset = o then runB P r (o + P.cellsOf f.type) else none

/-- Ints, bools, strings, slices and structs of these. -/
def contB (P : Program) : Nat → TypeId → Bool
  | 0, _ => false
  | n + 1, t => match P.underlying t with
    | some .bool => P.cellsOf t == 1
    | some (.int _) => P.cellsOf t == 1
    | some .string => P.cellsOf t == 1
    | some (.slice e) => P.cellsOf t == 1 && decide (0 < P.cellsOf e) && contB P n e
    | some (.struct fs) => runB P fs.toList 0 == some (P.cellsOf t) && fs.toList.all (fun f => contB P n f.type)
    | _ => false

inductive Has (P : Program) : TypeId → List AV → Prop where
  | bool {t : TypeId} (h : P.underlying t = some .bool) (b : Bool) : Has P t [.v (.bool b)]
  | int {t : TypeId} {k : IntKind} (h : P.underlying t = some (.int k)) (n : Int) (h0 : k.min ≤ n) (h1 : n ≤ k.max) : Has P t [.v (.int k n)]
  | string {t : TypeId} (h : P.underlying t = some .string) (s : ByteArray) (hs : s.size ≤ maxLen) : Has P t [.v (.string s)]
  | slice {t e : TypeId} (h : P.underlying t = some (.slice e)) (es : List (List AV)) (he : ∀ x ∈ es, Has P e x) (hl : es.length ≤ maxLen) : Has P t [.cs (P.cellsOf e) es]
  | struct {t : TypeId} {fs : Array Field} (h : P.underlying t = some (.struct fs)) (parts : List (List AV)) (hl : parts.length = fs.toList.length) (hp : ∀ (i : Nat) f p, fs.toList[i]? = some f → parts[i]? = some p → Has P f.type p) : Has P t parts.flatten

def Rows (φ : Plc) (ok : Nat → Prop) (w : World) (xs : List AV) (cs : List Value) : Prop :=
  xs.length = cs.length ∧ ∀ (i : Nat) x y, xs[i]? = some x → cs[i]? = some y → RV φ ok w x y ∧ one y = true

theorem Rows.nil {φ : Plc} {ok : Nat → Prop} {w : World} : Rows φ ok w [] [] := ⟨rfl, fun i x y h => by simp at h⟩
theorem Rows.one {φ : Plc} {ok : Nat → Prop} {w : World} {x : AV} {y : Value} (h : RV φ ok w x y) (h1 : Dv.one y = true) : Rows φ ok w [x] [y] := ⟨rfl, fun i a b ha hb => by
  cases i with
  | zero => simp at ha hb; subst ha hb; exact ⟨h, h1⟩
  | succ i => simp at ha⟩
theorem Rows.append {φ : Plc} {ok : Nat → Prop} {w : World} {xs xs' : List AV} {cs cs' : List Value} (h : Rows φ ok w xs cs) (h' : Rows φ ok w xs' cs') : Rows φ ok w (xs ++ xs') (cs ++ cs') := by
  refine ⟨by simp [h.1, h'.1], fun i x y hx hy => ?_⟩
  by_cases hi : i < xs.length
  · rw [List.getElem?_append_left hi] at hx
    rw [List.getElem?_append_left (by rw [← h.1]; exact hi)] at hy
    exact h.2 i x y hx hy
  · rw [List.getElem?_append_right (by omega)] at hx
    rw [List.getElem?_append_right (by rw [← h.1]; omega), ← h.1] at hy
    exact h'.2 _ x y hx hy

theorem range_mapM {β : Type} {f : Nat → Option β} {n : Nat} {r : List β} (h : (List.range n).mapM f = some r) : r.length = n ∧ ∀ i, i < n → ∃ b, r[i]? = some b ∧ f i = some b := by
  obtain ⟨h1, h2⟩ := mapM_at h
  exact ⟨by simpa using h1, fun i hi => h2 i i (by simp [hi])⟩

theorem cells_spec {w : World} {a : Addr} {n : Nat} {l : List Value} (h : w.cells? 0 a n = some l) : l.length = n ∧ ∀ i, i < n → ∃ v, l[i]? = some v ∧ w.cell? (a.add i) = some v := by
  unfold World.cells? at h
  split at h
  · exact range_mapM h
  · cases h

theorem spot_none {w : World} {a : Addr} {v : Value} (h : w.cell? a = some v) : a = ⟨a.block, a.off, none⟩ ∧ a.block < w.heap.size := by
  obtain ⟨b, o, s⟩ := a
  unfold World.cell? at h
  split at h
  · rename_i c _ _ hb
    split at h
    · cases h
    · rename_i hs
      cases s with
      | none => exact ⟨rfl, (Array.getElem?_eq_some_iff.1 hb).1⟩
      | some _ => simp at hs
  · cases h

theorem add_plain (b o n : Nat) : (⟨b, o, none⟩ : Addr).add n = ⟨b, o + n, none⟩ := by
  unfold Addr.add
  split
  · subst_vars; rfl
  · rfl

theorem trod_content {H : Type} {enc : TypeId × Value → H} {P : Program} {w : World} {spare : Nat → Bool} {held : Bool} {φ : Plc} {ok : Nat → Prop} (hok : ∀ b, b < w.heap.size → ok b) :
    ∀ (fuel n : Nat) (t : TypeId) (cs : List Value) (x : DataW H × List MemPlace), contB P n t = true → DataW.trod enc P w 0 spare held fuel t cs = some x → ∃ xs, Rows φ ok w xs cs ∧ Has P t xs ∧ cs.length = P.cellsOf t := by
  intro fuel
  induction fuel with
  | zero => intro n t cs x _ h; simp [DataW.trod] at h
  | succ fuel ih =>
    intro n t cs x hc h
    cases n with
    | zero => simp [contB] at hc
    | succ n =>
    simp only [contB] at hc
    simp only [DataW.trod] at h
    split at h
    · rename_i b hu
      simp only [hu, beq_iff_eq] at hc
      exact ⟨_, .one (.v _) rfl, .bool hu b, by simp [hc]⟩
    · rename_i k k' m hu
      split at h
      · rename_i hk
        obtain ⟨rfl, hw⟩ := hk
        simp only [hu, beq_iff_eq] at hc
        simp only [Lit.wf, Bool.and_eq_true, decide_eq_true_eq] at hw
        exact ⟨_, .one (.v _) rfl, .int hu m hw.1 hw.2, by simp [hc]⟩
      · cases h
    · rename_i hu; simp [hu] at hc
    · rename_i s hu
      split at h
      · rename_i hs
        simp only [hu, beq_iff_eq] at hc
        exact ⟨_, .one (.v _) rfl, .string hu s hs, by simp [hc]⟩
      · cases h
    · rename_i hu; simp [hu] at hc
    · rename_i hu; simp [hu] at hc
    · rename_i e hu
      simp only [hu, Bool.and_eq_true, beq_iff_eq, decide_eq_true_eq] at hc
      refine ⟨[.cs (P.cellsOf e) []], .one ?_ rfl, .slice hu [] (fun x hx => by cases hx) (by simp), by simp [hc.1.1]⟩
      exact .cs (sz := P.cellsOf e) (es := []) (Nat.le_refl _) (fun e he => (List.not_mem_nil he).elim) (fun h => absurd rfl h) (fun _ _ => undef) (fun i j e x b o h => by simp at h) (fun i j e x h => by simp at h) (fun i j e x h => by simp at h)
    · rename_i e a len cap hu
      simp only [hu, Bool.and_eq_true, beq_iff_eq, decide_eq_true_eq] at hc
      obtain ⟨⟨hc1, hc2⟩, hc3⟩ := hc
      split at h
      · rename_i hcond
        obtain ⟨_, hlc, hcm⟩ := hcond
        obtain ⟨els, hels, _⟩ := Option.bind_eq_some_iff.1 h
        obtain ⟨hl, hel⟩ := range_mapM hels
        have key : ∀ i, ∃ row : List AV, ∃ vs : List Value, i < len → w.cells? 0 (a.add (i * P.cellsOf e)) (P.cellsOf e) = some vs ∧ Rows φ ok w row vs ∧ Has P e row := fun i => by
          by_cases hi : i < len
          · obtain ⟨b, _, hb⟩ := hel i hi
            obtain ⟨vs, hvs, htr⟩ := Option.bind_eq_some_iff.1 hb
            obtain ⟨xs, h1, h2, _⟩ := ih n e vs b hc3 htr
            exact ⟨xs, vs, fun _ => ⟨hvs, h1, h2⟩⟩
          · exact ⟨[], [], fun h => absurd h hi⟩
        obtain ⟨row, hrow⟩ : ∃ row : Nat → List AV, ∀ i, ∃ vs : List Value, i < len → w.cells? 0 (a.add (i * P.cellsOf e)) (P.cellsOf e) = some vs ∧ Rows φ ok w (row i) vs ∧ Has P e (row i) := ⟨fun i => Classical.choose (key i), fun i => Classical.choose_spec (key i)⟩
        have hplain : 0 < len → a = ⟨a.block, a.off, none⟩ ∧ a.block < w.heap.size := fun h0 => by
          obtain ⟨vs, hvs⟩ := hrow 0
          obtain ⟨h1, _, _⟩ := hvs h0
          obtain ⟨_, h3⟩ := cells_spec h1
          obtain ⟨v, _, h4⟩ := h3 0 hc2
          have : (a.add (0 * P.cellsOf e)).add 0 = a := by simp [Addr.add]
          rw [this] at h4
          exact spot_none h4
        have hget : ∀ (i j : Nat) e' x', ((List.range len).map row)[i]? = some e' → e'[j]? = some x' → i < len ∧ ∃ v, w.cell? ⟨a.block, a.off + i * P.cellsOf e + j, none⟩ = some v ∧ one v = true ∧ RV φ ok w x' v := fun i j e' x' h1 h2 => by
          have hi : i < len := by have := (List.getElem?_eq_some_iff.1 h1).1; simpa using this
          simp only [List.getElem?_map, List.getElem?_range hi, Option.map_some, Option.some.injEq] at h1
          subst h1
          obtain ⟨vs, hvs⟩ := hrow i
          obtain ⟨g1, g2, _⟩ := hvs hi
          obtain ⟨g3, g4⟩ := cells_spec g1
          have hj : j < P.cellsOf e := by rw [← g3, ← g2.1]; exact (List.getElem?_eq_some_iff.1 h2).1
          obtain ⟨v, g5, g6⟩ := g4 j hj
          obtain ⟨g7, g8⟩ := g2.2 j x' v h2 g5
          obtain ⟨hp, _⟩ := hplain (by omega)
          rw [hp, add_plain, add_plain] at g6
          exact ⟨hi, v, g6, g8, g7⟩
        have hval : ∀ i j, ∃ v, ∀ e' x', ((List.range len).map row)[i]? = some e' → e'[j]? = some x' → w.cell? ⟨a.block, a.off + i * P.cellsOf e + j, none⟩ = some v ∧ one v = true ∧ RV φ ok w x' v := fun i j => by
          by_cases hex : ∃ e' x', ((List.range len).map row)[i]? = some e' ∧ e'[j]? = some x'
          · obtain ⟨e', x', h1, h2⟩ := hex
            obtain ⟨_, v, h3⟩ := hget i j e' x' h1 h2
            refine ⟨v, fun e2 x2 h4 h5 => ?_⟩
            rw [h1] at h4; cases h4
            rw [h2] at h5; cases h5
            exact h3
          · exact ⟨undef, fun e' x' h1 h2 => absurd ⟨e', x', h1, h2⟩ hex⟩
        obtain ⟨y, hy⟩ : ∃ y : Nat → Nat → Value, ∀ i j e' x', ((List.range len).map row)[i]? = some e' → e'[j]? = some x' → w.cell? ⟨a.block, a.off + i * P.cellsOf e + j, none⟩ = some (y i j) ∧ one (y i j) = true ∧ RV φ ok w x' (y i j) := ⟨fun i j => Classical.choose (hval i j), fun i j => Classical.choose_spec (hval i j)⟩
        have hlen : ((List.range len).map row).length = len := by simp
        have hrv : RV φ ok w (.cs (P.cellsOf e) ((List.range len).map row)) (.slice (some a) ((List.range len).map row).length cap) := by
          refine .cs (by omega) (fun e' he' => ?_) (fun hne => ?_) y (fun i j e' x' b o h1 h2 h3 => ?_) (fun i j e' x' h1 h2 => (hy i j e' x' h1 h2).2.1) (fun i j e' x' h1 h2 => (hy i j e' x' h1 h2).2.2)
          · obtain ⟨i, hi, rfl⟩ := List.mem_map.1 he'
            obtain ⟨vs, hvs⟩ := hrow i
            obtain ⟨g1, g2, _⟩ := hvs (by simpa using hi)
            rw [g2.1, (cells_spec g1).1]
          · have h0 : 0 < len := by
              rcases Nat.eq_zero_or_pos len with h | h
              · subst h; simp at hne
              · exact h
            obtain ⟨hp, hb⟩ := hplain h0
            exact ⟨a.block, a.off, by rw [← hp], hok _ hb⟩
          · have h4 := (hy i j e' x' h1 h2).1
            cases h3
            exact h4
        rw [hlen] at hrv
        refine ⟨_, .one hrv rfl, .slice hu _ (fun x hx => ?_) (by rw [hlen]; omega), by simp [hc1]⟩
        obtain ⟨i, hi, rfl⟩ := List.mem_map.1 hx
        obtain ⟨vs, hvs⟩ := hrow i
        exact (hvs (by simpa using hi)).2.2
      · cases h
    · rename_i cs _ _ fs hu
      simp only [hu, Bool.and_eq_true, beq_iff_eq, List.all_eq_true] at hc
      obtain ⟨hc1, hc2⟩ := hc
      split at h
      · rename_i hsz
        obtain ⟨ys, hys, _⟩ := Option.map_eq_some_iff.1 h
        have walk : ∀ (l : List Field) (ys : List (DataW H × List MemPlace)) (o : Nat), (∀ f ∈ l, contB P n f.type = true) → runB P l o = some (P.cellsOf t) → o ≤ cs.length →
            (l.mapM fun f => DataW.trod enc P w 0 spare held fuel f.type ((cs.drop f.offset).take (P.cellsOf f.type))) = some ys →
            ∃ parts : List (List AV), parts.length = l.length ∧ Rows φ ok w parts.flatten (cs.drop o) ∧ ∀ (i : Nat) f p, l[i]? = some f → parts[i]? = some p → Has P f.type p := by
          intro l
          induction l with
          | nil =>
            intro ys o _ hr ho _
            simp only [runB, Option.some.injEq] at hr
            refine ⟨[], rfl, ?_, fun i f p h => by simp at h⟩
            have : cs.drop o = [] := List.drop_eq_nil_of_le (by omega)
            rw [this]; exact .nil
          | cons f l ihl =>
            intro ys o hcl hr ho hm
            simp only [List.mapM_cons, Option.bind_eq_bind, Option.bind_eq_some_iff, Option.pure_def, Option.some.injEq] at hm
            obtain ⟨b, hb, r', hr', rfl⟩ := hm
            simp only [runB] at hr
            split at hr
            · rename_i hof
              subst hof
              obtain ⟨xs, h1, h2, h3⟩ := ih n f.type _ b (hcl f (by simp)) hb
              have hle : f.offset + P.cellsOf f.type ≤ cs.length := by
                rw [List.length_take, List.length_drop] at h3; omega
              obtain ⟨parts, g1, g2, g3⟩ := ihl r' (f.offset + P.cellsOf f.type) (fun f' hf' => hcl f' (by simp [hf'])) hr hle hr'
              refine ⟨xs :: parts, by simp [g1], ?_, fun i f' p hi hp => ?_⟩
              · have : cs.drop f.offset = (cs.drop f.offset).take (P.cellsOf f.type) ++ cs.drop (f.offset + P.cellsOf f.type) := by
                  rw [← List.drop_drop, List.take_append_drop]
                rw [this, List.flatten_cons]
                exact h1.append g2
              · cases i with
                | zero => simp at hi hp; subst hi hp; exact h2
                | succ i => exact g3 i f' p (by simpa using hi) (by simpa using hp)
            · cases hr
        obtain ⟨parts, g1, g2, g3⟩ := walk fs.toList ys 0 hc2 hc1 (Nat.zero_le _) hys
        exact ⟨parts.flatten, by simpa using g2, .struct hu parts g1 g3, hsz⟩
      · cases h
    all_goals (rename_i hu; first | (simp [hu] at hc; done) | (exfalso; revert hc; simp_all))


theorem laid_var {P : Program} {W : World} {n : String} {d : DataW Unit} : ∀ {laid : List (String × DataW Unit)} {ps : List MemPlace}, DataW.LaidVars P W laid ps → (n, d) ∈ laid →
    ∃ g t cs fuel p, P.globalNamed n = some g ∧ (P.globals[g]?).map (·.type) = some t ∧ W.var? P n = some cs ∧ DataW.trod (fun _ => ()) P W 0 (fun _ => true) false fuel t cs.toList = some (d, p)
  | [], _, _, hm => by cases hm
  | (n', d') :: r, ps, ⟨g, t, cs, fuel, p, q, h1, h2, h3, h4, h5, _⟩, hm => by
    rcases List.mem_cons.1 hm with h | h
    · cases h; exact ⟨g, t, cs, fuel, p, h1, h2, h3, h4⟩
    · exact laid_var h5 h

theorem tab_of_laid {P : Program} {W : World} {name : String} {k : IntKind} {zs : List Int} {laid : List (String × DataW Unit)} {g : Nat} {t e : TypeId} {n : Nat}
    (hm : (name, Lib.tabData k zs) ∈ laid)
    (hg : P.globalNamed name = some g) (hty : (P.globals[g]?).map (·.type) = some t) (ht : P.underlying t = some (.array n e)) (he : P.underlying e = some (.int k)) (hce : P.cellsOf e = 1) (hct : P.cellsOf t = n)
    (h : laidMet P laid W) : Lib.TabIs P W name k zs := by
  obtain ⟨ps, hl, _⟩ := h
  obtain ⟨g', t', cs, fuel, p, hg', ht', hvar, hd⟩ := laid_var hl hm
  obtain rfl := Option.some.inj (hg.symm.trans hg')
  obtain rfl := Option.some.inj (hty.symm.trans ht')
  unfold Lib.TabIs
  rw [hvar, ← Lib.cells_of_tab ht he hce hct hd]

theorem var_lt {P : Program} {W : World} {n : String} {g : Nat} {k : IntKind} {zs : List Int} (hg : P.globalNamed n = some g) (h : Lib.TabIs P W n k zs) : g < W.heap.size := by
  unfold Lib.TabIs World.var? at h
  simp only [hg, Option.bind_some] at h
  split at h
  · rename_i hb; exact (Array.getElem?_eq_some_iff.1 hb).1
  · cases h

/-- A struct that came in. -/
theorem arg_struct {H : Type} {enc : TypeId × Value → H} {P : Program} {W : World} {spare : Nat → Bool} {held : Bool} {t : TypeId} {v : Value} {d : DataW H} {p : List MemPlace} {fs : Array Field} {base : Nat} (hu : P.underlying t = some (.struct fs)) (hc : contB P 20 t = true)
    (hv : Value.okWide P W .any base t v) (h : DataW.Trod enc P W 0 spare held t v d p) : ∃ xs, RV (fun _ => none) (fun b => b < W.heap.size) W (.agg xs) v ∧ Has P t xs := by
  unfold Value.okWide at hv
  rw [hu] at hv
  obtain ⟨cs, rfl, _, _⟩ := hv
  obtain ⟨fuel, hf⟩ := h
  obtain ⟨xs, h1, h2, _⟩ := trod_content (φ := fun _ => none) (ok := fun b => b < W.heap.size) (fun _ h => h) fuel 20 t _ _ hc hf
  refine ⟨xs, .agg (by simpa [Value.cells] using h1.1) fun i a y ha hy => (h1.2 i a y ha (by simpa [Value.cells] using hy)).1, h2⟩

theorem has_struct {P : Program} {t : TypeId} {fs : Array Field} {xs : List AV} (hu : P.underlying t = some (.struct fs)) (h : Has P t xs) : ∃ parts : List (List AV), xs = parts.flatten ∧ parts.length = fs.toList.length ∧ ∀ (i : Nat) f p, fs.toList[i]? = some f → parts[i]? = some p → Has P f.type p := by
  cases h with
  | struct h' parts hl hp =>
    rw [hu] at h'; cases h'
    exact ⟨parts, rfl, hl, hp⟩
  | bool h' => rw [hu] at h'; cases h'
  | int h' => rw [hu] at h'; cases h'
  | string h' => rw [hu] at h'; cases h'
  | slice h' => rw [hu] at h'; cases h'
theorem has_int {P : Program} {t : TypeId} {k : IntKind} {xs : List AV} (hu : P.underlying t = some (.int k)) (h : Has P t xs) : ∃ n, xs = [.v (.int k n)] ∧ k.min ≤ n ∧ n ≤ k.max := by
  cases h with
  | struct h' => rw [hu] at h'; cases h'
  | bool h' => rw [hu] at h'; cases h'
  | int h' n h0 h1 => rw [hu] at h'; cases h'; exact ⟨n, rfl, h0, h1⟩
  | string h' => rw [hu] at h'; cases h'
  | slice h' => rw [hu] at h'; cases h'
theorem has_i64 {P : Program} {t : TypeId} {xs : List AV} (hu : P.underlying t = some (.int .i64)) (h : Has P t xs) : ∃ n, xs = [I n] ∧ In64 n := by
  obtain ⟨n, h1, h2, h3⟩ := has_int hu h
  exact ⟨n, h1, h2, h3⟩
theorem has_bool {P : Program} {t : TypeId} {xs : List AV} (hu : P.underlying t = some .bool) (h : Has P t xs) : ∃ b, xs = [B b] := by
  cases h with
  | struct h' => rw [hu] at h'; cases h'
  | bool h' b => exact ⟨b, rfl⟩
  | int h' n h0 h1 => rw [hu] at h'; cases h'
  | string h' => rw [hu] at h'; cases h'
  | slice h' => rw [hu] at h'; cases h'
theorem has_slice {P : Program} {t e : TypeId} {xs : List AV} (hu : P.underlying t = some (.slice e)) (h : Has P t xs) : ∃ es, xs = [.cs (P.cellsOf e) es] ∧ (∀ x ∈ es, Has P e x) ∧ es.length ≤ maxLen := by
  cases h with
  | struct h' => rw [hu] at h'; cases h'
  | bool h' b => rw [hu] at h'; cases h'
  | int h' n h0 h1 => rw [hu] at h'; cases h'
  | string h' => rw [hu] at h'; cases h'
  | slice h' es he hl => rw [hu] at h'; cases h'; exact ⟨es, rfl, he, hl⟩

/-- What a judgement gives for a law's call. -/
theorem law_calls {P : Program} {f : FuncId} {args : List AV} {b : Bool} {W : World} {vs : Array Value} (hr : Ret P f args .empty (B b) .empty) (hG : Gl P (fun b => b < W.heap.size) W) (hv : RVs (fun _ => none) (fun b => b < W.heap.size) W args vs) :
    Calls P f vs W fun e W' => e = .returned (.bool b) ∧ Below W.heap.size W W' := by
  refine (hr.2 (fun _ => none) (fun b => b < W.heap.size) W vs hG (rel_empty fun _ h => h) hv).mono ?_
  rintro e W' ⟨v, φ', ok', rfl, st, hrv⟩
  have hf := frame_empty st.frame
  cases hrv
  exact ⟨rfl, hf.os, hf.tape, hf.output, hf.size, fun k hk => hf.block k hk id⟩

end Go.Proofs.Dv
