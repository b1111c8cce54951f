/- Regions that draw their order: a prefix that leaves the heap as it is, then a tail in order. -/
import Derived.Test.YtmbbedleimajcaaDoorDvM
namespace Go.Proofs.Dv
open Go Go.RowKit
set_option linter.unusedSimpArgs false
set_option linter.unusedVariables false

theorem opv_congr {P : Program} {ρ ρ' : Operand → AV} {h : Heap} {op : Op} (he : ∀ x ∈ op.operands, ρ x = ρ' x) : opv P ρ h op = opv P ρ' h op := by
  cases op with
  | move x => have := he x (by simp [Op.operands]); simp [opv, this]
  | assign x => have := he x (by simp [Op.operands]); simp [opv, this]
  | pick c a b => have h1 := he c (by simp [Op.operands]); have h2 := he a (by simp [Op.operands]); have h3 := he b (by simp [Op.operands]); simp only [opv, h1, h2, h3]
  | alloc t => rfl
  | box t x => have := he x (by simp [Op.operands]); simp only [opv, this]
  | load t x => have := he x (by simp [Op.operands]); simp only [opv, this]
  | store t a v => have h1 := he a (by simp [Op.operands]); have h2 := he v (by simp [Op.operands]); simp only [opv, h1, h2]
  | nilCheck x => have := he x (by simp [Op.operands]); simp only [opv, this]
  | binOp o t x y u => have h1 := he x (by simp [Op.operands]); have h2 := he y (by simp [Op.operands]); simp only [opv, h1, h2]
  | unOp o t x => have := he x (by simp [Op.operands]); simp only [opv, this]
  | convert s d x => have := he x (by simp [Op.operands]); simp only [opv, this]
  | makeFunc f first caps =>
    cases f with
    | func f =>
      simp only [opv]
      by_cases h0 : first.size = 0
      · simp only [h0, if_true]
        have : caps.toList.map ρ = caps.toList.map ρ' := List.map_congr_left fun x hx => he x (by simp [Op.operands]; right; simpa using hx)
        rw [this]
      · simp only [h0, if_false]
    | _ => rfl
  | makeSlice t l c => have h1 := he l (by simp [Op.operands]); have h2 := he c (by simp [Op.operands]); simp only [opv, h1, h2]
  | slice t x lo hi mx =>
    cases mx with
    | some _ => rfl
    | none =>
      have h1 := he x (by simp [Op.operands])
      have h2 : lo.map ρ = lo.map ρ' := by cases lo with | none => rfl | some l => simp [he l (by simp [Op.operands])]
      have h3 : hi.map ρ = hi.map ρ' := by cases hi with | none => rfl | some l => simp [he l (by simp [Op.operands])]
      simp only [opv, h1, h2, h3]
  | fieldAddr t x f => have := he x (by simp [Op.operands]); simp only [opv, this]
  | indexAddr t x i => have h1 := he x (by simp [Op.operands]); have h2 := he i (by simp [Op.operands]); simp only [opv, h1, h2]
  | index t x i => have h1 := he x (by simp [Op.operands]); have h2 := he i (by simp [Op.operands]); simp only [opv, h1, h2]
  | extract x i => have := he x (by simp [Op.operands]); simp only [opv, this]
  | build t ps =>
    have : (ps.toList.map fun p => (p.1, ρ p.2)) = ps.toList.map fun p => (p.1, ρ' p.2) := List.map_congr_left fun p hp => by
      rw [he p.2 (by simp only [Op.operands, List.mem_toArray]; exact List.mem_map.2 ⟨p, hp, rfl⟩)]
    simp only [opv, this]
  | buildSlice t n ps =>
    have : (ps.toList.map fun p => (p.1, ρ p.2)) = ps.toList.map fun p => (p.1, ρ' p.2) := List.map_congr_left fun p hp => by
      rw [he p.2 (by simp only [Op.operands, List.mem_toArray]; exact List.mem_map.2 ⟨p, hp, rfl⟩)]
    simp only [opv, this]
  | call c =>
    obtain ⟨callee, args, ats⟩ := c
    cases callee with
    | builtin b =>
      have : args.toList.map ρ = args.toList.map ρ' := List.map_congr_left fun x hx => he x (by simp [Op.operands, Call.operands]; simpa using hx)
      simp only [opv, this]
    | _ => rfl
  | _ => rfl

/-- What an operation yields, calls among them. -/
def dyield (P : Program) (op : Op) (ev : Operand → AV) (h : Heap) (r : AV) (h' : Heap) : Prop :=
  match op with
  | .call { callee := .value f, args, .. } => match ev f with
    | .clo g caps => Ret P g (args.toList.map ev ++ caps) h r h'
    | _ => False
  | op => opv P ev h op = some (r, h')

theorem dop_iff {P : Program} {o : Oper} {s : St} {K : St → Prop} : dop P o s K ↔ ∃ r h', dyield P o.op s.ev s.h r h' ∧ K ((⟨s.t, h'⟩ : St).put o.dst r) := by
  obtain ⟨dst, op, ty, pos, aft, gd⟩ := o
  have other : (∀ f args ats, op ≠ .call { callee := .value f, args := args, argTypes := ats }) → (dres (opv P s.ev s.h op) (fun r h' => K ((⟨s.t, h'⟩ : St).put dst r)) ↔ ∃ r h', opv P s.ev s.h op = some (r, h') ∧ K ((⟨s.t, h'⟩ : St).put dst r)) := fun _ => by
    cases he : opv P s.ev s.h op with
    | none => simp
    | some q =>
      obtain ⟨r, h'⟩ := q
      simp only [dres_some, Option.some.injEq, Prod.mk.injEq]
      constructor
      · intro h; exact ⟨r, h', ⟨rfl, rfl⟩, h⟩
      · rintro ⟨r2, h2, ⟨rfl, rfl⟩, hk⟩; exact hk
  cases op with
  | call c =>
    obtain ⟨callee, args, ats⟩ := c
    cases callee with
    | value f =>
      simp only [dop, dyield, dcall, dfun]
      split
      · rename_i hc; simp only [hc]
      · rename_i x hne
        constructor
        · intro h; exact h.elim
        · rintro ⟨_, _, h, _⟩
          split at h
          · rename_i hc; exact absurd hc (hne _ _)
          · exact h.elim
    | _ => exact other (by simp)
  | _ => exact other (by simp)

theorem dyield_congr {P : Program} {op : Op} {ρ ρ' : Operand → AV} {h h' : Heap} {r : AV} (he : ∀ x ∈ op.operands, ρ x = ρ' x) : dyield P op ρ h r h' ↔ dyield P op ρ' h r h' := by
  unfold dyield
  split
  · rename_i f args ats
    have h1 := he f (by simp [Op.operands, Call.operands])
    have h2 : args.toList.map ρ = args.toList.map ρ' := List.map_congr_left fun x hx => he x (by simp [Op.operands, Call.operands]; right; simpa using hx)
    rw [h1, h2]
  · rw [opv_congr he]

/-- The prefix, in its text's order: no operation turns the heap. -/
def dquiet (P : Program) (ops : Array Oper) : List Oper → (St → Prop) → St → Prop
  | [], K, s => K s
  | o :: rest, K, s => dwant (wantA o ops s) (dop P o s fun s' => s'.h = s.h ∧ dquiet P ops rest K s') (dquiet P ops rest K (s.put o.dst (.v undef)))

/-- An operation's value at a state. -/
def Good (P : Program) (ops : Array Oper) (o : Oper) (s : St) (v : AV) : Prop :=
  ∃ b, wantA o ops s = some b ∧ (b = true → dyield P o.op s.ev s.h v s.h) ∧ (b = false → v = .v undef)

theorem put_h (s : St) (d : Option Tmp) (r : AV) : (s.put d r).h = s.h := by cases d <;> rfl

theorem quiet_vals {P : Program} {ops : Array Oper} : ∀ {l : List Oper} {K : St → Prop} {s : St}, dquiet P ops l K s →
    ∃ (st : Nat → St) (vs : Nat → AV), st 0 = s ∧ (∀ i o, l[i]? = some o → Good P ops o (st i) (vs i) ∧ st (i + 1) = (st i).put o.dst (vs i)) ∧ K (st l.length)
  | [], K, s, h => ⟨fun _ => s, fun _ => .dead, rfl, fun i o h => by simp at h, h⟩
  | o :: rest, K, s, h => by
    simp only [dquiet] at h
    unfold dwant at h
    have cons : ∀ v, Good P ops o s v → dquiet P ops rest K (s.put o.dst v) → ∃ (st : Nat → St) (vs : Nat → AV), st 0 = s ∧ (∀ i o', (o :: rest)[i]? = some o' → Good P ops o' (st i) (vs i) ∧ st (i + 1) = (st i).put o'.dst (vs i)) ∧ K (st (o :: rest).length) := fun v hg hd => by
      obtain ⟨st, vs, h1, h2, h3⟩ := quiet_vals hd
      refine ⟨fun i => match i with | 0 => s | i + 1 => st i, fun i => match i with | 0 => v | i + 1 => vs i, rfl, fun i o' hi => ?_, h3⟩
      cases i with
      | zero => simp at hi; subst hi; exact ⟨hg, h1⟩
      | succ i => exact h2 i o' (by simpa using hi)
    split at h
    · rename_i hw
      obtain ⟨r, h', hy, hh, hk⟩ := dop_iff.1 h
      rw [put_h] at hh
      simp only at hh
      subst hh
      exact cons r ⟨true, hw, fun _ => hy, fun h => by cases h⟩ hk
    · rename_i hw
      exact cons _ ⟨false, hw, (fun h => by cases h), fun _ => rfl⟩ h
    · exact h.elim

def after1 (o : Oper) (j : Nat) : Bool := o.after.any fun e => Region.binds .any e && e.on == j

/-- For each operation: the bits of those that must come before it. -/
def masks : List Oper → List Nat → List Nat
  | [], acc => acc
  | o :: r, acc => masks r (acc ++ [o.after.toList.foldl (fun s e => if Region.binds .any e then s ||| 2 ^ e.on ||| acc.getD e.on 0 else s) 0])

/-- It must come before, through others. -/
inductive Anc (ops : Array Oper) : Nat → Nat → Prop where
  | one {i j : Nat} {o : Oper} (h : ops[i]? = some o) (ha : after1 o j = true) : Anc ops i j
  | more {i m j : Nat} {o : Oper} (h : ops[i]? = some o) (ha : after1 o m = true) (t : Anc ops m j) : Anc ops i j

theorem fold_mask {acc : List Nat} {j : Nat} : ∀ (l : List Edge) (s : Nat), (l.foldl (fun s e => if Region.binds .any e then s ||| 2 ^ e.on ||| acc.getD e.on 0 else s) s).testBit j = true →
    s.testBit j = true ∨ ∃ e ∈ l, Region.binds .any e = true ∧ (e.on = j ∨ (acc.getD e.on 0).testBit j = true)
  | [], s, h => .inl h
  | e :: l, s, h => by
    simp only [List.foldl_cons] at h
    rcases fold_mask l _ h with h1 | ⟨e', he', h2⟩
    · split at h1
      · rename_i hb
        rw [Nat.testBit_or, Nat.testBit_or, Bool.or_eq_true, Bool.or_eq_true] at h1
        rcases h1 with (h1 | h1) | h1
        · exact .inl h1
        · refine .inr ⟨e, by simp, hb, .inl ?_⟩
          rw [Nat.testBit_two_pow] at h1
          simpa using h1
        · exact .inr ⟨e, by simp, hb, .inr h1⟩
      · exact .inl h1
    · exact .inr ⟨e', by simp [he'], h2⟩

theorem masks_spec {ops : Array Oper} : ∀ (l : List Oper) (acc : List Nat), (∀ j, l[j]? = ops[acc.length + j]?) → (∀ i j : Nat, (acc.getD i 0).testBit j = true → Anc ops i j) → ∀ i j : Nat, ((masks l acc).getD i 0).testBit j = true → Anc ops i j
  | [], acc, _, h, i, j, hb => h i j hb
  | o :: r, acc, hl, h, i, j, hb => by
    refine masks_spec r _ (fun j => ?_) (fun i j hb => ?_) i j hb
    · have := hl (j + 1)
      simp only [List.getElem?_cons_succ] at this
      rw [this]; simp; congr 1; omega
    · by_cases hi : i < acc.length
      · refine h i j ?_
        simpa [List.getD, List.getElem?_append_left hi] using hb
      · by_cases he : i = acc.length
        · subst he
          have ho : ops[acc.length]? = some o := by have := hl 0; simpa using this.symm
          simp only [List.getD, List.getElem?_concat_length, Option.getD_some] at hb
          rcases fold_mask _ _ hb with h1 | ⟨e, hem, hbd, h2⟩
          · simp at h1
          · have ha : after1 o e.on = true := by
              simp only [after1, Array.any_eq_true']
              exact ⟨e, by simpa using hem, by simp [hbd]⟩
            rcases h2 with h2 | h2
            · subst h2; exact .one ho ha
            · exact .more ho ha (h _ _ (by simpa [List.getD] using h2))
        · have : (acc ++ [o.after.toList.foldl (fun s e => if Region.binds .any e then s ||| 2 ^ e.on ||| acc.getD e.on 0 else s) 0])[i]? = none := List.getElem?_eq_none (by simp; omega)
          rw [List.getD, this] at hb; simp at hb

def Closed (ops : Array Oper) (listed : Array Bool) : Prop := ∀ (i : Nat) o, listed.getD i false = true → ops[i]? = some o → ∀ j, after1 o j = true → listed.getD j false = true

theorem Anc.listed {ops : Array Oper} {listed : Array Bool} (hc : Closed ops listed) {i j : Nat} (h : Anc ops i j) : (∀ o, ops[i]? = some o → ∀ j, after1 o j = true → listed.getD j false = true) → listed.getD j false = true := by
  induction h with
  | one h ha => intro hd; exact hd _ h _ ha
  | more h ha t ih => intro hd; exact ih fun o ho j hj => hc _ o (hd _ h _ ha) ho j hj

def wfDraw (ops : Array Oper) (n : Nat) : Bool :=
  decide (n ≤ ops.size) && (Region.noSelect ops) &&
  (List.range ops.size).all fun i => match ops[i]? with
   | none => false
   | some o => (o.after.all fun e => !Region.binds .any e || decide (e.on < i)) &&
     if i < n then (List.range n).all fun j => match (ops[j]?).bind (·.dst) with
         | none => true
         | some d => (j == i || o.dst != some d) && (!(o.looksAt ops).contains d || (decide (j < i) && after1 o j))
     else (List.range i).all fun j => ((masks ops.toList []).getD i 0).testBit j

structure WfDraw (ops : Array Oper) (n : Nat) : Prop where
  le : n ≤ ops.size
  back : ∀ (i : Nat) o, ops[i]? = some o → ∀ e ∈ o.after, Region.binds .any e = true → e.on < i
  dist : ∀ (i j : Nat) o oj d, ops[i]? = some o → ops[j]? = some oj → i < n → j < n → oj.dst = some d → o.dst = some d → j = i
  looks : ∀ (i j : Nat) o oj d, ops[i]? = some o → ops[j]? = some oj → i < n → j < n → oj.dst = some d → d ∈ o.looksAt ops → j < i ∧ after1 o j = true
  tail : ∀ (i j : Nat), i < ops.size → n ≤ i → j < i → Anc ops i j

theorem wfDraw_spec {ops : Array Oper} {n : Nat} (h : wfDraw ops n = true) : WfDraw ops n := by
  simp only [wfDraw, Bool.and_eq_true, decide_eq_true_eq, List.all_eq_true, List.mem_range] at h
  obtain ⟨⟨h1, _⟩, h2⟩ := h
  have at_ : ∀ (i : Nat) o, ops[i]? = some o → i < ops.size := fun i o hi => (Array.getElem?_eq_some_iff.1 hi).1
  refine ⟨h1, fun i o hi e he hb => ?_, fun i j o oj d hi hj hin hjn hd hod => ?_, fun i j o oj d hi hj hin hjn hd hl => ?_, fun i j hi0 hin hji => ?_⟩
  · have := h2 i (at_ i o hi)
    simp only [hi, Bool.and_eq_true] at this
    have h3 := this.1
    rw [Array.all_eq_true'] at h3
    have := h3 e he
    simpa [hb] using this
  · have := h2 i (at_ i o hi)
    simp only [hi, Bool.and_eq_true, hin, if_true, List.all_eq_true, List.mem_range] at this
    have := this.2 j hjn
    simp only [hj, Option.bind_some, hd, Bool.and_eq_true, Bool.or_eq_true, beq_iff_eq, bne_iff_ne] at this
    rcases this.1 with h | h
    · exact h
    · exact absurd hod h
  · have := h2 i (at_ i o hi)
    simp only [hi, Bool.and_eq_true, hin, if_true, List.all_eq_true, List.mem_range] at this
    have := this.2 j hjn
    simp only [hj, Option.bind_some, hd, Bool.and_eq_true, Bool.or_eq_true, Bool.not_eq_true', decide_eq_true_eq] at this
    rcases this.2 with h | h
    · rw [List.contains_eq_mem] at h; simp [hl] at h
    · exact h
  · have hi : ops[i]? = some ops[i] := by simp [hi0]
    have := h2 i hi0
    simp only [hi, Bool.and_eq_true, if_neg (Nat.not_lt.2 hin), List.all_eq_true, List.mem_range] at this
    exact masks_spec ops.toList [] (by simp) (fun i j hb => by simp [List.getD] at hb) i j (this.2 j hji)

theorem ready_spec {ops : Array Oper} {listed : Array Bool} {i : Nat} (h : i ∈ Region.ready .any ops listed) : listed.getD i true = false ∧ ∃ o, ops[i]? = some o ∧ ∀ j, after1 o j = true → listed.getD j false = true := by
  simp only [Region.ready, List.mem_filter, List.mem_range, Bool.and_eq_true, Bool.not_eq_true'] at h
  obtain ⟨h0, h1, h2⟩ := h
  refine ⟨h1, ?_⟩
  cases hi : ops[i]? with
  | none => simp [hi] at h2
  | some o =>
    refine ⟨o, rfl, fun j hj => ?_⟩
    simp only [hi, Option.map_some, Option.getD_some] at h2
    rw [Array.all_eq_true'] at h2
    simp only [after1, Array.any_eq_true'] at hj
    obtain ⟨e, he, hb⟩ := hj
    simp only [Bool.and_eq_true, beq_iff_eq] at hb
    have := h2 e he
    simp only [hb.1, Bool.not_true, Bool.false_or, hb.2] at this
    exact this

theorem ready_nil {ops : Array Oper} {listed : Array Bool} (hw : ∀ (i : Nat) o, ops[i]? = some o → ∀ e ∈ o.after, Region.binds .any e = true → e.on < i) (hs : listed.size = ops.size) (h : Region.ready .any ops listed = []) :
    ∀ i, i < ops.size → listed.getD i false = true := by
  intro i
  induction i using Nat.strongRecOn with
  | _ i ih =>
    intro hi
    by_cases hl : listed.getD i false = true
    · exact hl
    · exfalso
      have hm : i ∈ Region.ready .any ops listed := by
        simp only [Region.ready, List.mem_filter, List.mem_range, Bool.and_eq_true, Bool.not_eq_true']
        have hil : i < listed.size := by omega
        refine ⟨hi, ?_, ?_⟩
        · simp only [Array.getD, hil, dif_pos] at hl ⊢
          simpa using hl
        · have ho : ops[i]? = some ops[i] := by simp [hi]
          simp only [ho, Option.map_some, Option.getD_some]
          rw [Array.all_eq_true']
          intro e he
          by_cases hb : Region.binds .any e = true
          · have := hw i _ ho e he hb
            simp [hb, ih e.on this (by omega)]
          · simp [hb]
      rw [h] at hm; cases hm

/-- A state in the midst of the prefix: the listed ones have their values. -/
structure Agree (ops : Array Oper) (n : Nat) (vs : Nat → AV) (s : St) (S : Nat → Prop) (s' : St) : Prop where
  heap : s'.h = s.h
  len : s'.t.length = s.t.length
  done : ∀ j o d, j < n → S j → ops[j]? = some o → o.dst = some d → d < s.t.length → s'.t[d]? = some (vs j)
  rest : ∀ d, (∀ j o, j < n → S j → ops[j]? = some o → o.dst ≠ some d) → s'.t[d]? = s.t[d]?

section
variable {P : Program} {ops : Array Oper} {n : Nat} {vs : Nat → AV} {s s' s'' : St} {S S' : Nat → Prop}

theorem Agree.eq (h : Agree ops n vs s S s') (h' : Agree ops n vs s S s'') : s' = s'' := by
  obtain ⟨t, hh⟩ := s'
  obtain ⟨t', hh'⟩ := s''
  have h1 := h.heap; have h2 := h'.heap
  simp only at h1 h2
  have : t = t' := by
    apply List.ext_getElem?
    intro d
    by_cases hd : ∃ j o, j < n ∧ S j ∧ ops[j]? = some o ∧ o.dst = some d
    · obtain ⟨j, o, hj, hS, ho, hdd⟩ := hd
      by_cases hlt : d < s.t.length
      · exact (h.done j o d hj hS ho hdd hlt).trans (h'.done j o d hj hS ho hdd hlt).symm
      · have l1 := h.len; have l2 := h'.len
        simp only at l1 l2
        rw [List.getElem?_eq_none (by omega), List.getElem?_eq_none (by omega)]
    · have hn : ∀ j o, j < n → S j → ops[j]? = some o → o.dst ≠ some d := fun j o h1 h2 h3 h4 => hd ⟨j, o, h1, h2, h3, h4⟩
      exact (h.rest d hn).trans (h'.rest d hn).symm
  rw [this, h1, h2]

theorem Agree.iff (h : Agree ops n vs s S s') (hS : ∀ j, S j ↔ S' j) : Agree ops n vs s S' s' := by
  have : S = S' := funext fun j => propext (hS j)
  subst this; exact h

theorem Agree.put (hw : WfDraw ops n) (h : Agree ops n vs s S s') {i : Nat} {o : Oper} (hi : ops[i]? = some o) (hin : i < n) (hS : ¬ S i) : Agree ops n vs s (fun j => S j ∨ j = i) (s'.put o.dst (vs i)) := by
  refine ⟨by rw [put_h]; exact h.heap, ?_, fun j oj d hj hjS hoj hd hlt => ?_, fun d hd => ?_⟩
  · cases ho : o.dst <;> simp [St.put, h.len]
  · rcases hjS with hjS | rfl
    · have hne : o.dst ≠ some d := fun e => by
        have := hw.dist i j o oj d hi hoj hin hj hd e
        subst this; exact hS hjS
      have := h.done j oj d hj hjS hoj hd hlt
      cases ho : o.dst with
      | none => simpa [St.put] using this
      | some d' =>
        have : d' ≠ d := fun e => hne (by rw [ho, e])
        simp only [St.put]
        rw [List.getElem?_set_ne this]
        assumption
    · rw [hi] at hoj; cases hoj
      simp only [hd, St.put]
      rw [List.getElem?_set_self (by rw [h.len]; exact hlt)]
  · have hr := h.rest d fun j oj h1 h2 h3 => hd j oj h1 (.inl h2) h3
    have hne := hd i o hin (.inr rfl) hi
    cases ho : o.dst with
    | none => simpa [St.put] using hr
    | some d' =>
      have : d' ≠ d := fun e => hne (by rw [ho, e])
      simp only [St.put]
      rw [List.getElem?_set_ne this]
      exact hr

theorem Agree.start : Agree ops n vs s (fun _ => False) s := ⟨rfl, rfl, fun _ _ _ _ h => h.elim, fun _ _ => rfl⟩

theorem Agree.lex {st : Nat → St} (hw : WfDraw ops n) (h0 : st 0 = s) (hst : ∀ i o, i < n → ops[i]? = some o → st (i + 1) = (st i).put o.dst (vs i)) : ∀ i, i ≤ n → Agree ops n vs s (fun j => j < i) (st i)
  | 0, _ => by rw [h0]; exact Agree.start.iff fun j => ⟨fun h => h.elim, fun h => absurd h (Nat.not_lt_zero j)⟩
  | i + 1, hi => by
    have hlt : i < ops.size := Nat.lt_of_lt_of_le hi hw.le
    have ho : ops[i]? = some ops[i] := by simp [hlt]
    rw [hst i _ hi ho]
    exact ((Agree.lex hw h0 hst i (by omega)).put hw ho hi (by omega)).iff fun j => by constructor <;> (intro h; omega)

theorem Agree.ev (hw : WfDraw ops n) (h : Agree ops n vs s S s') (h' : Agree ops n vs s S' s'') {i : Nat} {o : Oper} (hi : ops[i]? = some o) (hin : i < n)
    (hS : ∀ j, j < i → after1 o j = true → S j) (hS' : ∀ j, j < i → after1 o j = true → S' j) {d : Tmp} (hd : d ∈ o.looksAt ops) (hSi : ∀ j oj, j < n → S j → ops[j]? = some oj → oj.dst = some d → j < i ∧ after1 o j = true) (hSi' : ∀ j oj, j < n → S' j → ops[j]? = some oj → oj.dst = some d → j < i ∧ after1 o j = true) : s'.t[d]? = s''.t[d]? := by
  by_cases hx : ∃ j oj, j < n ∧ ops[j]? = some oj ∧ oj.dst = some d
  · obtain ⟨j, oj, hj, hoj, hdj⟩ := hx
    obtain ⟨h1, h2⟩ := hw.looks i j o oj d hi hoj hin hj hdj hd
    by_cases hlt : d < s.t.length
    · exact (h.done j oj d hj (hS j h1 h2) hoj hdj hlt).trans (h'.done j oj d hj (hS' j h1 h2) hoj hdj hlt).symm
    · rw [List.getElem?_eq_none (by rw [h.len]; exact Nat.le_of_not_lt hlt), List.getElem?_eq_none (by rw [h'.len]; exact Nat.le_of_not_lt hlt)]
  · have hn : ∀ (Q : Nat → Prop) j oj, j < n → Q j → ops[j]? = some oj → oj.dst ≠ some d := fun Q j oj h1 _ h3 h4 => hx ⟨j, oj, h1, h3, h4⟩
    exact (h.rest d (hn S)).trans (h'.rest d (hn S')).symm

theorem evs_of_tmps {o : Oper} (h : ∀ d ∈ o.looksAt ops, s'.t[d]? = s''.t[d]?) : ∀ x ∈ o.op.operands, s'.ev x = s''.ev x := fun x hx => by
  cases x with
  | tmp d =>
    have : d ∈ o.looksAt ops := by
      simp only [Oper.looksAt, List.mem_append, List.mem_filterMap, Array.mem_toList_iff]
      exact .inl ⟨.tmp d, hx, rfl⟩
    simp only [St.ev, List.getD, h d this]
  | _ => rfl

theorem wantA_of_tmps {o : Oper} (h : ∀ d ∈ o.looksAt ops, s'.t[d]? = s''.t[d]?) : wantA o ops s' = wantA o ops s'' := by
  unfold wantA
  cases hg : o.guard with
  | none => rfl
  | some g =>
    obtain ⟨j, want⟩ := g
    simp only
    cases hd : (ops[j]?).bind (·.dst) with
    | none => rfl
    | some d =>
      simp only
      rw [h d (by simp [Oper.looksAt, hg, hd])]

theorem Good.same {o : Oper} {v : AV} (hg : Good P ops o s' v) (hh : s'.h = s''.h) (h : ∀ d ∈ o.looksAt ops, s'.t[d]? = s''.t[d]?) : Good P ops o s'' v := by
  obtain ⟨b, h1, h2, h3⟩ := hg
  refine ⟨b, by rw [← wantA_of_tmps h]; exact h1, fun hb => ?_, h3⟩
  rw [← hh]
  exact (dyield_congr (evs_of_tmps h)).1 (h2 hb)
end

theorem wpOp_of_good {P : Program} {ops : Array Oper} {Q : Exit → Act → World → Prop} {w0 : World} {own0 ok0 : Nat → Prop} {φ : Plc} {ok : Nat → Prop} {s : St} {a : Act} {w : World} {i : Nat} {o : Oper} {v : AV} {K : Act → World → Prop}
    (hs : Sim P w0 own0 ok0 φ ok s a w) (hi : ops[i]? = some o) (hg : Good P ops o s v)
    (hk : ∀ φ' ok' a' w', To P w0 own0 ok0 φ ok w (s.put o.dst v) a' w' φ' ok' → K a' w') : wpOp P ops Q i K a w := by
  obtain ⟨b, h1, h2, h3⟩ := hg
  unfold wpOp
  simp only [hi]
  cases b with
  | true =>
    rw [if_pos (wantA_spec hs h1)]
    refine .inl (dop_sound (K := fun s' => s' = s.put o.dst v) hs (dop_iff.2 ⟨v, s.h, h2 rfl, ?_⟩) fun s' φ' ok' a' w' ht he => ?_)
    · rfl
    · subst he; exact hk φ' ok' a' w' ht
  | false =>
    rw [if_neg (by rw [wantA_spec hs h1]; simp)]
    have hv := h3 rfl
    subst hv
    exact hk φ ok _ w (hs.put (Step.refl hs.rel) (.v _) o.dst)

theorem wpOp_of_dops {P : Program} {ops : Array Oper} {Q : Exit → Act → World → Prop} {w0 : World} {own0 ok0 : Nat → Prop} {φ : Plc} {ok : Nat → Prop} {s : St} {a : Act} {w : World} {i : Nat} {o : Oper} {rest : List Oper} {K : Act → World → Prop} {J : St → Prop}
    (hs : Sim P w0 own0 ok0 φ ok s a w) (hi : ops[i]? = some o) (hd : dops P ops (o :: rest) J s)
    (hk : ∀ s' φ' ok' a' w', To P w0 own0 ok0 φ ok w s' a' w' φ' ok' → dops P ops rest J s' → K a' w') : wpOp P ops Q i K a w := by
  unfold wpOp
  simp only [hi]
  simp only [dops] at hd
  unfold dwant at hd
  split at hd
  · rename_i hw
    rw [if_pos (wantA_spec hs hw)]
    exact .inl (dop_sound hs hd fun s' φ' ok' a' w' ht hK => hk s' φ' ok' a' w' ht hK)
  · rename_i hw
    rw [if_neg (by rw [wantA_spec hs hw]; simp)]
    exact hk _ φ ok _ w (hs.put (Step.refl hs.rel) (.v _) o.dst) hd
  · exact hd.elim

/-- Where a run of the region stands. -/
def Mid (P : Program) (ops : Array Oper) (n : Nat) (vs : Nat → AV) (K : St → Prop) (s : St) (listed : Array Bool) (s' : St) : Prop :=
  ((∀ i, n ≤ i → listed.getD i true = false ∨ ops.size ≤ i) ∧ Agree ops n vs s (fun j => listed.getD j false = true) s' ∧ (∀ s1, Agree ops n vs s (fun j => j < n) s1 → dops P ops (ops.toList.drop n) K s1)) ∨
  (∃ m, n ≤ m ∧ m ≤ ops.size ∧ (∀ i, listed.getD i false = true ↔ i < m) ∧ dops P ops (ops.toList.drop m) K s')

theorem getD_set {l : Array Bool} {i j : Nat} {d : Bool} (hi : i < l.size) : (l.setIfInBounds i true).getD j d = if j = i then true else l.getD j d := by
  by_cases hj : j < l.size
  · simp only [Array.getD, Array.size_setIfInBounds, hj, dif_pos]
    by_cases h : j = i
    · subst h; simp
    · have h' : ¬ i = j := fun e => h e.symm
      rw [if_neg h]
      show (l.setIfInBounds i true)[j]'(by simpa using hj) = l[j]
      rw [Array.getElem_setIfInBounds (by simpa using hj), if_neg h']
  · have : j ≠ i := by omega
    simp [Array.getD, hj, this]

theorem getD_lt {l : Array Bool} {j : Nat} (h : l.getD j false = true) : j < l.size := by
  by_cases hj : j < l.size
  · exact hj
  · simp [Array.getD, hj] at h

theorem mid_run {P : Program} {ops : Array Oper} {n : Nat} {vs : Nat → AV} {st : Nat → St} {K : St → Prop} {s : St} {w0 : World} {own0 ok0 : Nat → Prop} (hw : WfDraw ops n) (h0 : st 0 = s)
    (hst : ∀ i o, i < n → ops[i]? = some o → Good P ops o (st i) (vs i) ∧ st (i + 1) = (st i).put o.dst (vs i)) {φ0 : Plc} {ok1 : Nat → Prop} {w1 : World} :
    ∀ (fuel : Nat) (listed : Array Bool) (φ : Plc) (ok : Nat → Prop) (s' : St) (a : Act) (w : World), listed.size = ops.size → Closed ops listed → (listed.toList.count true + fuel = ops.size) → To P w0 own0 ok0 φ0 ok1 w1 s' a w φ ok → Mid P ops n vs K s listed s' →
      wpAny P .any ops (fun e a' w' => e = .normal ∧ Lift P w0 own0 ok0 φ0 ok1 w1 K a' w') fuel listed a w := by
  have fin : ∀ (listed : Array Bool) (s' : St), listed.size = ops.size → (∀ i, i < ops.size → listed.getD i false = true) → Mid P ops n vs K s listed s' → K s' := fun listed s' hsz hall hm => by
    have hlex := Agree.lex hw h0 fun i o hi ho => (hst i o hi ho).2
    rcases hm with ⟨h1, h2, h3⟩ | ⟨m, hnm, hm, h1, h2⟩
    · have hn : n = ops.size := by
        have := hw.le
        by_cases hlt : n < ops.size
        · rcases h1 n (Nat.le_refl n) with h | h
          · have := hall n hlt
            have hlt' : n < listed.size := by omega
            simp [Array.getD, hlt'] at h this
            rw [h] at this; cases this
          · omega
        · omega
      have ha : Agree ops n vs s (fun j => j < n) s' := h2.iff fun j => ⟨fun h => by have := getD_lt h; omega, fun h => hall j (by omega)⟩
      have := h3 s' ha
      rw [hn, List.drop_eq_nil_of_le (by simp)] at this
      exact this
    · have : m = ops.size := by
        by_cases hlt : m < ops.size
        · have := (h1 m).1 (hall m hlt); omega
        · omega
      subst this
      rw [List.drop_eq_nil_of_le (by simp)] at h2
      exact h2
  intro fuel
  induction fuel with
  | zero =>
    intro listed φ ok s' a w hsz hcl hc ht hm
    have hall : ∀ i, i < ops.size → listed.getD i false = true := fun i hi => by
      have hcl : listed.toList.count true = listed.toList.length := by rw [Array.length_toList]; omega
      rw [List.count_eq_length] at hcl
      have hil : i < listed.size := by omega
      have := hcl listed[i] (by simp)
      simp only [Array.getD, hil, dif_pos]
      exact this.symm
    refine ⟨?_, rfl, s', φ, ok, ht, fin listed s' hsz hall hm⟩
    simp only [Region.ready, List.filter_eq_nil_iff, List.mem_range]
    intro i hi h
    have := hall i hi
    have hil : i < listed.size := by omega
    simp [Array.getD, hil] at this h
    rw [this] at h; simp at h
  | succ fuel ih =>
    intro listed φ ok s' a w hsz hcl hc ht hm
    refine ⟨fun hr => ⟨rfl, s', φ, ok, ht, fin listed s' hsz (ready_nil hw.back hsz hr) hm⟩, fun i hi => ?_⟩
    obtain ⟨hl, o, ho, haf⟩ := ready_spec hi
    have hilt : i < ops.size := (Array.getElem?_eq_some_iff.1 ho).1
    have hil : i < listed.size := by omega
    have hlf : listed.getD i false = false := by simp [Array.getD, hil] at hl ⊢; exact hl
    have hc' : (listed.setIfInBounds i true).toList.count true + fuel = ops.size := by
      rw [Array.toList_setIfInBounds, List.count_set (by simpa using hil)]
      have : listed.toList[i]'(by simpa using hil) = false := by simp [Array.getD, hil] at hl; simpa using hl
      rw [this]; simp only [beq_self_eq_true, if_true]; have : (false == true) = false := rfl; rw [this]; simp only [Bool.false_eq_true, if_false]; omega
    have hcl' : Closed ops (listed.setIfInBounds i true) := fun i2 o2 h1 h2 j hj => by
      rw [getD_set hil] at h1 ⊢
      by_cases h : j = i
      · simp [h]
      · simp only [h, if_false]
        by_cases h' : i2 = i
        · subst h'; rw [ho] at h2; cases h2; exact haf j hj
        · simp only [h', if_false] at h1; exact hcl i2 o2 h1 h2 j hj
    have haf' : ∀ j, Anc ops i j → listed.getD j false = true := fun j h => h.listed hcl fun o2 ho2 j hj => by rw [ho] at ho2; cases ho2; exact haf j hj
    have nxt : ∀ s2 φ' ok' a' w', To P w0 own0 ok0 φ ok w s2 a' w' φ' ok' → Mid P ops n vs K s (listed.setIfInBounds i true) s2 → wpAny P .any ops (fun e a' w' => e = .normal ∧ Lift P w0 own0 ok0 φ0 ok1 w1 K a' w') fuel (listed.setIfInBounds i true) a' w' :=
      fun s2 φ' ok' a' w' ht' hm' => ih _ φ' ok' s2 a' w' (by simp [hsz]) hcl' hc' (ht.trans ht') hm'
    have tailOf : ∀ s2 m, i = m → n ≤ m → m < ops.size → dops P ops (ops.toList.drop m) K s2 → (∀ j, listed.getD j false = true ↔ j < m) → ∀ (hs2 : Sim P w0 own0 ok0 φ ok s2 a w), wpOp P ops (fun e a' w' => e = .normal ∧ Lift P w0 own0 ok0 φ0 ok1 w1 K a' w') i (wpAny P .any ops (fun e a' w' => e = .normal ∧ Lift P w0 own0 ok0 φ0 ok1 w1 K a' w') fuel (listed.setIfInBounds i true)) a w := by
      intro s2 m him hnm hms hd hiff hs2
      subst him
      have hdr : ops.toList.drop i = o :: ops.toList.drop (i + 1) := by
        rw [List.drop_eq_getElem_cons (by simpa using hilt)]
        congr 1
        have := Array.getElem?_eq_some_iff.1 ho
        simpa using this.2
      rw [hdr] at hd
      refine wpOp_of_dops hs2 ho hd fun s3 φ' ok' a' w' ht' hd' => nxt s3 φ' ok' a' w' ht' (.inr ⟨i + 1, by omega, by omega, fun j => ?_, hd'⟩)
      rw [getD_set hil]
      by_cases h : j = i
      · subst h; simp
      · simp only [h, if_false, hiff j]; omega
    rcases hm with ⟨h1, h2, h3⟩ | ⟨m, hnm, hms, h1, h2⟩
    · by_cases hin : i < n
      · -- in the prefix
        have hlexi := Agree.lex hw h0 (fun i o hi ho => (hst i o hi ho).2) i (by omega)
        have htm : ∀ d ∈ o.looksAt ops, (st i).t[d]? = s'.t[d]? := fun d hd =>
          hlexi.ev hw h2 ho hin (fun j h _ => h) (fun j _ h => haf j h) hd (fun j oj hj _ hoj hdj => hw.looks i j o oj d ho hoj hin hj hdj hd) (fun j oj hj _ hoj hdj => hw.looks i j o oj d ho hoj hin hj hdj hd)
        have hg := (hst i o hin ho).1.same (by rw [hlexi.heap, h2.heap]) htm
        refine wpOp_of_good ht.sim ho hg fun φ' ok' a' w' ht' => nxt _ φ' ok' a' w' ht' (.inl ⟨fun j hj => ?_, ?_, h3⟩)
        · rw [getD_set hil, if_neg (by omega)]; exact h1 j hj
        · refine (h2.put hw ho hin (by rw [hlf]; simp)).iff fun j => ?_
          rw [getD_set hil]
          by_cases h : j = i
          · simp [h]
          · simp [h]
      · -- the tail begins
        have hjs : ∀ j, j < i → listed.getD j false = true := fun j hj => haf' j (hw.tail i j hilt (by omega) hj)
        have hin' : i = n := by
          by_cases h : n < i
          · have := hjs n h
            rcases h1 n (Nat.le_refl n) with h' | h'
            · have hnl : n < listed.size := by omega
              simp [Array.getD, hnl] at h' this
              rw [h'] at this; cases this
            · omega
          · omega
        have hiff : ∀ j, listed.getD j false = true ↔ j < n := fun j => by
          constructor
          · intro hj
            by_cases hlt : j < n
            · exact hlt
            · have hjl := getD_lt hj
              rcases h1 j (by omega) with h | h
              · simp [Array.getD, hjl] at h hj; rw [h] at hj; cases hj
              · omega
          · intro hj; exact hjs j (by omega)
        have hd := h3 s' (h2.iff hiff)
        exact tailOf s' n hin' (Nat.le_refl n) (by omega) hd hiff ht.sim
    · have him : i = m := by
        have hni : ¬ i < m := fun h => by rw [(h1 i).2 h] at hlf; cases hlf
        by_cases h : m < i
        · have := haf' m (hw.tail i m hilt (by omega) h)
          have := (h1 m).1 this; omega
        · omega
      exact tailOf s' m him hnm (by omega) h2 h1 ht.sim

/-- A region that draws its order, its prefix quiet. -/
theorem draws_quiet {P : Program} {id : Nat} {ops : Array Oper} {K : St → Prop} {s : St} (n : Nat) (hm : P.follows .mixedOrders = true) (hw : wfDraw ops n = true)
    (h : dquiet P ops (ops.toList.take n) (dops P ops (ops.toList.drop n) K) s) : Draws P id ops K s := by
  intro w0 own0 ok0 φ ok a w hs
  have hW := wfDraw_spec hw
  obtain ⟨st, vs, h0, hst, hK⟩ := quiet_vals h
  have hlen : (ops.toList.take n).length = n := by rw [List.length_take, Array.length_toList]; have := hW.le; omega
  rw [hlen] at hK
  have hst' : ∀ i o, i < n → ops[i]? = some o → Good P ops o (st i) (vs i) ∧ st (i + 1) = (st i).put o.dst (vs i) := fun i o hi ho => hst i o (by rw [List.getElem?_take_of_lt hi]; simpa using ho)
  have ht : To P w0 own0 ok0 φ ok w s a { w with drawn := w.drawn + 1 } φ ok := hs.put (Step.drew hs.rel) (r := .dead) (v := undef) (.dead _) none
  refine wp_region_any hm (mid_run (n := n) (K := K) hW h0 hst' ops.size (Array.replicate ops.size false) φ ok s a _ (by simp) (fun i o h => by have := getD_lt h; simp at this; simp [Array.getD, this] at h) (by simp [List.count_replicate]) ht (.inl ⟨fun i hi => ?_, ?_, fun s1 h1 => ?_⟩))
  · by_cases hlt : i < ops.size
    · left; simp [Array.getD, hlt]
    · right; omega
  · refine Agree.start.iff fun j => ⟨fun h => h.elim, fun h => ?_⟩
    have := getD_lt h
    simp at this
    simp [Array.getD, this] at h
  · have := Agree.lex hW h0 (fun i o hi ho => (hst' i o hi ho).2) n (Nat.le_refl n)
    rw [h1.eq this]; exact hK

end Go.Proofs.Dv
