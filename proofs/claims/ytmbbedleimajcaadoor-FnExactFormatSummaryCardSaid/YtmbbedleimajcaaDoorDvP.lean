/- The walk as a stack of pieces: rules. -/
import Derived.Test.YtmbbedleimajcaaDoorDvV
namespace Go.Proofs.Dv
open Go Go.RowKit
set_option linter.unusedSimpArgs false
set_option linter.unusedVariables false

theorem Sub.dead (a : AV) : Sub a .dead := fun _ _ _ x _ => .dead x
theorem Sub.trans {a b c : AV} (h : Sub a b) (k : Sub b c) : Sub a c := fun φ ok w x hx => k φ ok w x (h φ ok w x hx)

/-- Slot by slot. -/
inductive Subs : List AV → List AV → Prop where
  | nil : Subs [] []
  | cons {a b : AV} {l l' : List AV} (h : Sub a b) (t : Subs l l') : Subs (a :: l) (b :: l')
theorem Subs.refl : ∀ l, Subs l l
  | [] => .nil
  | a :: l => .cons (Sub.refl a) (Subs.refl l)
@[simp] theorem subs_nil : Subs [] [] ↔ True := ⟨fun _ => trivial, fun _ => .nil⟩
@[simp] theorem subs_cons (a b : AV) (l l' : List AV) : Subs (a :: l) (b :: l') ↔ Sub a b ∧ Subs l l' := ⟨fun h => by cases h; constructor <;> assumption, fun h => .cons h.1 h.2⟩
@[simp] theorem sub_dead (a : AV) : Sub a .dead ↔ True := ⟨fun _ => trivial, fun _ => Sub.dead a⟩
@[simp] theorem sub_refl (a : AV) : Sub a a ↔ True := ⟨fun _ => trivial, fun _ => Sub.refl a⟩
@[simp] theorem sub_emp (n : Nat) : Sub .emp (.cs n []) ↔ True := ⟨fun _ => trivial, fun _ => Sub.emp n⟩
theorem Subs.length {l l' : List AV} (h : Subs l l') : l.length = l'.length := by
  induction h with
  | nil => rfl
  | cons _ _ ih => simp [ih]
theorem Subs.get {l l' : List AV} (h : Subs l l') : ∀ (i : Nat) b, l'[i]? = some b → ∃ a, l[i]? = some a ∧ Sub a b := by
  induction h with
  | nil => intro i b h; simp at h
  | cons hs _ ih =>
    intro i b hb
    cases i with
    | zero => simp at hb; subst hb; exact ⟨_, rfl, hs⟩
    | succ i => exact ih i b (by simpa using hb)

def Weak (s s' : St) : Prop := Subs s.t s'.t ∧ s'.h = s.h
theorem Weak.refl (s : St) : Weak s s := ⟨Subs.refl _, rfl⟩
theorem Weak.mk' {t t' : List AV} {h : Heap} (hs : Subs t t') : Weak ⟨t, h⟩ ⟨t', h⟩ := ⟨hs, rfl⟩

theorem Sim.weak {P : Program} {w0 : World} {own0 ok0 : Nat → Prop} {φ : Plc} {ok : Nat → Prop} {s s' : St} {a : Act} {w : World} (hs : Sim P w0 own0 ok0 φ ok s a w) (hw : Weak s s') : Sim P w0 own0 ok0 φ ok s' a w := by
  obtain ⟨h1, h2⟩ := hw
  obtain ⟨t', h'⟩ := s'
  simp only at h2
  subst h2
  refine ⟨hs.gl, hs.rel, hs.frame, hs.own, hs.okg, hs.tl.trans h1.length, fun i x y hx hy => ?_, hs.df⟩
  obtain ⟨z, hz, hsub⟩ := h1.get i x hx
  exact hsub _ _ _ _ (hs.tm i z y hz hy)

/-- The judgement on code. -/
def dsem (P : Program) (c : Code) (K : Ex → St → Prop) (s : St) : Prop :=
  ∀ w0 own0 ok0 φ ok a w, Sim P w0 own0 ok0 φ ok s a w → c.wp P (LiftE P w0 own0 ok0 φ ok w K) a w
def dsemO (P : Program) (ops : Array Oper) (l : List Oper) (K : St → Prop) (s : St) : Prop :=
  ∀ w0 own0 ok0 φ ok a w Q, Sim P w0 own0 ok0 φ ok s a w → (∀ s' φ' ok' a' w', To P w0 own0 ok0 φ ok w s' a' w' φ' ok' → K s' → Q .normal a' w') → wpList P ops Q l a w

theorem dsem_of_dwp {P : Program} {c : Code} {K : Ex → St → Prop} {s : St} (h : dwp P c K s) : dsem P c K s := fun _ _ _ _ _ _ _ hs => dwp_sound c hs h
theorem dsemO_of_dops {P : Program} {ops : Array Oper} {l : List Oper} {K : St → Prop} {s : St} (h : dops P ops l K s) : dsemO P ops l K s := fun _ _ _ _ _ _ _ _ hs hQ => dops_sound l hs h hQ
theorem dsemO_cons {P : Program} {ops : Array Oper} {o : Oper} {l : List Oper} {K : St → Prop} {s : St} (h : dwant (wantA o ops s) (dop P o s (dsemO P ops l K)) (dsemO P ops l K (s.put o.dst (.v undef)))) : dsemO P ops (o :: l) K s := by
  intro w0 own0 ok0 φ ok a w Q hs hQ
  unfold dwant at h
  split at h
  · rename_i hw
    unfold wpList
    rw [if_pos (wantA_spec hs hw)]
    exact .inl (dop_sound hs h fun s' φ' ok' a' w' ht hK => hK w0 own0 ok0 φ' ok' a' w' Q ht.sim fun s'' φ'' ok'' a'' w'' ht' hK' => hQ s'' φ'' ok'' a'' w'' (ht.trans ht') hK')
  · rename_i hw
    unfold wpList
    rw [if_neg (by rw [wantA_spec hs hw]; simp)]
    have ht := hs.put (Step.refl hs.rel) (r := .v undef) (.v _) o.dst
    exact h w0 own0 ok0 φ ok _ w Q ht.sim fun s'' φ'' ok'' a'' w'' ht' hK' => hQ s'' φ'' ok'' a'' w'' (ht.trans ht') hK'
  · exact h.elim

inductive Fr where
  | code (c : Code)
  | ops (ops : Array Oper) (l : List Oper)
  | qops (ops : Array Oper) (l : List Oper) (n : Nat)
  | tops (ops : Array Oper) (l : List Oper)
  | blk (id : Nat)
  | lp (J : Nat → St → Prop) (m : Nat)
  | jn (J : St → Prop)

/-- What is asked of a state that leaves by e into the rest of the walk. -/
def dx (P : Program) : Ex → List Fr → (Ex → St → Prop) → St → Prop
  | e, [], Q, s => Q e s
  | .normal, .code c :: k, Q, s => dsem P c (fun e s' => dx P e k Q s') s
  | .normal, .ops ops l :: k, Q, s => dsemO P ops l (fun s' => dx P .normal k Q s') s
  | .normal, .qops ops l n :: k, Q, s => dquiet P ops l (dops P ops (ops.toList.drop n) (fun s' => dx P .normal k Q s')) s
  | .normal, .tops ops l :: k, Q, s => dops P ops l (fun s' => dx P .normal k Q s') s
  | .normal, .lp J m :: k, Q, s => ∃ m' s', m' < m ∧ Weak s s' ∧ J m' s'
  | .normal, .jn J :: k, Q, s => ∃ s', Weak s s' ∧ J s'
  | .exit i, .blk id :: k, Q, s => if i = id then dx P .normal k Q s else dx P (.exit i) k Q s
  | e, _ :: k, Q, s => dx P e k Q s

section
variable {P : Program} {k : List Fr} {Q : Ex → St → Prop} {s : St}

@[simp] theorem dx_nil (e : Ex) : dx P e [] Q s = Q e s := by cases e <;> rfl
@[simp] theorem dx_ret (f : Fr) : dx P .ret (f :: k) Q s = dx P .ret k Q s := by cases f <;> rfl
@[simp] theorem dx_exit_code (i : Nat) (c : Code) : dx P (.exit i) (.code c :: k) Q s = dx P (.exit i) k Q s := rfl
@[simp] theorem dx_exit_lp (i : Nat) (J : Nat → St → Prop) (m : Nat) : dx P (.exit i) (.lp J m :: k) Q s = dx P (.exit i) k Q s := rfl
@[simp] theorem dx_exit_jn (i : Nat) (J : St → Prop) : dx P (.exit i) (.jn J :: k) Q s = dx P (.exit i) k Q s := rfl
@[simp] theorem dx_exit_blk (i id : Nat) : dx P (.exit i) (.blk id :: k) Q s = if i = id then dx P .normal k Q s else dx P (.exit i) k Q s := rfl
@[simp] theorem dx_blk (id : Nat) : dx P .normal (.blk id :: k) Q s = dx P .normal k Q s := rfl

theorem go_weak {c : Code} {s' : St} (hw : Weak s s') (h : dx P .normal (.code c :: k) Q s') : dx P .normal (.code c :: k) Q s := fun w0 own0 ok0 φ ok a w hs => h w0 own0 ok0 φ ok a w (hs.weak hw)

theorem go_skip (h : dx P .normal k Q s) : dx P .normal (.code .skip :: k) Q s := dsem_of_dwp (by exact h)
theorem go_ret (h : dx P .ret k Q s) : dx P .normal (.code .ret :: k) Q s := dsem_of_dwp (by exact h)
theorem go_exit {i : Nat} (h : dx P (.exit i) k Q s) : dx P .normal (.code (.exit i) :: k) Q s := dsem_of_dwp (by exact h)

theorem dsem_mono {c : Code} {K K' : Ex → St → Prop} (h : dsem P c K s) (hk : ∀ e s', K e s' → K' e s') : dsem P c K' s := fun w0 own0 ok0 φ ok a w hs =>
  wp_mono (h w0 own0 ok0 φ ok a w hs) fun e a' w' ⟨x, he, s', φ', ok', ht, hK⟩ => ⟨x, he, s', φ', ok', ht, hk _ _ hK⟩

theorem dsem_seq {x y : Code} {K : Ex → St → Prop} (h : dsem P x (fun e s' => match e with | .normal => dsem P y K s' | e => K e s') s) : dsem P (.seq x y) K s := fun w0 own0 ok0 φ ok a w hs => by
  refine wp_seq (wp_mono (h w0 own0 ok0 φ ok a w hs) ?_)
  rintro e a' w' ⟨z, rfl, s', φ', ok', ht, hK⟩
  cases z with
  | normal => exact wp_mono (hK w0 own0 ok0 φ' ok' a' w' ht.sim) fun e a'' w'' hl => hl.up ht
  | exit i => exact ⟨.exit i, rfl, s', φ', ok', ht, hK⟩
  | ret => exact ⟨.ret, rfl, s', φ', ok', ht, hK⟩

theorem go_seq {x y : Code} (h : dx P .normal (.code x :: .code y :: k) Q s) : dx P .normal (.code (.seq x y) :: k) Q s := by
  refine dsem_seq (dsem_mono h fun e s' hK => ?_)
  cases e <;> exact hK

theorem go_block {id : Nat} {x : Code} (h : dx P .normal (.code x :: .blk id :: k) Q s) : dx P .normal (.code (.block id x) :: k) Q s := fun w0 own0 ok0 φ ok a w hs => by
  refine wp_block (wp_mono (h w0 own0 ok0 φ ok a w hs) ?_)
  rintro e a' w' ⟨z, rfl, s', φ', ok', ht, hK⟩
  cases z with
  | normal => exact ⟨.normal, rfl, s', φ', ok', ht, hK⟩
  | ret => exact ⟨.ret, rfl, s', φ', ok', ht, hK⟩
  | exit i =>
    simp only [Ex.real, Exit.inBlock]
    simp only [dx_exit_blk] at hK
    split
    · rename_i hi
      simp only [hi, if_true] at hK
      exact ⟨.normal, rfl, s', φ', ok', ht, hK⟩
    · rename_i hi
      simp only [hi, if_false] at hK
      exact ⟨.exit i, rfl, s', φ', ok', ht, hK⟩

theorem go_cond {c : Operand} {x y : Code} {t : Bool} (hc : s.ev c = .v (.bool t)) (h1 : t = true → dx P .normal (.code x :: k) Q s) (h2 : t = false → dx P .normal (.code y :: k) Q s) : dx P .normal (.code (.cond c x y) :: k) Q s := fun w0 own0 ok0 φ ok a w hs => by
  have hv := hs.ev c
  rw [hc] at hv
  refine wp_cond hv.v_inv ?_
  cases t
  · exact h2 rfl w0 own0 ok0 φ ok a w hs
  · exact h1 rfl w0 own0 ok0 φ ok a w hs

theorem go_condT {c : Operand} {x y : Code} (hc : s.ev c = .v (.bool true)) (h : dx P .normal (.code x :: k) Q s) : dx P .normal (.code (.cond c x y) :: k) Q s := go_cond hc (fun _ => h) (fun h' => by cases h')
theorem go_condF {c : Operand} {x y : Code} (hc : s.ev c = .v (.bool false)) (h : dx P .normal (.code y :: k) Q s) : dx P .normal (.code (.cond c x y) :: k) Q s := go_cond hc (fun h' => by cases h') (fun _ => h)

theorem go_loop {x : Code} (J : Nat → St → Prop) (n : Nat) (s0 : St) (hw : Weak s s0) (h0 : J n s0) (hr : ∀ m s', J m s' → dx P .normal (.code x :: .lp J m :: k) Q s') : dx P .normal (.code (.loop x) :: k) Q s := by
  intro w0 own0 ok0 φ ok a w hs
  refine wp_loop_any (fun n a' w' => ∃ s' φ' ok', To P w0 own0 ok0 φ ok w s' a' w' φ' ok' ∧ J n s') ?_ ⟨s0, φ, ok, .refl (hs.weak hw), h0⟩
  rintro m a' w' ⟨s', φ', ok', ht, hI⟩
  refine wp_mono (hr m s' hI w0 own0 ok0 φ' ok' a' w' ht.sim) ?_
  rintro e a'' w'' ⟨z, rfl, s'', φ'', ok'', ht', hK⟩
  cases z with
  | normal =>
    obtain ⟨q, s3, hq, hwk, hI'⟩ := hK
    exact .inl ⟨rfl, q, hq, s3, φ'', ok'', ht.trans ⟨ht'.sim.weak hwk, ht'.ext⟩, hI'⟩
  | exit i => exact .inr ⟨by simp [Ex.real], .exit i, rfl, s'', φ'', ok'', ht.trans ht', hK⟩
  | ret => exact .inr ⟨by simp [Ex.real], .ret, rfl, s'', φ'', ok'', ht.trans ht', hK⟩

/-- A cut: what stands behind a piece. -/
theorem go_join {x : Code} (J : St → Prop) (h : dx P .normal (.code x :: .jn J :: k) Q s) (hk : ∀ s', J s' → ∀ w0 own0 ok0 φ ok a w, Sim P w0 own0 ok0 φ ok s' a w → dx P .normal k Q s') : dx P .normal (.code x :: k) Q s := by
  intro w0 own0 ok0 φ ok a w hs
  refine wp_mono (h w0 own0 ok0 φ ok a w hs) ?_
  rintro e a' w' ⟨z, rfl, s', φ', ok', ht, hK⟩
  cases z with
  | normal =>
    obtain ⟨s'', hwk, hJ⟩ := hK
    have hs2 := ht.sim.weak hwk
    exact ⟨.normal, rfl, s'', φ', ok', ⟨hs2, ht.ext⟩, hk s'' hJ w0 own0 ok0 φ' ok' a' w' hs2⟩
  | exit i => exact ⟨.exit i, rfl, s', φ', ok', ht, hK⟩
  | ret => exact ⟨.ret, rfl, s', φ', ok', ht, hK⟩

theorem go_cut {x : Code} (J : St → Prop) (h : dx P .normal (.code x :: .jn J :: k) Q s) (hk : ∀ s', J s' → dx P .normal k Q s') : dx P .normal (.code x :: k) Q s := go_join J h fun s' h' _ _ _ _ _ _ _ _ => hk s' h'

theorem go_region {id : Nat} {ops : Array Oper} (h : dx P .normal (.ops ops ops.toList :: k) Q s) : dx P .normal (.code (.region id ops false) :: k) Q s := fun w0 own0 ok0 φ ok a w hs =>
  wp_region_list (h w0 own0 ok0 φ ok a w _ hs fun s' φ' ok' a' w' ht hK => ⟨.normal, rfl, s', φ', ok', ht, hK⟩)

theorem go_draw {id : Nat} {ops : Array Oper} (n : Nat) (hm : P.follows .mixedOrders = true) (hw : wfDraw ops n = true) (h : dx P .normal (.qops ops (ops.toList.take n) n :: k) Q s) : dx P .normal (.code (.region id ops true) :: k) Q s :=
  dsem_of_dwp (draws_quiet n hm hw h)

/-- The operations up to the next call. -/
def runs (P : Program) (ops : Array Oper) : List Oper → St → Option (St × List Oper)
  | [], s => some (s, [])
  | o :: l, s => match wantA o ops s with
    | some true => match o.op with
      | .call { callee := .value f, args, argTypes } => some (s, ⟨o.dst, .call { callee := .value f, args, argTypes }, o.type, o.pos, o.after, o.guard⟩ :: l)
      | op => (opv P s.ev s.h op).bind fun p => runs P ops l ((⟨s.t, p.2⟩ : St).put o.dst p.1)
    | some false => runs P ops l (s.put o.dst (.v undef))
    | none => none

/-- May this operation stand in a quiet prefix? -/
def quietOp : Op → Bool
  | .move _ | .assign _ | .pick .. | .load .. | .nilCheck _ | .binOp .. | .unOp .. | .convert .. | .makeFunc .. | .slice .. | .fieldAddr .. | .indexAddr .. | .index .. | .extract .. | .build .. => true
  | .call { callee := .builtin b, .. } => match b with | .len | .min | .max => true | _ => false
  | _ => false

def runsQ (P : Program) (ops : Array Oper) : List Oper → St → Option (St × List Oper)
  | [], s => some (s, [])
  | o :: l, s => match wantA o ops s with
    | some true => match o.op with
      | .call { callee := .value f, args, argTypes } => some (s, ⟨o.dst, .call { callee := .value f, args, argTypes }, o.type, o.pos, o.after, o.guard⟩ :: l)
      | op => if quietOp op then (opv P s.ev s.h op).bind fun p => runsQ P ops l (s.put o.dst p.1) else none
    | some false => runsQ P ops l (s.put o.dst (.v undef))
    | none => none

theorem opv_quiet {ρ : Operand → AV} {h h' : Heap} {op : Op} {r : AV} (hq : quietOp op = true) (h1 : opv P ρ h op = some (r, h')) : h' = h := by
  have mp : ∀ (x : Option AV), x.map (fun y => (y, h)) = some (r, h') → h' = h := fun x hx => by
    cases x with
    | none => cases hx
    | some y => cases hx; rfl
  cases op with
  | move _ => cases h1; rfl
  | assign _ => cases h1; rfl
  | pick c a b =>
    simp only [opv] at h1
    split at h1
    · cases h1; rfl
    · cases h1
  | load t a => exact mp _ h1
  | nilCheck x =>
    simp only [opv] at h1
    split at h1 <;> cases h1 <;> rfl
  | binOp o t x y u =>
    simp only [opv] at h1
    split at h1 <;> exact mp _ h1
  | unOp o t x =>
    simp only [opv] at h1
    split at h1
    · rename_i v hv
      cases hu : unv o v with
      | none => simp [hu] at h1
      | some z => simp [hu] at h1; exact h1.2.symm
    · cases h1
  | convert s d x => exact mp _ h1
  | makeFunc f first caps =>
    cases f with
    | func f =>
      simp only [opv] at h1
      split at h1
      · cases h1; rfl
      · cases h1
    | _ => cases h1
  | slice t x lo hi mx =>
    cases mx with
    | none => exact mp _ h1
    | some _ => cases h1
  | fieldAddr t x f => exact mp _ h1
  | indexAddr t x i => exact mp _ h1
  | index t x i => exact mp _ h1
  | extract x i => exact mp _ h1
  | build t ps => exact mp _ h1
  | call c =>
    obtain ⟨callee, args, ats⟩ := c
    cases callee with
    | builtin b =>
      simp only [opv, opBuiltin] at h1
      split at h1
      · exact mp _ h1
      · simp [quietOp] at hq
      · exact mp _ h1
      · exact mp _ h1
      · cases h1
    | _ => simp [quietOp] at hq
  | _ => simp [quietOp] at hq

theorem go_opsnil {ops : Array Oper} (h : dx P .normal k Q s) : dx P .normal (.ops ops [] :: k) Q s := dsemO_of_dops (by exact h)
theorem go_topsnil {ops : Array Oper} (h : dx P .normal k Q s) : dx P .normal (.tops ops [] :: k) Q s := h
theorem go_qopsnil {ops : Array Oper} {n : Nat} (h : dx P .normal (.tops ops (ops.toList.drop n) :: k) Q s) : dx P .normal (.qops ops [] n :: k) Q s := h

theorem dop_plain {o : Oper} {K : St → Prop} (hn : ∀ f args ats, o.op ≠ .call { callee := .value f, args := args, argTypes := ats }) : dop P o s K = dres (opv P s.ev s.h o.op) fun r h' => K ((⟨s.t, h'⟩ : St).put o.dst r) := by
  obtain ⟨dst, op, ty, pos, aft, gd⟩ := o
  cases op with
  | call c =>
    obtain ⟨callee, args, ats⟩ := c
    cases callee with
    | value f => exact absurd rfl (hn f args ats)
    | _ => rfl
  | _ => rfl

theorem runs_spec {ops : Array Oper} : ∀ {l : List Oper} {s s' : St} {l' : List Oper}, runs P ops l s = some (s', l') → ∀ (F : List Oper → St → Prop), (∀ o l s, dwant (wantA o ops s) (dop P o s (F l)) (F l (s.put o.dst (.v undef))) → F (o :: l) s) → F l' s' → F l s
  | [], s, s', l', h, F, hF, hk => by cases h; exact hk
  | o :: l, s, s', l', h, F, hF, hk => by
    simp only [runs] at h
    split at h
    · rename_i hw
      split at h
      · rename_i f args ats hop
        cases h
        have : o = ⟨o.dst, .call { callee := .value f, args := args, argTypes := ats }, o.type, o.pos, o.after, o.guard⟩ := by
          obtain ⟨dst, op, ty, pos, aft, gd⟩ := o
          simp only at hop; subst hop; rfl
        rw [this]; exact hk
      · rename_i op hne
        obtain ⟨p, hp, hr⟩ := Option.bind_eq_some_iff.1 h
        refine hF o l s ?_
        rw [hw, dwant_true, dop_plain (fun f args ats => hne f args ats), hp]
        exact runs_spec hr F hF hk
    · rename_i hw
      refine hF o l s ?_
      rw [hw, dwant_false]
      exact runs_spec h F hF hk
    · cases h

theorem go_run {ops : Array Oper} {l l' : List Oper} {s' : St} (h : runs P ops l s = some (s', l')) (hk : dx P .normal (.ops ops l' :: k) Q s') : dx P .normal (.ops ops l :: k) Q s :=
  runs_spec h (fun l s => dx P .normal (.ops ops l :: k) Q s) (fun o l s hd => dsemO_cons hd) hk
theorem go_trun {ops : Array Oper} {l l' : List Oper} {s' : St} (h : runs P ops l s = some (s', l')) (hk : dx P .normal (.tops ops l' :: k) Q s') : dx P .normal (.tops ops l :: k) Q s :=
  runs_spec h (fun l s => dx P .normal (.tops ops l :: k) Q s) (fun o l s hd => hd) hk

theorem go_qrun {ops : Array Oper} {n : Nat} : ∀ {l l' : List Oper} {s s' : St}, runsQ P ops l s = some (s', l') → dx P .normal (.qops ops l' n :: k) Q s' → dx P .normal (.qops ops l n :: k) Q s
  | [], l', s, s', h, hk => by cases h; exact hk
  | o :: l, l', s, s', h, hk => by
    simp only [runsQ] at h
    show dquiet P ops (o :: l) _ s
    simp only [dquiet]
    split at h
    · rename_i hw
      rw [hw, dwant_true]
      split at h
      · rename_i f args ats hop
        cases h
        have : o = ⟨o.dst, .call { callee := .value f, args := args, argTypes := ats }, o.type, o.pos, o.after, o.guard⟩ := by
          obtain ⟨dst, op, ty, pos, aft, gd⟩ := o
          simp only at hop; subst hop; rfl
        rw [← this] at hk
        have hk' : dquiet P ops (o :: l) (dops P ops (ops.toList.drop n) (fun s' => dx P .normal k Q s')) s := hk
        simp only [dquiet, hw, dwant_true] at hk'
        exact hk'
      · rename_i op hne
        split at h
        · rename_i hq
          obtain ⟨⟨r, h'⟩, hp, hr⟩ := Option.bind_eq_some_iff.1 h
          have := opv_quiet hq hp
          subst this
          rw [dop_plain (fun f args ats => hne f args ats), hp, dres_some]
          exact ⟨by rw [put_h], go_qrun hr hk⟩
        · cases h
    · rename_i hw
      rw [hw, dwant_false]
      exact go_qrun h hk
    · cases h

/-- A call, its callee and arguments. -/
def callOf (ops : Array Oper) (o : Oper) (s : St) : Option (FuncId × List AV) :=
  match wantA o ops s with
  | some true => match o.op with
    | .call { callee := .value f, args, .. } => match s.ev f with
      | .clo g caps => some (g, args.toList.map s.ev ++ caps)
      | _ => none
    | _ => none
  | _ => none

theorem callOf_spec {ops : Array Oper} {o : Oper} {g : FuncId} {xs : List AV} (hc : callOf ops o s = some (g, xs)) : wantA o ops s = some true ∧ ∀ K, dop P o s K = dcall P g xs s.h fun r h' => K ((⟨s.t, h'⟩ : St).put o.dst r) := by
  unfold callOf at hc
  split at hc
  · rename_i hw
    split at hc
    · rename_i f args ats hop
      split at hc
      · rename_i g' caps hf
        cases hc
        refine ⟨hw, fun K => ?_⟩
        obtain ⟨dst, op, ty, pos, aft, gd⟩ := o
        simp only at hop; subst hop
        simp only [dop, hf, dfun_clo]
      · cases hc
    · cases hc
  · cases hc

theorem go_call {ops : Array Oper} {o : Oper} {l : List Oper} {g : FuncId} {xs : List AV} {r : AV} {h' : Heap} (hc : callOf ops o s = some (g, xs)) (hr : Ret P g xs s.h r h') (hk : dx P .normal (.ops ops l :: k) Q ((⟨s.t, h'⟩ : St).put o.dst r)) : dx P .normal (.ops ops (o :: l) :: k) Q s := by
  obtain ⟨h1, h2⟩ := callOf_spec (P := P) hc
  refine dsemO_cons ?_
  rw [h1, dwant_true, h2]
  exact dcall_of hr hk
theorem go_tcall {ops : Array Oper} {o : Oper} {l : List Oper} {g : FuncId} {xs : List AV} {r : AV} {h' : Heap} (hc : callOf ops o s = some (g, xs)) (hr : Ret P g xs s.h r h') (hk : dx P .normal (.tops ops l :: k) Q ((⟨s.t, h'⟩ : St).put o.dst r)) : dx P .normal (.tops ops (o :: l) :: k) Q s := by
  obtain ⟨h1, h2⟩ := callOf_spec (P := P) hc
  show dwant (wantA o ops s) _ _
  rw [h1, dwant_true, h2]
  exact dcall_of hr hk
theorem go_qcall {ops : Array Oper} {o : Oper} {l : List Oper} {n : Nat} {g : FuncId} {xs : List AV} {r : AV} (hc : callOf ops o s = some (g, xs)) (hr : Ret P g xs s.h r s.h) (hk : dx P .normal (.qops ops l n :: k) Q (s.put o.dst r)) : dx P .normal (.qops ops (o :: l) n :: k) Q s := by
  obtain ⟨h1, h2⟩ := callOf_spec (P := P) hc
  show dwant (wantA o ops s) _ _
  rw [h1, dwant_true, h2]
  exact dcall_of hr ⟨by rw [put_h], hk⟩
end

/-- What a call comes to: the result and the heap are told by a predicate. -/
theorem calls_of_dx {P : Program} {f : FuncId} {fn : Func} {c : Code} {args : List AV} {h : Heap} {R : AV → Heap → Prop} (hf : P.funcs[f]? = some fn) (hb : fn.body = some c)
    (hd : dx P .normal [.code c] (fun e s => (e = .ret ∨ e = .normal) ∧ ∃ r, resAV P fn.results.toList s = some r ∧ R r s.h) (St.begin args fn.ntmps h)) {φ : Plc} {ok : Nat → Prop} {w : World} {vs : Array Value} (hG : Gl P ok w) (hR : Rel φ ok h w) (hv : RVs φ ok w args vs) :
    Calls P f vs w fun e w' => ∃ v φ' ok' r h', e = .returned v ∧ Step φ φ' ok ok' h h' w w' ∧ RV φ' ok' w' r v ∧ R r h' := by
  refine calls_of_wp hf hb ?_
  have hs : Sim P w (live φ h) ok φ ok (St.begin args fn.ntmps h) { tmps := vs ++ Array.replicate (fn.ntmps - vs.size) undef, defers := [] } w := by
    refine ⟨hG, hR, Frame.refl _ _, fun b hb => .inl hb, fun b hb => .inl hb, by simp [St.begin, hv.1], fun i x y h1 h2 => ?_, rfl⟩
    simp only [St.begin] at h1
    by_cases hi : i < args.length
    · rw [List.getElem?_append_left hi] at h1
      rw [Array.getElem?_append_left (by rw [← hv.1]; exact hi)] at h2
      exact hv.2 i x y h1 h2
    · rw [List.getElem?_append_right (by omega)] at h1
      rw [Array.getElem?_append_right (by rw [← hv.1]; omega)] at h2
      rw [List.getElem?_replicate] at h1
      split at h1
      · cases h1
        simp only [Array.getElem?_replicate] at h2
        split at h2
        · cases h2; exact .v _
        · cases h2
      · cases h1
  refine wp_mono (hd w (live φ h) ok φ ok _ w hs) ?_
  rintro e a' w' ⟨x, rfl, s', φ', ok', ht, hK⟩
  rw [dx_nil] at hK
  obtain ⟨hx, r, hres, hRr⟩ := hK
  obtain ⟨v, h1, h2⟩ := results_sound ht.sim hres
  have hst : Step φ φ' ok ok' h s'.h w w' := ⟨ht.sim.rel, ht.ext, ht.sim.frame, ht.sim.own, ht.sim.okg⟩
  rcases hx with rfl | rfl
  · exact ⟨ht.sim.df, v, h1, v, φ', ok', r, s'.h, rfl, hst, h2, hRr⟩
  · exact ⟨ht.sim.df, v, h1, v, φ', ok', r, s'.h, rfl, hst, h2, hRr⟩

def EndsV (P : Program) (rs : List ResultVar) (r : AV) (e : Ex) (s : St) : Prop := (e = .ret ∨ e = .normal) ∧ ∃ r0, resAV P rs s = some r0 ∧ View s.h r0 r
def EndsH (P : Program) (rs : List ResultVar) (r : AV) (h : Heap) (e : Ex) (s : St) : Prop := (e = .ret ∨ e = .normal) ∧ ∃ r0, resAV P rs s = some r0 ∧ (r0 = r ∧ s.h = h)

theorem ret_of_dx {P : Program} {f : FuncId} {fn : Func} {c : Code} {args : List AV} {h h' : Heap} {r : AV} (hen : enterB P f = true) (hf : P.funcs[f]? = some fn) (hb : fn.body = some c)
    (hd : dx P .normal [.code c] (EndsH P fn.results.toList r h') (St.begin args fn.ntmps h)) : Ret P f args h r h' := by
  refine ⟨hen, fun φ ok w vs hG hR hv => (calls_of_dx (R := fun r0 h0 => r0 = r ∧ h0 = h') hf hb hd hG hR hv).mono ?_⟩
  rintro e w' ⟨v, φ', ok', r0, h0, he, hst, hrv, rfl, rfl⟩
  exact ⟨v, φ', ok', he, hst, hrv⟩

/-- A function of content: it is walked in a heap of its own. -/
theorem pure_dx {P : Program} {f : FuncId} {fn : Func} {c : Code} {args : List AV} {r : AV} (hen : enterB P f = true) (hf : P.funcs[f]? = some fn) (hb : fn.body = some c) (hp : ∀ a ∈ args, Pure a) (hpr : Pure r)
    (hd : dx P .normal [.code c] (EndsV P fn.results.toList r) (St.begin args fn.ntmps (hl []))) (h : Heap) : Ret P f args h r h := by
  rw [← empty_hl] at hd
  refine ⟨hen, fun φ ok w vs hG hR hvs => (calls_of_dx (φ := fun _ => none) (R := fun r0 h0 => View h0 r0 r) hf hb hd hG (rel_empty hR.okLt) ⟨hvs.1, fun i x y h1 h2 => (hvs.2 i x y h1 h2).pure (hp x (List.mem_of_getElem? h1))⟩).mono ?_⟩
  rintro e w' ⟨v, φ', ok', r0, h0, rfl, st, hrv, hv⟩
  have hf := frame_empty st.frame
  have h1 := (view_sound st.rel hv hrv).pure (φ' := φ) hpr
  have hsub : ∀ b, (ok' b ∨ live φ' h0 b) → ok b ∨ (w.heap.size ≤ b ∧ b < w'.heap.size) := fun b hb => by
    rcases hb with hb | hb
    · exact (st.okg b hb).imp id fun h => ⟨h, st.rel.okLt b hb⟩
    · exact (st.own b hb).elim (fun h => absurd h live_empty) fun h => .inr ⟨h, live_lt st.rel hb⟩
  exact ⟨v, φ, _, rfl, step_keep hR hf (fun b hb => .inl hb) (fun _ h => h), h1.okmono hsub⟩

section
variable {P : Program} {k : List Fr} {Q : Ex → St → Prop} {s : St}
theorem un_ret {f : Fr} (h : dx P .ret k Q s) : dx P .ret (f :: k) Q s := by rw [dx_ret]; exact h
theorem un_code {i : Nat} {c : Code} (h : dx P (.exit i) k Q s) : dx P (.exit i) (.code c :: k) Q s := h
theorem un_lp {i : Nat} {J : Nat → St → Prop} {m : Nat} (h : dx P (.exit i) k Q s) : dx P (.exit i) (.lp J m :: k) Q s := h
theorem un_jn {i : Nat} {J : St → Prop} (h : dx P (.exit i) k Q s) : dx P (.exit i) (.jn J :: k) Q s := h
theorem un_blk {i : Nat} (h : dx P .normal k Q s) : dx P (.exit i) (.blk i :: k) Q s := by rw [dx_exit_blk, if_pos rfl]; exact h
theorem un_blk' {i j : Nat} (hne : i ≠ j) (h : dx P (.exit i) k Q s) : dx P (.exit i) (.blk j :: k) Q s := by rw [dx_exit_blk, if_neg hne]; exact h
theorem un_nblk {i : Nat} (h : dx P .normal k Q s) : dx P .normal (.blk i :: k) Q s := h
theorem at_lp {J : Nat → St → Prop} {m : Nat} (m' : Nat) (s' : St) (h : J m' s') (hm : m' < m) (hw : Weak s s') : dx P .normal (.lp J m :: k) Q s := ⟨m', s', hm, hw, h⟩
theorem at_jn {J : St → Prop} (s' : St) (h : J s') (hw : Weak s s') : dx P .normal (.jn J :: k) Q s := ⟨s', hw, h⟩
end

theorem tmod10 (n : Int) : (n.tmod 10).natAbs = n.natAbs % 10 := by rw [Int.natAbs_tmod]; rfl
theorem tdiv10 (n : Int) : (n.tdiv 10).natAbs = n.natAbs / 10 := by rw [Int.natAbs_tdiv]; rfl

attribute [simp] Pure.v_iff Pure.emp_iff Pure.agg_iff Pure.tup_iff Pure.clo_iff Pure.cs_iff Pure.cp_iff

/-- The walk's end. -/
theorem go_end {P : Program} {rs : List ResultVar} {r : AV} {h : Heap} {s : St} {e : Ex} (he : e = .ret ∨ e = .normal) (hr : resAV P rs s = some r) (hh : s.h = h) : dx P e [] (EndsH P rs r h) s := by
  rw [dx_nil]; exact ⟨he, r, hr, rfl, hh⟩
theorem go_endV {P : Program} {rs : List ResultVar} {r0 r : AV} {s : St} {e : Ex} (he : e = .ret ∨ e = .normal) (hr : resAV P rs s = some r0) (hv : View s.h r0 r) : dx P e [] (EndsV P rs r) s := by
  rw [dx_nil]; exact ⟨he, r0, hr, hv⟩
theorem go_endP {P : Program} {rs : List ResultVar} {r : AV} {s : St} {e : Ex} (he : e = .ret ∨ e = .normal) (hr : resAV P rs s = some r) (hp : Pure r) : dx P e [] (EndsV P rs r) s := go_endV he hr (.pure hp)

attribute [irreducible] dx

end Go.Proofs.Dv
