/- Calls, code, functions: judgements and their rules. -/
import Derived.Test.YtmbbedleimajcaaDoorDvK
import Derived.Lib.LaidTab
import Derived.Lib.ItoaNum
namespace Go.Proofs.Dv
open Go Go.RowKit
set_option linter.unusedSimpArgs false
set_option linter.unusedVariables false

/-- Values side by side. -/
def RVs (φ : Plc) (ok : Nat → Prop) (w : World) (l : List AV) (ys : Array Value) : Prop :=
  l.length = ys.size ∧ ∀ (i : Nat) x y, l[i]? = some x → ys[i]? = some y → RV φ ok w x y

def enterB (P : Program) (f : FuncId) : Bool :=
  match P.funcs[f]? with
  | some fn => fn.body.isSome && !(fn.name == "runtime.NumGoroutine")
  | none => false

/-- What is known of the package-level variables. -/
def Gl (P : Program) (ok : Nat → Prop) (w : World) : Prop :=
  ∀ g, P.globalNamed "internal/strconv.uint64pow10" = some g → ok g ∧ Lib.TabIs P w "internal/strconv.uint64pow10" .u64 Lib.pow10Tab

theorem Gl.cells {P : Program} {ok ok' : Nat → Prop} {w w' : World} (h : Gl P ok w) (hs : ∀ b, ok b → ok' b) (hc : ∀ b, ok b → w'.heap[b]? = w.heap[b]?) : Gl P ok' w' := fun g hg => by
  obtain ⟨h1, h2⟩ := h g hg
  refine ⟨hs g h1, ?_⟩
  unfold Lib.TabIs World.var? at *
  simp only [hg, Option.bind_some, hc g h1] at h2 ⊢
  exact h2

theorem Gl.ext {P : Program} {φ φ' : Plc} {ok ok' : Nat → Prop} {w w' : World} (h : Gl P ok w) (he : Ext φ φ' ok ok' w w') : Gl P ok' w' := h.cells he.sub he.cells

/-- 'The call f(args) in heap h returns r, and leaves heap h'.' -/
def Ret (P : Program) (f : FuncId) (args : List AV) (h : Heap) (r : AV) (h' : Heap) : Prop :=
  enterB P f = true ∧ ∀ φ ok w vs, Gl P ok w → Rel φ ok h w → RVs φ ok w args vs → Calls P f vs w fun e w' => ∃ v φ' ok', e = .returned v ∧ Step φ φ' ok ok' h h' w w' ∧ RV φ' ok' w' r v

theorem enter_run {P : Program} {f : FuncId} (h : enterB P f = true) (args : Array Value) (w : World) : (callFunc f args).run P w = .ok (.enter f args) w := by
  unfold enterB at h
  cases hf : P.funcs[f]? with
  | none => simp [hf] at h
  | some fn =>
    simp only [hf, Bool.and_eq_true, Bool.not_eq_true'] at h
    obtain ⟨h1, h2⟩ := h
    have h3 : fn.body.isNone = false := by cases hb : fn.body <;> simp_all
    simp only [callFunc, Sem.run_bind, run_program, Result.andThen_ok, hf]
    rw [if_neg (by rw [h2]; simp), if_neg (by rw [h3]; simp)]
    rfl

structure Sim (P : Program) (w0 : World) (own0 ok0 : Nat → Prop) (φ : Plc) (ok : Nat → Prop) (s : St) (a : Act) (w : World) : Prop where
  gl : Gl P ok w
  rel : Rel φ ok s.h w
  frame : Frame own0 w0 w
  own : ∀ b, live φ s.h b → own0 b ∨ w0.heap.size ≤ b
  okg : ∀ b, ok b → ok0 b ∨ w0.heap.size ≤ b
  tl : a.tmps.size = s.t.length
  tm : ∀ (i : Nat) x y, s.t[i]? = some x → a.tmps[i]? = some y → RV φ ok w x y
  df : a.defers = []

/-- What is reached from a state by a step. -/
structure To (P : Program) (w0 : World) (own0 ok0 : Nat → Prop) (φ : Plc) (ok : Nat → Prop) (w : World) (s' : St) (a' : Act) (w' : World) (φ' : Plc) (ok' : Nat → Prop) : Prop where
  sim : Sim P w0 own0 ok0 φ' ok' s' a' w'
  ext : Ext φ φ' ok ok' w w'

section
variable {P : Program} {w0 : World} {own0 ok0 : Nat → Prop} {φ φ' : Plc} {ok ok' : Nat → Prop} {s s' : St} {a a' : Act} {w w' : World}

theorem Sim.ev (hs : Sim P w0 own0 ok0 φ ok s a w) (x : Operand) : RV φ ok w (s.ev x) (a.eval x) := by
  cases x with
  | tmp i =>
    simp only [St.ev, Act.eval]
    cases hx : s.t[i]? with
    | none => simp [List.getD, hx]; exact .dead _
    | some x =>
      have hi : i < a.tmps.size := by rw [hs.tl]; exact (List.getElem?_eq_some_iff.1 hx).1
      have hy : a.tmps[i]? = some a.tmps[i] := by simp [hi]
      have := hs.tm i x _ hx hy
      simpa [List.getD, hx, Array.getD, hi] using this
  | const v => exact .of v
  | global g => exact .v _
  | func f => exact .clo (by simp) (fun i a y h => by simp at h)

/-- A step of the heap, then a value put into a slot. -/
theorem Sim.put (hs : Sim P w0 own0 ok0 φ ok s a w) {h' : Heap} (st : Step φ φ' ok ok' s.h h' w w') {r : AV} {v : Value} (hv : RV φ' ok' w' r v) (d : Option Tmp) :
    To P w0 own0 ok0 φ ok w ((⟨s.t, h'⟩ : St).put d r) (a.put d v) w' φ' ok' := by
  refine ⟨⟨hs.gl.ext st.ext, ?_, hs.frame.trans st.frame (fun b hb => hs.own b hb), fun b hb => ?_, fun b hb => (st.okg b hb).elim (fun h => hs.okg b h) (fun h => .inr (Nat.le_trans hs.frame.size h)), ?_, ?_, ?_⟩, st.ext⟩
  · cases d <;> exact st.rel
  · have : live φ' h' b := by cases d <;> exact hb
    exact (st.own b this).elim (fun h => hs.own b h) (fun h => .inr (Nat.le_trans hs.frame.size h))
  · cases d with
    | none => exact hs.tl
    | some d => simp [Act.put, St.put, hs.tl]
  · cases d with
    | none => exact fun i x y h1 h2 => (hs.tm i x y h1 h2).ext st.ext
    | some d =>
      intro i x y h1 h2
      simp only [Act.put, St.put] at h1 h2
      by_cases hd : d = i
      · subst hd
        have hlt : d < s.t.length := by
          have := (List.getElem?_eq_some_iff.1 h1).1; simpa using this
        rw [List.getElem?_set_self hlt] at h1
        have hlt' : d < a.tmps.size := by rw [hs.tl]; exact hlt
        simp [hlt'] at h2
        cases h1; subst h2; exact hv
      · rw [List.getElem?_set_ne hd] at h1
        rw [Array.getElem?_setIfInBounds_ne hd] at h2
        exact (hs.tm i x y h1 h2).ext st.ext
  · cases d <;> exact hs.df

theorem To.trans {s'' : St} {a'' : Act} {w'' : World} {φ'' : Plc} {ok'' : Nat → Prop} (h : To P w0 own0 ok0 φ ok w s' a' w' φ' ok') (k : To P w0 own0 ok0 φ' ok' w' s'' a'' w'' φ'' ok'') : To P w0 own0 ok0 φ ok w s'' a'' w'' φ'' ok'' :=
  ⟨k.sim, h.ext.trans k.ext⟩
theorem To.refl (hs : Sim P w0 own0 ok0 φ ok s a w) : To P w0 own0 ok0 φ ok w s a w φ ok := ⟨hs, Ext.refl _ _ _⟩
end

inductive Ex where
  | normal
  | exit (id : Nat)
  | ret

def Ex.real : Ex → Exit
  | .normal => .normal
  | .exit i => .exit i
  | .ret => .ret

/-- Is this operation carried out? -/
def wantA (o : Oper) (ops : Array Oper) (s : St) : Option Bool :=
  match o.guard with
  | none => some true
  | some (j, want) => match (ops[j]?).bind (·.dst) with
    | some d => match s.t[d]? with
      | some (.v (.bool b)) => some (b == want)
      | some (.v _) => some false
      | _ => none
    | none => some false

/-- A call, its continuation behind it. -/
def dcall (P : Program) (f : FuncId) (args : List AV) (h : Heap) (K : AV → Heap → Prop) : Prop := ∃ r h', Ret P f args h r h' ∧ K r h'

theorem dcall_of {P : Program} {f : FuncId} {args : List AV} {h : Heap} {K : AV → Heap → Prop} {r : AV} {h' : Heap} (hr : Ret P f args h r h') (hk : K r h') : dcall P f args h K := ⟨r, h', hr, hk⟩

/-- What is done with an operation's outcome. -/
def dres (x : Option (AV × Heap)) (K : AV → Heap → Prop) : Prop :=
  match x with
  | some (r, h') => K r h'
  | none => False
@[simp] theorem dres_some (r : AV) (h : Heap) (K : AV → Heap → Prop) : dres (some (r, h)) K = K r h := rfl
@[simp] theorem dres_none (K : AV → Heap → Prop) : dres none K = False := rfl
@[congr] theorem dres_congr {x y : Option (AV × Heap)} {K : AV → Heap → Prop} (h : x = y) : dres x K = dres y K := by rw [h]

def dwant (x : Option Bool) (A B : Prop) : Prop :=
  match x with
  | some true => A
  | some false => B
  | none => False
@[simp] theorem dwant_true (A B : Prop) : dwant (some true) A B = A := rfl
@[simp] theorem dwant_false (A B : Prop) : dwant (some false) A B = B := rfl
@[simp] theorem dwant_none (A B : Prop) : dwant none A B = False := rfl
@[congr] theorem dwant_congr {x y : Option Bool} {A B : Prop} (h : x = y) : dwant x A B = dwant y A B := by rw [h]

/-- A test. -/
def dcond (x : AV) (A B : Prop) : Prop :=
  match x with
  | .v (.bool t) => (t = true → A) ∧ (t = false → B)
  | _ => False
theorem dcond_bool (t : Bool) (A B : Prop) : dcond (.v (.bool t)) A B = ((t = true → A) ∧ (t = false → B)) := rfl
@[simp] theorem dcond_true (A B : Prop) : dcond (.v (.bool true)) A B = A := by simp [dcond]
@[simp] theorem dcond_false (A B : Prop) : dcond (.v (.bool false)) A B = B := by simp [dcond]
@[congr] theorem dcond_congr {x y : AV} {A B : Prop} (h : x = y) : dcond x A B = dcond y A B := by rw [h]

def dfun (x : AV) (K : FuncId → List AV → Prop) : Prop :=
  match x with
  | .clo g caps => K g caps
  | _ => False
@[simp] theorem dfun_clo (g : FuncId) (caps : List AV) (K : FuncId → List AV → Prop) : dfun (.clo g caps) K = K g caps := rfl
@[congr] theorem dfun_congr {x y : AV} {K : FuncId → List AV → Prop} (h : x = y) : dfun x K = dfun y K := by rw [h]

/-- One operation. -/
def dop (P : Program) (o : Oper) (s : St) (K : St → Prop) : Prop :=
  match o.op with
  | .call { callee := .value f, args, .. } => dfun (s.ev f) fun g caps => dcall P g (args.toList.map s.ev ++ caps) s.h fun r h' => K ((⟨s.t, h'⟩ : St).put o.dst r)
  | op => dres (opv P s.ev s.h op) fun r h' => K ((⟨s.t, h'⟩ : St).put o.dst r)

def dops (P : Program) (ops : Array Oper) : List Oper → (St → Prop) → St → Prop
  | [], K, s => K s
  | o :: rest, K, s => dwant (wantA o ops s) (dop P o s (dops P ops rest K)) (dops P ops rest K (s.put o.dst (.v undef)))

/-- What a real state must meet: some abstract state of it meets K. -/
def Lift (P : Program) (w0 : World) (own0 ok0 : Nat → Prop) (φ : Plc) (ok : Nat → Prop) (w : World) (K : St → Prop) (a' : Act) (w' : World) : Prop :=
  ∃ s' φ' ok', To P w0 own0 ok0 φ ok w s' a' w' φ' ok' ∧ K s'

theorem wantA_spec {P : Program} {w0 : World} {own0 ok0 : Nat → Prop} {φ : Plc} {ok : Nat → Prop} {s : St} {a : Act} {w : World} (hs : Sim P w0 own0 ok0 φ ok s a w) {o : Oper} {ops : Array Oper} {b : Bool} (h : wantA o ops s = some b) : Region.wanted o (yielded ops a.tmps) = b := by
  unfold wantA at h
  unfold Region.wanted
  split at h
  · rename_i hg; cases h; simp [hg]
  · rename_i j want hg
    simp only [hg]
    unfold yielded
    split at h
    · rename_i d hd
      simp only [hd, Option.bind_some]
      cases hx : s.t[d]? with
      | none => simp [hx] at h
      | some x =>
        have hi : d < a.tmps.size := by rw [hs.tl]; exact (List.getElem?_eq_some_iff.1 hx).1
        have hy : a.tmps[d]? = some a.tmps[d] := by simp [hi]
        have hv := hs.tm d x _ hx hy
        rw [hx] at h
        simp only [hy]
        split at h
        · rename_i c heq; cases heq; cases h
          rw [hv.v_inv]; cases c <;> cases want <;> rfl
        · rename_i u hne heq; cases heq; cases h
          rw [hv.v_inv]
          cases u <;> first | rfl | (exact absurd rfl (hne _))
        · cases h
    · rename_i hd
      cases h
      simp [hd]

theorem evs_rv {P : Program} {w0 : World} {own0 ok0 : Nat → Prop} {φ : Plc} {ok : Nat → Prop} {s : St} {a : Act} {w : World} (hs : Sim P w0 own0 ok0 φ ok s a w) (args : Array Operand) (caps : List AV) (ys : Array Value) (hc : RVs φ ok w caps ys) :
    RVs φ ok w (args.toList.map s.ev ++ caps) (args.map a.eval ++ ys) := by
  refine ⟨by simp [hc.1], fun i x y h1 h2 => ?_⟩
  by_cases hi : i < args.size
  · rw [List.getElem?_append_left (by simpa using hi)] at h1
    rw [Array.getElem?_append_left (by simpa using hi)] at h2
    simp [hi] at h1 h2
    subst h1 h2; exact hs.ev _
  · rw [List.getElem?_append_right (by simp; omega)] at h1
    rw [Array.getElem?_append_right (by simp; omega)] at h2
    simp at h1 h2
    exact hc.2 _ x y h1 h2

theorem dop_sound {P : Program} {o : Oper} {w0 : World} {own0 ok0 : Nat → Prop} {φ : Plc} {ok : Nat → Prop} {s : St} {a : Act} {w : World} {K : St → Prop} {next : Act → World → Prop} {Q : Exit → Act → World → Prop}
    (hs : Sim P w0 own0 ok0 φ ok s a w) (h : dop P o s K) (hn : ∀ s' φ' ok' a' w', To P w0 own0 ok0 φ ok w s' a' w' φ' ok' → K s' → next a' w') : o.wp P a w next Q := by
  unfold dop at h
  split at h
  · rename_i f args ats hop
    unfold dfun at h
    split at h
    · rename_i g caps hf
      obtain ⟨r, h', ⟨hen, hret⟩, hK⟩ := h
      have hfv := hs.ev f
      rw [hf] at hfv
      have : ∃ ys, a.eval f = .func (.func g) #[] ys ∧ RVs φ ok w caps ys := by
        generalize a.eval f = y at hfv
        cases hfv with
        | clo hl hh => exact ⟨_, rfl, hl, hh⟩
      obtain ⟨ys, hfe, hys⟩ := this
      have hrun : (execOp a.eval o).run P w = .ok (.enter g (args.map a.eval ++ ys)) w := by
        obtain ⟨dst, op, type, pos, after, guard⟩ := o
        simp only at hop
        subst hop
        simp only [execOp, resolve, hfe, Deferred.ofValue, Sem.run_bind, Sem.run_pure, Result.andThen_ok, invoke, Array.empty_append]
        exact enter_run hen _ w
      unfold Oper.wp
      rw [hrun]
      simp only [Oper.upon]
      refine (hret φ ok w _ hs.gl hs.rel (evs_rv hs args caps ys hys)).mono ?_
      rintro e w' ⟨v, φ', ok', rfl, st, hv⟩
      exact hn _ φ' ok' _ w' (hs.put st hv o.dst) hK
    · exact h.elim
  · rename_i op hnc
    cases hv : opv P s.ev s.h o.op with
    | none => rw [hv] at h; exact h.elim
    | some q =>
      obtain ⟨r, h'⟩ := q
      rw [hv] at h
      simp only [dres_some] at h
      obtain ⟨v, w', hrun, φ', ok', st, hr⟩ := opv_sound (ρr := a.eval) hs.rel hs.ev (fun _ => rfl) hv
      unfold Oper.wp
      rcases hrun with hrun | ⟨hrun, rfl⟩
      · rw [hrun]; exact hn _ φ' ok' _ w' (hs.put st hr o.dst) h
      · rw [hrun]; exact hn _ φ' ok' _ w' (hs.put st hr o.dst) h

theorem dops_sound {P : Program} {ops : Array Oper} {Q : Exit → Act → World → Prop} {w0 : World} {own0 ok0 : Nat → Prop} : ∀ (l : List Oper) {φ : Plc} {ok : Nat → Prop} {s : St} {a : Act} {w : World} {K : St → Prop},
    Sim P w0 own0 ok0 φ ok s a w → dops P ops l K s → (∀ s' φ' ok' a' w', To P w0 own0 ok0 φ ok w s' a' w' φ' ok' → K s' → Q .normal a' w') → wpList P ops Q l a w
  | [], φ, ok, s, a, w, K, hs, h, hQ => hQ s φ ok a w (.refl hs) h
  | o :: rest, φ, ok, s, a, w, K, hs, h, hQ => by
    simp only [dops] at h
    unfold dwant at h
    split at h
    · rename_i hw
      unfold wpList
      rw [if_pos (wantA_spec hs hw)]
      exact .inl (dop_sound hs h fun s' φ' ok' a' w' ht hK => dops_sound rest ht.sim hK fun s'' φ'' ok'' a'' w'' ht' hK' => hQ s'' φ'' ok'' a'' w'' (ht.trans ht') hK')
    · rename_i hw
      unfold wpList
      rw [if_neg (by rw [wantA_spec hs hw]; simp)]
      have ht := hs.put (Step.refl hs.rel) (r := .v undef) (.v _) o.dst
      exact dops_sound rest ht.sim h fun s'' φ'' ok'' a'' w'' ht' hK' => hQ s'' φ'' ok'' a'' w'' (ht.trans ht') hK'
    · exact h.elim


/-- A region whose order is fixed. -/
def dregion (P : Program) (ops : Array Oper) (K : St → Prop) (s : St) : Prop := dops P ops ops.toList K s

/-- A loop: a relation with a measure. -/
def dloop (body : (Ex → St → Prop) → St → Prop) (K : Ex → St → Prop) (s : St) : Prop :=
  ∃ I : Nat → St → Prop, (∃ n, I n s) ∧ ∀ n s', I n s' → body (fun e s'' => match e with | .normal => ∃ m, m < n ∧ I m s'' | e => K e s'') s'

/-- A region that draws its order: told elsewhere. -/
def Draws (P : Program) (id : Nat) (ops : Array Oper) (K : St → Prop) (s : St) : Prop :=
  ∀ w0 own0 ok0 φ ok a w, Sim P w0 own0 ok0 φ ok s a w → (Code.region id ops true).wp P (fun e a' w' => e = .normal ∧ Lift P w0 own0 ok0 φ ok w K a' w') a w

def dwp (P : Program) : Code → (Ex → St → Prop) → St → Prop
  | .skip, K, s => K .normal s
  | .region id ops false, K, s => dregion P ops (K .normal) s
  | .region id ops true, K, s => Draws P id ops (K .normal) s
  | .seq x y, K, s => dwp P x (fun e s' => match e with | .normal => dwp P y K s' | e => K e s') s
  | .cond c x y, K, s => dcond (s.ev c) (dwp P x K s) (dwp P y K s)
  | .block id x, K, s => dwp P x (fun e s' => match e with | .exit i => if i = id then K .normal s' else K (.exit i) s' | e => K e s') s
  | .loop x, K, s => dloop (dwp P x) K s
  | .exit id, K, s => K (.exit id) s
  | .ret, K, s => K .ret s
  | _, _, _ => False

def LiftE (P : Program) (w0 : World) (own0 ok0 : Nat → Prop) (φ : Plc) (ok : Nat → Prop) (w : World) (K : Ex → St → Prop) (e : Exit) (a' : Act) (w' : World) : Prop :=
  ∃ x : Ex, e = x.real ∧ ∃ s' φ' ok', To P w0 own0 ok0 φ ok w s' a' w' φ' ok' ∧ K x s'

theorem LiftE.up {P : Program} {w0 : World} {own0 ok0 : Nat → Prop} {φ φ' : Plc} {ok ok' : Nat → Prop} {w w' : World} {s' : St} {a' : Act} {K : Ex → St → Prop} (ht : To P w0 own0 ok0 φ ok w s' a' w' φ' ok') {e : Exit} {a'' : Act} {w'' : World} (h : LiftE P w0 own0 ok0 φ' ok' w' K e a'' w'') : LiftE P w0 own0 ok0 φ ok w K e a'' w'' := by
  obtain ⟨x, he, s'', φ'', ok'', h1, h2⟩ := h
  exact ⟨x, he, s'', φ'', ok'', ht.trans h1, h2⟩

theorem wp_loop_any {P : Program} {c : Code} {Q : Exit → Act → World → Prop} (I : Nat → Act → World → Prop) (round : ∀ n a w, I n a w → c.wp P (fun e a' w' => (e = .normal ∧ ∃ m, m < n ∧ I m a' w') ∨ (e ≠ .normal ∧ Q e a' w')) a w) {n : Nat} {a : Act} {w : World} (h₀ : I n a w) : (Code.loop c).wp P Q a w := by
  intro b k cs
  have key : ∀ n a w, I n a w → ∃ e a' w', Q e a' w' ∧ Arrives P (lone (b.at a (.code c :: .inLoop c :: k)) cs w) b k cs e a' w' := by
    intro n
    induction n using Nat.strongRecOn with
    | _ n ih =>
      intro a w hI
      obtain ⟨e, a₁, w₁, hq, harr⟩ := round n a w hI b (.inLoop c :: k) cs
      rcases hq with ⟨rfl, m, hm, hI₁⟩ | ⟨hne, hq⟩
      · obtain ⟨e₂, a₂, w₂, hq₂, harr₂⟩ := ih m hm a₁ w₁ hI₁
        exact ⟨e₂, a₂, w₂, hq₂, .of_steps (Steps.trans harr (.one step_inLoop)) harr₂⟩
      · exact ⟨e, a₁, w₁, hq, .pass (x := .inLoop c) rfl (fun _ _ => .inl hne) harr⟩
  obtain ⟨e, a', w', hq, harr⟩ := key n a w h₀
  exact ⟨e, a', w', hq, .of_steps (.one step_loop) harr⟩

theorem dwp_sound {P : Program} {w0 : World} {own0 ok0 : Nat → Prop} : ∀ (c : Code) {K : Ex → St → Prop} {φ : Plc} {ok : Nat → Prop} {s : St} {a : Act} {w : World}, Sim P w0 own0 ok0 φ ok s a w → dwp P c K s → c.wp P (LiftE P w0 own0 ok0 φ ok w K) a w
  | .skip, K, φ, ok, s, a, w, hs, h => wp_skip ⟨.normal, rfl, s, φ, ok, .refl hs, h⟩
  | .region id ops false, K, φ, ok, s, a, w, hs, h => wp_region_list (dops_sound ops.toList hs h fun s' φ' ok' a' w' ht hK => ⟨.normal, rfl, s', φ', ok', ht, hK⟩)
  | .region id ops true, K, φ, ok, s, a, w, hs, h => by
    refine wp_mono (h w0 own0 ok0 φ ok a w hs) ?_
    rintro e a' w' ⟨rfl, s', φ', ok', ht, hK⟩
    exact ⟨.normal, rfl, s', φ', ok', ht, hK⟩
  | .seq x y, K, φ, ok, s, a, w, hs, h => by
    refine wp_seq (wp_mono (dwp_sound x hs h) ?_)
    rintro e a' w' ⟨z, rfl, s', φ', ok', ht, hK⟩
    cases z with
    | normal => exact wp_mono (dwp_sound y ht.sim hK) fun e a'' w'' hl => hl.up ht
    | exit i => exact ⟨.exit i, rfl, s', φ', ok', ht, hK⟩
    | ret => exact ⟨.ret, rfl, s', φ', ok', ht, hK⟩
  | .cond c x y, K, φ, ok, s, a, w, hs, h => by
    simp only [dwp] at h
    unfold dcond at h
    split at h
    · rename_i t ht
      have hc := hs.ev c
      rw [ht] at hc
      refine wp_cond hc.v_inv ?_
      cases t
      · exact dwp_sound y hs (h.2 rfl)
      · exact dwp_sound x hs (h.1 rfl)
    · exact h.elim
  | .block id x, K, φ, ok, s, a, w, hs, h => by
    refine wp_block (wp_mono (dwp_sound x hs h) ?_)
    rintro e a' w' ⟨z, rfl, s', φ', ok', ht, hK⟩
    cases z with
    | normal => exact ⟨.normal, rfl, s', φ', ok', ht, hK⟩
    | ret => exact ⟨.ret, rfl, s', φ', ok', ht, hK⟩
    | exit i =>
      simp only [Ex.real, Exit.inBlock]
      split
      · rename_i hi
        simp only [hi, if_true] at hK
        exact ⟨.normal, rfl, s', φ', ok', ht, hK⟩
      · rename_i hi
        simp only [hi, if_false] at hK
        exact ⟨.exit i, rfl, s', φ', ok', ht, hK⟩
  | .loop x, K, φ, ok, s, a, w, hs, h => by
    obtain ⟨I, ⟨n, hn⟩, hround⟩ := h
    refine wp_loop_any (fun n a' w' => ∃ s' φ' ok', To P w0 own0 ok0 φ ok w s' a' w' φ' ok' ∧ I n s') ?_ ⟨s, φ, ok, .refl hs, hn⟩
    rintro m a' w' ⟨s', φ', ok', ht, hI⟩
    refine wp_mono (dwp_sound x ht.sim (hround m s' hI)) ?_
    rintro e a'' w'' ⟨z, rfl, s'', φ'', ok'', ht', hK⟩
    cases z with
    | normal =>
      obtain ⟨q, hq, hI'⟩ := hK
      exact .inl ⟨rfl, q, hq, s'', φ'', ok'', ht.trans ht', hI'⟩
    | exit i => exact .inr ⟨by simp [Ex.real], .exit i, rfl, s'', φ'', ok'', ht.trans ht', hK⟩
    | ret => exact .inr ⟨by simp [Ex.real], .ret, rfl, s'', φ'', ok'', ht.trans ht', hK⟩
  | .exit id, K, φ, ok, s, a, w, hs, h => wp_exit ⟨.exit id, rfl, s, φ, ok, .refl hs, h⟩
  | .ret, K, φ, ok, s, a, w, hs, h => wp_ret ⟨.ret, rfl, s, φ, ok, .refl hs, h⟩
  | .rangeFunc .., _, _, _, _, _, _, _, h => h.elim
  | .scope _, _, _, _, _, _, _, _, h => h.elim
  | .label _, _, _, _, _, _, _, _, h => h.elim
  | .goto _, _, _, _, _, _, _, _, h => h.elim
  | .refuse _, _, _, _, _, _, _, _, h => h.elim

theorem mapM_length {α β : Type} {f : α → Option β} : ∀ {l : List α} {r : List β}, l.mapM f = some r → r.length = l.length := by
  intro l
  induction l with
  | nil => intro r h; simp at h; subst h; rfl
  | cons x l ih =>
    intro r h
    simp only [List.mapM_cons] at h
    cases hx : f x with
    | none => simp [hx] at h
    | some y =>
      cases hl : l.mapM f with
      | none => simp [hx, hl] at h
      | some r' => simp [hx, hl] at h; subst h; simp [ih hl]

/-- The results of a function. -/
def resv (P : Program) (s : St) : ResultVar → Option AV
  | .tmp t => some (s.ev (.tmp t))
  | .cell a t => opLoad P s.h t (s.ev (.tmp a))
def resAV (P : Program) (rs : List ResultVar) (s : St) : Option AV :=
  match rs with
  | [r] => resv P s r
  | rs => (rs.mapM (resv P s)).map .tup

def resReal (tmps : Array Value) : ResultVar → Sem Value
  | .tmp t => pure (tmps.getD t undef)
  | .cell q t => do loadVar t (← asAddr (tmps.getD q undef))
theorem results_eq (fn : Func) (tmps : Array Value) : results fn tmps = (fn.results.mapM (resReal tmps) >>= fun vs => pure (if h : vs.size = 1 then vs[0] else .tuple vs)) := by
  unfold results
  congr 1

theorem resv_sound {P : Program} {w0 : World} {own0 ok0 : Nat → Prop} {φ : Plc} {ok : Nat → Prop} {s : St} {a : Act} {w : World} (hs : Sim P w0 own0 ok0 φ ok s a w) {x : ResultVar} {r : AV} (h : resv P s x = some r) :
    ∃ v, (resReal a.tmps x).run P w = .ok v w ∧ RV φ ok w r v := by
  cases x with
  | tmp t =>
    cases h
    exact ⟨_, rfl, hs.ev (.tmp t)⟩
  | cell q t =>
    simp only [resv] at h
    obtain ⟨v, h1, h2⟩ := load_sound hs.rel (hs.ev (.tmp q)) h
    refine ⟨v, ?_, h2⟩
    show (do loadVar t (← asAddr (a.tmps.getD q undef)) : Sem Value).run P w = .ok v w
    have hp := hs.ev (.tmp q)
    have he : a.eval (.tmp q) = a.tmps.getD q undef := rfl
    rw [he] at h1 hp
    revert h1 hp h
    generalize s.ev (.tmp q) = p
    generalize a.tmps.getD q undef = y
    intro h h1 hp
    unfold opLoad at h
    cases hp <;> first
      | exact h1
      | (exfalso; revert h; cases tsz P t <;> cases tagg P t <;> simp)

theorem mapM_res {P : Program} {w0 : World} {own0 ok0 : Nat → Prop} {φ : Plc} {ok : Nat → Prop} {s : St} {a : Act} {w : World} (hs : Sim P w0 own0 ok0 φ ok s a w) : ∀ (rs : List ResultVar) (l : List AV), rs.mapM (resv P s) = some l →
    ∃ ys : List Value, (rs.mapM (resReal a.tmps)).run P w = .ok ys w ∧ ys.length = l.length ∧ ∀ (i : Nat) x y, l[i]? = some x → ys[i]? = some y → RV φ ok w x y := by
  intro rs
  induction rs with
  | nil => intro l h; simp at h; subst h; exact ⟨[], rfl, rfl, fun i x y h => by simp at h⟩
  | cons x rs ih =>
    intro l h
    simp only [List.mapM_cons] at h
    cases hx : resv P s x with
    | none => simp [hx] at h
    | some r =>
      cases hl : rs.mapM (resv P s) with
      | none => simp [hx, hl] at h
      | some l' =>
        simp [hx, hl] at h
        subst h
        obtain ⟨v, h1, h2⟩ := resv_sound hs hx
        obtain ⟨ys, h3, h4, h5⟩ := ih l' hl
        refine ⟨v :: ys, ?_, by simp [h4], fun i x y h6 h7 => ?_⟩
        · simp only [List.mapM_cons, Sem.run_bind, h1, Result.andThen_ok, h3, Sem.run_pure]
        · cases i with
          | zero => simp at h6 h7; subst h6 h7; exact h2
          | succ i => exact h5 i x y (by simpa using h6) (by simpa using h7)

theorem results_sound {P : Program} {w0 : World} {own0 ok0 : Nat → Prop} {φ : Plc} {ok : Nat → Prop} {s : St} {a : Act} {w : World} (hs : Sim P w0 own0 ok0 φ ok s a w) {fn : Func} {r : AV} (h : resAV P fn.results.toList s = some r) :
    ∃ v, (results fn a.tmps).run P w = .ok v w ∧ RV φ ok w r v := by
  have hm : ∀ l ys, (fn.results.toList.mapM (resv P s)) = some l → (fn.results.toList.mapM (resReal a.tmps)).run P w = .ok ys w →
      (results fn a.tmps).run P w = .ok (if h : ys.toArray.size = 1 then ys.toArray[0] else .tuple ys.toArray) w := fun l ys _ h2 => by
    rw [results_eq, Sem.run_bind, Array.mapM_eq_mapM_toList, Sem.run_map, h2]
    rfl
  unfold resAV at h
  split at h
  · rename_i x hx
    have hsg : fn.results.toList.mapM (resv P s) = some [r] := by rw [hx]; simp [h]
    obtain ⟨ys, h3, h4, h5⟩ := mapM_res hs fn.results.toList [r] hsg
    have h6 := hm [r] ys hsg h3
    cases ys with
    | nil => simp at h4
    | cons y ys => cases ys with
      | cons _ _ => simp at h4
      | nil => exact ⟨y, by simpa using h6, h5 0 r y rfl rfl⟩
  · rename_i hne
    cases hl : fn.results.toList.mapM (resv P s) with
    | none => simp [hl] at h
    | some l =>
      simp [hl] at h
      subst h
      obtain ⟨ys, h3, h4, h5⟩ := mapM_res hs fn.results.toList l hl
      have h6 := hm l ys hl h3
      have hll : l.length ≠ 1 := by
        intro h1
        have : fn.results.toList.length = 1 := by
          have := mapM_length (f := resv P s) hl
          omega
        match hr : fn.results.toList, this with
        | [x], _ => exact hne x hr
      refine ⟨.tuple ys.toArray, ?_, .tup (by simp [h4]) fun i a y h7 h8 => h5 i a y h7 (by simpa using h8)⟩
      rw [h6, dif_neg (by simp; omega)]

end Go.Proofs.Dv
