/- The operations that make no call: what they do to the abstract state, and that the machine does the same. -/
import Derived.Test.YtmbbedleimajcaaDoorDvB
import Derived.Laws.StructEq
import Derived.Laws.Build
namespace Go.Proofs.Dv
open Go Go.RowKit
set_option linter.unusedSimpArgs false
set_option linter.unusedVariables false
set_option linter.unnecessarySimpa false

def AV.leaf : Value → AV
  | .slice none 0 0 => .emp
  | x => .v x
def AV.of : Value → AV
  | .agg l => .agg (l.toList.map AV.leaf)
  | x => AV.leaf x
/-- May lie in one cell. -/
def AV.single : AV → Bool
  | .v x => one x
  | .agg _ | .tup _ | .dead => false
  | _ => true
def AV.cells : AV → List AV
  | .agg l => l
  | x => [x]

def tagg (P : Program) (t : TypeId) : Option Bool :=
  match P.underlying t with
  | some (.struct _) | some (.array _ _) => some true
  | some _ => some false
  | none => none
def tsz (P : Program) (t : TypeId) : Option Nat := (P.info? t).map (·.size)
def tzero (P : Program) (t : TypeId) : Option (List AV) := ((P.info? t).bind (·.zero)).map fun z => z.cells.toList.map AV.leaf
def foff (P : Program) (t : TypeId) (i : Nat) : Option Nat :=
  match P.underlying t with
  | some (.struct fs) => (fs[i]?).bind fun f => match tsz P f.type with
    | some (_ + 1) => some f.offset
    | _ => none
  | _ => none
def selem (P : Program) (t : TypeId) : Option TypeId :=
  match P.underlying t with
  | some (.slice e) => some e
  | _ => none

theorem RV.leaf {φ : Plc} {ok : Nat → Prop} {w : World} (x : Value) : RV φ ok w (AV.leaf x) x := by
  unfold AV.leaf
  split
  · exact .emp none
  · exact .v _
theorem RV.of {φ : Plc} {ok : Nat → Prop} {w : World} (x : Value) : RV φ ok w (AV.of x) x := by
  unfold AV.of
  split
  · rename_i cs
    refine .agg (by simp) fun i a y h1 h2 => ?_
    simp only [List.getElem?_map, Array.getElem?_toList, h2, Option.map_some, Option.some.injEq] at h1
    subst h1; exact .leaf y
  · exact .leaf x

theorem RV.single {φ : Plc} {ok : Nat → Prop} {w : World} {a : AV} {x : Value} (h : RV φ ok w a x) (hs : a.single = true) : one x = true := by
  cases h <;> first | rfl | (simp [AV.single] at hs; done) | (simpa [AV.single] using hs)

theorem one_cell {φ : Plc} {ok : Nat → Prop} {w : World} {a : AV} {x : Value} (h : RV φ ok w a x) (i : Nat) (c : AV) (y : Value) (h3 : [a][i]? = some c) (h4 : #[x][i]? = some y) : RV φ ok w c y := by
  cases i with
  | zero =>
    have e1 : a = c := by simpa using h3
    have e2 : x = y := by simpa using h4
    subst e1 e2; exact h
  | succ i => simp at h3

/-- The cells of an abstract value are the cells of the value. -/
theorem RV.cells {φ : Plc} {ok : Nat → Prop} {w : World} {a : AV} {x : Value} (h : RV φ ok w a x) (hs : ∀ c ∈ a.cells, c.single = true) :
    a.cells.length = x.cells.size ∧ ∀ (i : Nat) c y, a.cells[i]? = some c → x.cells[i]? = some y → RV φ ok w c y := by
  cases h with
  | agg hl h => exact ⟨hl, h⟩
  | tup hl h => simp [AV.cells, AV.single] at hs
  | dead => simp [AV.cells, AV.single] at hs
  | v x =>
    have h1 : one x = true := by simpa [AV.cells, AV.single] using hs
    have h2 : x.cells = #[x] := by cases x <;> first | rfl | (simp [one] at h1)
    rw [h2]
    refine ⟨rfl, fun i c y h3 h4 => ?_⟩
    cases i with
    | zero => simp [AV.cells] at h3 h4; subst h3 h4; exact .v _
    | succ i => simp [AV.cells] at h3
  | emp a => exact ⟨rfl, one_cell (.emp a)⟩
  | hs hl h => exact ⟨rfl, one_cell (.hs hl h)⟩
  | hp h => exact ⟨rfl, one_cell (.hp h)⟩
  | clo hl h => exact ⟨rfl, one_cell (.clo hl h)⟩
  | cs hl hz hb y hc ho hr => exact ⟨rfl, one_cell (.cs hl hz hb y hc ho hr)⟩
  | cp hz hb y hc ho hr => exact ⟨rfl, one_cell (.cp hz hb y hc ho hr)⟩

/-! ### What an operation does -/

def binv (op : BinOp) : Value → Value → Option Value
  | .int k a, .int k' b =>
    match op with
    | .shl => if 0 ≤ b then some (.int k (k.wrap (a * 2 ^ (min b.toNat k.bits)))) else none
    | .shr => if 0 ≤ b then some (.int k (a.fdiv (2 ^ (min b.toNat k.bits)))) else none
    | _ =>
      if k = k' then
        match op with
        | .add => some (.int k (k.wrap (a + b)))
        | .sub => some (.int k (k.wrap (a - b)))
        | .mul => some (.int k (k.wrap (a * b)))
        | .quo => if b = 0 then none else some (.int k (k.wrap (a.tdiv b)))
        | .rem => if b = 0 then none else some (.int k (a.tmod b))
        | .and => some (.int k (k.wrap (BitVec.ofInt k.bits a &&& BitVec.ofInt k.bits b).toNat))
        | .xor => some (.int k (k.wrap (BitVec.ofInt k.bits a ^^^ BitVec.ofInt k.bits b).toNat))
        | .or => some (.int k (k.wrap (BitVec.ofInt k.bits a ||| BitVec.ofInt k.bits b).toNat))
        | .eql => some (.bool (decide (a = b)))
        | .neq => some (.bool (!decide (a = b)))
        | .lss => some (.bool (decide (a < b)))
        | .leq => some (.bool (decide (a ≤ b)))
        | .gtr => some (.bool (decide (b < a)))
        | .geq => some (.bool (decide (b ≤ a)))
        | _ => none
      else none
  | .string a, .string b =>
    match op with
    | .add => if a.size + b.size ≤ 9223372036854775807 then some (.string (a ++ b)) else none
    | .eql => some (.bool (decide (a = b)))
    | .neq => some (.bool (!decide (a = b)))
    | _ => none
  | .bool a, .bool b =>
    match op with
    | .eql => some (.bool (a == b))
    | .neq => some (.bool (a != b))
    | _ => none
  | _, _ => none

def unv (op : UnOp) : Value → Option Value
  | .bool b => match op with | .not => some (.bool !b) | _ => none
  | .int k n => match op with | .neg => some (.int k (k.wrap (0 - n))) | _ => none
  | _ => none

theorem bytes_eq_iff (a b : ByteArray) : (a.toList == b.toList) = decide (a = b) := by
  rw [ByteArray.toList_eq, ByteArray.toList_eq]
  by_cases h : a = b
  · subst h; simp
  · simp only [h, decide_false, beq_eq_false_iff_ne]
    intro h'
    apply h
    cases a; cases b; simp only at h'; congr; exact Array.toList_inj.1 h'

theorem binv_sound {P : Program} {op : BinOp} {x y v : Value} (t : TypeId) (hb : (match x with | .bool _ => P.underlying t = some .bool | _ => True)) (h : binv op x y = some v) (w : World) : (binOp op t x y).run P w = .ok v w := by
  unfold binv at h
  split at h
  · rename_i k a k' b
    split at h
    · split at h
      · rename_i h0
        cases h
        simp only [binOp, Op.shift]
        rw [if_neg (by omega)]; rfl
      · cases h
    · split at h
      · rename_i h0
        cases h
        simp only [binOp, Op.shift]
        rw [if_neg (by omega)]; rfl
      · cases h
    · split at h
      · rename_i hk
        subst hk
        split at h <;> (try (cases h; done)) <;> (try (split at h <;> (try (cases h; done)))) <;> cases h <;>
          simp_all [binOp, Op.intArith, Op.intDiv, Op.intBits, Op.intCmp] <;> first | rfl | (by_cases hab : a = b <;> simp [hab])
      · cases h
  · rename_i a b
    split at h
    · split at h
      · rename_i h0; cases h
        simp only [binOp]
        exact run_string_add_sum (P := P) w a b h0
      · cases h
    · cases h; simp [binOp, Op.stringOp, bytes_eq_iff]
    · cases h; simp [binOp, Op.stringOp, bytes_eq_iff]
    · cases h
  · rename_i a b
    simp only at hb
    split at h
    · cases h
      show ((Op.equalIn (9999 + 1) t (.bool a) (.bool b)) >>= fun r => pure (Value.bool r)).run P w = _
      rw [Sem.run_bind, run_equalIn_bool' w 9999 t a b hb]; rfl
    · cases h
      show ((Op.equalIn (9999 + 1) t (.bool a) (.bool b)) >>= fun r => pure (Value.bool !r)).run P w = _
      rw [Sem.run_bind, run_equalIn_bool' w 9999 t a b hb]; rfl
    · cases h
  · cases h

theorem eqGuard_pure {op : BinOp} {t : TypeId} {x y : Operand} {a b v : Value} (h : binv op a b = some v) : eqGuard op t x y a b = pure () := by
  unfold binv at h
  cases op <;> (split at h <;> first | rfl | (cases h; done))

theorem unv_sound {P : Program} {op : UnOp} {x v : Value} (h : unv op x = some v) (w : World) : (Op.unary op x).run P w = .ok v w := by
  unfold unv at h
  split at h
  · split at h <;> cases h; simp [Op.unary]
  · split at h <;> cases h; simp [Op.unary, Op.intArith]
  · cases h

end Go.Proofs.Dv
