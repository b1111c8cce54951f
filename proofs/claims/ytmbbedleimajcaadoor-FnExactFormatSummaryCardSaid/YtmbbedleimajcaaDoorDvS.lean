/- How a walk is reckoned: words for simp. -/
import Derived.Test.YtmbbedleimajcaaDoorDvN
namespace Go.Proofs.Dv
open Go Go.RowKit
set_option linter.unusedSimpArgs false
set_option linter.unusedVariables false

abbrev I (n : Int) : AV := .v (.int .i64 n)
abbrev U8 (n : Int) : AV := .v (.int .u8 n)
abbrev B (b : Bool) : AV := .v (.bool b)
abbrev S (l : List UInt8) : AV := .v (.string ⟨l.toArray⟩)

/-- An int64. -/
def In64 (n : Int) : Prop := -9223372036854775808 ≤ n ∧ n ≤ 9223372036854775807
theorem w64 {n : Int} (h0 : -9223372036854775808 ≤ n) (h1 : n ≤ 9223372036854775807) : IntKind.wrap .i64 n = n := by
  simp only [IntKind.wrap, IntKind.bits, IntKind.signed]
  by_cases h : n % 2 ^ 64 ≥ 2 ^ 63
  · simp only [h]; simp; omega
  · simp only [h]; simp; omega
theorem w8 {n : Int} (h0 : 0 ≤ n) (h1 : n ≤ 255) : IntKind.wrap .u8 n = n := by
  simp only [IntKind.wrap, IntKind.bits, IntKind.signed]
  simp
  omega

@[congr] theorem dwp_congr {P : Program} {c : Code} {K : Ex → St → Prop} {s s' : St} (h : s = s') : dwp P c K s = dwp P c K s' := by rw [h]
@[congr] theorem dops_congr {P : Program} {ops : Array Oper} {l : List Oper} {K : St → Prop} {s s' : St} (h : s = s') : dops P ops l K s = dops P ops l K s' := by rw [h]
@[congr] theorem dquiet_congr {P : Program} {ops : Array Oper} {l : List Oper} {K : St → Prop} {s s' : St} (h : s = s') : dquiet P ops l K s = dquiet P ops l K s' := by rw [h]
@[congr] theorem dop_congr {P : Program} {o : Oper} {K : St → Prop} {s s' : St} (h : s = s') : dop P o s K = dop P o s' K := by rw [h]
@[congr] theorem dloop_congr {body : (Ex → St → Prop) → St → Prop} {K : Ex → St → Prop} {s s' : St} (h : s = s') : dloop body K s = dloop body K s' := by rw [h]
@[congr] theorem Draws_congr {P : Program} {id : Nat} {ops : Array Oper} {K : St → Prop} {s s' : St} (h : s = s') : Draws P id ops K s = Draws P id ops K s' := by rw [h]
@[congr] theorem dcall_congr {P : Program} {f : FuncId} {args args' : List AV} {h h' : Heap} {K : AV → Heap → Prop} (h1 : args = args') (h2 : h = h') : dcall P f args h K = dcall P f args' h' K := by rw [h1, h2]

theorem binv_sadd {a b : List UInt8} (h : a.length + b.length ≤ 9223372036854775807) : binv .add (.string ⟨a.toArray⟩) (.string ⟨b.toArray⟩) = some (.string ⟨(a ++ b).toArray⟩) := by
  simp only [binv, ByteArray.size, List.size_toArray, h, if_true, Option.some.injEq, Value.string.injEq]
  apply ByteArray.ext
  simp [ByteArray.data_append]
theorem binv_seql {a b : List UInt8} : binv .eql (.string ⟨a.toArray⟩) (.string ⟨b.toArray⟩) = some (.bool (decide (a = b))) := by
  simp only [binv, Option.some.injEq, Value.bool.injEq, decide_eq_decide]
  constructor
  · intro h; have := congrArg (fun x : ByteArray => x.data.toList) h; simpa using this
  · intro h; rw [h]
theorem binv_sneq {a b : List UInt8} : binv .neq (.string ⟨a.toArray⟩) (.string ⟨b.toArray⟩) = some (.bool (!decide (a = b))) := by
  have h1 := binv_seql (a := a) (b := b)
  simp only [binv, Option.some.injEq, Value.bool.injEq] at h1 ⊢
  rw [h1]

theorem binv_iadd (k : IntKind) (a b : Int) : binv .add (.int k a) (.int k b) = some (.int k (k.wrap (a + b))) := by simp [binv]
theorem binv_isub (k : IntKind) (a b : Int) : binv .sub (.int k a) (.int k b) = some (.int k (k.wrap (a - b))) := by simp [binv]
theorem binv_imul (k : IntKind) (a b : Int) : binv .mul (.int k a) (.int k b) = some (.int k (k.wrap (a * b))) := by simp [binv]
theorem binv_iquo (k : IntKind) (a b : Int) : binv .quo (.int k a) (.int k b) = if b = 0 then none else some (.int k (k.wrap (a.tdiv b))) := by simp [binv]
theorem binv_irem (k : IntKind) (a b : Int) : binv .rem (.int k a) (.int k b) = if b = 0 then none else some (.int k (a.tmod b)) := by simp [binv]
theorem binv_ieql (k : IntKind) (a b : Int) : binv .eql (.int k a) (.int k b) = some (.bool (decide (a = b))) := by simp [binv]
theorem binv_ineq (k : IntKind) (a b : Int) : binv .neq (.int k a) (.int k b) = some (.bool (!decide (a = b))) := by simp [binv]
theorem binv_ilss (k : IntKind) (a b : Int) : binv .lss (.int k a) (.int k b) = some (.bool (decide (a < b))) := by simp [binv]
theorem binv_ileq (k : IntKind) (a b : Int) : binv .leq (.int k a) (.int k b) = some (.bool (decide (a ≤ b))) := by simp [binv]
theorem binv_igtr (k : IntKind) (a b : Int) : binv .gtr (.int k a) (.int k b) = some (.bool (decide (b < a))) := by simp [binv]
theorem binv_igeq (k : IntKind) (a b : Int) : binv .geq (.int k a) (.int k b) = some (.bool (decide (b ≤ a))) := by simp [binv]
theorem binv_ishl (k k' : IntKind) (a b : Int) : binv .shl (.int k a) (.int k' b) = if 0 ≤ b then some (.int k (k.wrap (a * 2 ^ (min b.toNat k.bits)))) else none := by simp [binv]
theorem binv_ishr (k k' : IntKind) (a b : Int) : binv .shr (.int k a) (.int k' b) = if 0 ≤ b then some (.int k (a.fdiv (2 ^ (min b.toNat k.bits)))) else none := by simp [binv]
theorem binv_iand (k : IntKind) (a b : Int) : binv .and (.int k a) (.int k b) = some (.int k (k.wrap (BitVec.ofInt k.bits a &&& BitVec.ofInt k.bits b).toNat)) := by simp [binv]
theorem binv_beql (a b : Bool) : binv .eql (.bool a) (.bool b) = some (.bool (a == b)) := by simp [binv]
theorem binv_bneq (a b : Bool) : binv .neq (.bool a) (.bool b) = some (.bool (a != b)) := by simp [binv]

theorem app_get (l t : List (Option Arr)) (i : Nat) : (l ++ t)[l.length + i]? = t[i]? := by rw [List.getElem?_append_right (by omega)]; congr 1; omega
theorem app_get0 (l t : List (Option Arr)) : (l ++ t)[l.length]? = t[0]? := by rw [List.getElem?_append_right (by omega)]; congr 1; omega
theorem app_set (l t : List (Option Arr)) (i : Nat) (x : Option Arr) : (l ++ t).set (l.length + i) x = l ++ t.set i x := by rw [List.set_append_right _ _ (by omega)]; congr 2; omega
theorem app_set0 (l t : List (Option Arr)) (x : Option Arr) : (l ++ t).set l.length x = l ++ t.set 0 x := by rw [List.set_append_right _ _ (by omega)]; congr 2; omega

@[simp] theorem of_bool (b : Bool) : AV.of (.bool b) = .v (.bool b) := rfl
@[simp] theorem of_int (k : IntKind) (n : Int) : AV.of (.int k n) = .v (.int k n) := rfl
@[simp] theorem of_string (s : ByteArray) : AV.of (.string s) = .v (.string s) := rfl
@[simp] theorem of_nilslice : AV.of (.slice none 0 0) = .emp := rfl
@[simp] theorem of_nilptr : AV.of (.pointer none) = .v (.pointer none) := rfl
@[simp] theorem of_nilIface : AV.of .nilIface = .v .nilIface := rfl
@[simp] theorem of_agg (l : Array Value) : AV.of (.agg l) = .agg (l.toList.map AV.leaf) := rfl
@[simp] theorem leaf_bool (b : Bool) : AV.leaf (.bool b) = .v (.bool b) := rfl
@[simp] theorem leaf_int (k : IntKind) (n : Int) : AV.leaf (.int k n) = .v (.int k n) := rfl
@[simp] theorem leaf_string (s : ByteArray) : AV.leaf (.string s) = .v (.string s) := rfl
@[simp] theorem leaf_nilslice : AV.leaf (.slice none 0 0) = .emp := rfl

end Go.Proofs.Dv
