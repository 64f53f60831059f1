/- THE VALUES OF OPERATIONS: what each comes to, and that the machine says so. -/
import Derived.Test.YtpikidekdeglcaaAb1
namespace Go.Ab
open Go

def intBin (op : BinOp) (k k' : IntKind) (a b : Int) : Prop × Value :=
  match op with
  | .add => (k = k', .int k (k.wrap (a + b)))
  | .sub => (k = k', .int k (k.wrap (a - b)))
  | .mul => (k = k', .int k (k.wrap (a * b)))
  | .quo => (k = k' ∧ b ≠ 0, .int k (k.wrap (a.tdiv b)))
  | .rem => (k = k' ∧ b ≠ 0, .int k (a.tmod b))
  | .and => (k = k', .int k (k.wrap (BitVec.ofInt k.bits a &&& BitVec.ofInt k.bits b).toNat))
  | .or => (k = k', .int k (k.wrap (BitVec.ofInt k.bits a ||| BitVec.ofInt k.bits b).toNat))
  | .xor => (k = k', .int k (k.wrap (BitVec.ofInt k.bits a ^^^ BitVec.ofInt k.bits b).toNat))
  | .andNot => (k = k', .int k (k.wrap (BitVec.ofInt k.bits a &&& ~~~ BitVec.ofInt k.bits b).toNat))
  | .shl => (0 ≤ b, .int k (k.wrap (a * 2 ^ (min b.toNat k.bits))))
  | .shr => (0 ≤ b, .int k (a.fdiv (2 ^ (min b.toNat k.bits))))
  | .eql => (k = k', .bool (a == b))
  | .neq => (k = k', .bool (a != b))
  | .lss => (k = k', .bool (decide (a < b)))
  | .leq => (k = k', .bool (decide (a ≤ b)))
  | .gtr => (k = k', .bool (decide (a > b)))
  | .geq => (k = k', .bool (decide (a ≥ b)))

def strBin (op : BinOp) (x y : ByteArray) : Prop × Value :=
  match op with
  | .add => (((x.size + y.size : Nat) : Int) ≤ 9223372036854775807, .string (x ++ y))
  | .eql => (True, .bool (x.toList == y.toList))
  | .neq => (True, .bool (!(x.toList == y.toList)))
  | .lss => (True, .bool (Op.bytesLess x.toList y.toList))
  | .leq => (True, .bool (Op.bytesLess x.toList y.toList || x.toList == y.toList))
  | .gtr => (True, .bool (!(Op.bytesLess x.toList y.toList || x.toList == y.toList)))
  | .geq => (True, .bool (!(Op.bytesLess x.toList y.toList)))
  | _ => (False, .bool false)

section
variable {P : Program} {w : World}

theorem run_intBin {op : BinOp} {k k' : IntKind} {a b : Int} (t : TypeId) (x y : Operand) (c : (intBin op k k' a b).1) :
    (do eqGuard op t x y (.int k a) (.int k' b); binOp op t (.int k a) (.int k' b) : Sem Value).run P w = .ok (intBin op k k' a b).2 w := by
  cases op <;> simp only [intBin] at c ⊢ <;>
    first
    | (subst c; simp [eqGuard, binOp, Op.intArith, Op.intBits, Op.intCmp]; done)
    | (obtain ⟨rfl, hb⟩ := c; simp [eqGuard, binOp, Op.intDiv, hb]; done)
    | (have hb : ¬ b < 0 := by omega
       simp [eqGuard, binOp, Op.shift, hb])

theorem run_strBin {op : BinOp} {a b : ByteArray} (t : TypeId) (x y : Operand) (c : (strBin op a b).1) :
    (do eqGuard op t x y (.string a) (.string b); binOp op t (.string a) (.string b) : Sem Value).run P w = .ok (strBin op a b).2 w := by
  cases op <;> simp only [strBin] at c ⊢ <;>
    first
    | exact c.elim
    | (simp [eqGuard, binOp, Op.stringOp]; done)
    | (have hb : ¬ ((a.size + b.size : Nat) : Int) > IntKind.i64.max := by simp only [IntKind.max]; simp [IntKind.bits]; omega
       simp only [eqGuard, binOp, Op.stringOp]
       rw [if_neg hb]
       simp)
end
end Go.Ab
