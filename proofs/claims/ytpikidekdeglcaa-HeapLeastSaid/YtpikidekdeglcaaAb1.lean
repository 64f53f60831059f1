/- THE OPERATIONS THAT ONLY COMPUTE OR READ, on abstract states. -/
import Derived.Test.YtpikidekdeglcaaAb0
namespace Go.Ab
open Go

inductive TK where
  | int (k : IntKind) | bool | str | slice (e : TypeId) | array (n : Nat) (e : TypeId) | struct (fs : List (Nat × TypeId)) | ptr (e : TypeId) | func | other

def TK.agg : TK → Bool
  | .array .. | .struct .. => true
  | _ => false

structure TI where
  size : Nat
  bytes : Nat
  zero : List PV
  k : TK

def kOf : TypeDesc → TK
  | .int k => .int k
  | .bool => .bool
  | .string => .str
  | .slice e => .slice e
  | .array n e => .array n e
  | .struct fs => .struct (fs.toList.map fun f => (f.offset, f.type))
  | .pointer e => .ptr e
  | .func .. => .func
  | _ => .other

def tiOf (P : Program) (t : TypeId) : Option TI :=
  match P.info? t with
  | none => none
  | some i => match P.underlying t with
    | none => none
    | some d => match i.zero with
      | none => none
      | some z => if z.cells.toList.all Value.oneCell' then some { size := i.size, bytes := i.bytes, zero := z.cells.toList.map PV.one, k := kOf d } else none

theorem tiOf_spec {P : Program} {t : TypeId} {i : TI} (h : tiOf P t = some i) :
    ∃ (info : TypeInfo) (d : TypeDesc) (z : Value), P.info? t = some info ∧ P.underlying t = some d ∧ info.zero = some z ∧ info.size = i.size ∧ info.bytes = i.bytes ∧
      z.cells.toList.map PV.one = i.zero ∧ kOf d = i.k ∧ z.cells.toList.all Value.oneCell' = true := by
  unfold tiOf at h
  split at h
  · cases h
  · rename_i info hi
    split at h
    · cases h
    · rename_i d hd
      split at h
      · cases h
      · rename_i z hz
        split at h
        · rename_i hall
          cases h
          exact ⟨info, d, z, hi, hd, hz, rfl, rfl, rfl, rfl, hall⟩
        · cases h

section
variable {P : Program} {t : TypeId} {i : TI} (h : tiOf P t = some i) (w : World)
include h
theorem run_sizeOf' : (sizeOf t).run P w = .ok i.size w := by
  obtain ⟨info, d, z, h1, h2, h3, h4, h5, h6, h7, _⟩ := tiOf_spec h
  simp [sizeOf, typeInfo, h1, h4]
theorem run_isAgg' : (isAgg t).run P w = .ok i.k.agg w := by
  obtain ⟨info, d, z, h1, h2, h3, h4, h5, h6, h7, _⟩ := tiOf_spec h
  unfold isAgg
  rw [Sem.run_bind, run_underlying h2 w, ← h7]
  cases d <;> simp [kOf, TK.agg]
theorem run_zeroValue' : ∃ z, (∀ w : World, (zeroValue t).run P w = .ok z w) ∧ z.cells.toList.map PV.one = i.zero ∧ z.cells.toList.all Value.oneCell' = true := by
  obtain ⟨info, d, z, h1, h2, h3, h4, h5, h6, h7, h8⟩ := tiOf_spec h
  exact ⟨z, fun w => by simp [zeroValue, typeInfo, h1, h3], h6, h8⟩
theorem under_struct {fs : List (Nat × TypeId)} (hk : i.k = .struct fs) : ∃ fa : Array Field, P.underlying t = some (.struct fa) ∧ fa.toList.map (fun f => (f.offset, f.type)) = fs := by
  obtain ⟨info, d, z, h1, h2, h3, h4, h5, h6, h7, _⟩ := tiOf_spec h
  rw [hk] at h7
  cases d <;> simp [kOf] at h7
  exact ⟨_, h2, h7⟩
theorem under_slice {e : TypeId} (hk : i.k = .slice e) : P.underlying t = some (.slice e) := by
  obtain ⟨info, d, z, h1, h2, h3, h4, h5, h6, h7, _⟩ := tiOf_spec h
  rw [hk] at h7
  cases d <;> simp [kOf] at h7
  rw [h2, h7]
theorem under_array {n : Nat} {e : TypeId} (hk : i.k = .array n e) : P.underlying t = some (.array n e) := by
  obtain ⟨info, d, z, h1, h2, h3, h4, h5, h6, h7, _⟩ := tiOf_spec h
  rw [hk] at h7
  cases d <;> simp [kOf] at h7
  rw [h2, h7.1, h7.2]
theorem under_int {k : IntKind} (hk : i.k = .int k) : P.underlying t = some (.int k) := by
  obtain ⟨info, d, z, h1, h2, h3, h4, h5, h6, h7, _⟩ := tiOf_spec h
  rw [hk] at h7
  cases d <;> simp [kOf] at h7
  rw [h2, h7]
theorem under_str (hk : i.k = .str) : P.underlying t = some .string := by
  obtain ⟨info, d, z, h1, h2, h3, h4, h5, h6, h7, _⟩ := tiOf_spec h
  rw [hk] at h7
  cases d <;> simp [kOf] at h7
  rw [h2]
theorem under_bool (hk : i.k = .bool) : P.underlying t = some .bool := by
  obtain ⟨info, d, z, h1, h2, h3, h4, h5, h6, h7, _⟩ := tiOf_spec h
  rw [hk] at h7
  cases d <;> simp [kOf] at h7
  rw [h2]
theorem under_ptr {e : TypeId} (hk : i.k = .ptr e) : P.underlying t = some (.pointer e) := by
  obtain ⟨info, d, z, h1, h2, h3, h4, h5, h6, h7, _⟩ := tiOf_spec h
  rw [hk] at h7
  cases d <;> simp [kOf] at h7
  rw [h2, h7]
end

/-! ### operands -/
def evC : Value → Option AT
  | .agg cs => if cs.toList.all Value.oneCell' then some (.agg (cs.toList.map AV.s)) else none
  | .tuple _ => none
  | v => some (.c (AV.s v))

def ASt.ev (s : ASt) : Operand → Option AT
  | .tmp k => s.t k
  | .const v => evC v
  | .func f => some (.c (.fn f []))
  | .global _ => none

section
variable {P : Program} {w : World} {φ : Nat → Option Nat} {Im Th : Nat → Prop} {base N : Nat} {D : List Deferred} {s : ASt} {a : Act} {h : Heap}

theorem rel_ev (hr : RelS w φ Im Th base N D s a) {x : Operand} {t : AT} (hx : s.ev x = some t) : RelT w φ Im base s.h (a.eval x) t := by
  cases x with
  | tmp k => exact hr.tmps k t hx
  | const v =>
    simp only [ASt.ev] at hx
    show RelT w φ Im base s.h v t
    unfold evC at hx
    split at hx
    · rename_i cs
      split at hx
      · rename_i hall
        cases hx
        refine .agg (by simp) (fun i hi => ?_)
        simp only [List.length_map, Array.length_toList] at hi
        simp only [List.getElem_map, Array.getElem_toList]
        have : cs.getD i undef = cs[i] := by simp [hi]
        rw [this]
        refine RelC.s ?_
        rw [List.all_eq_true] at hall
        exact hall _ (by simp)
      · cases hx
    · cases hx
    · rename_i h1 h2
      cases hx
      refine .c (RelC.s ?_)
      cases v <;> first | rfl | (exact absurd rfl (h1 _)) | (exact absurd rfl (h2 _))
  | func f =>
    cases hx
    refine .c (.fn (by simp) (fun i hi => by simp at hi))
  | global g => cases hx

theorem RelC.s_inv {v u : Value} (h0 : RelC w φ Im base h v (.s u)) : v = u := by cases h0; rfl
theorem RelT.s_inv {v u : Value} (h0 : RelT w φ Im base h v (.c (.s u))) : v = u := by cases h0 with | c h1 => exact h1.s_inv
theorem RelT.agg_inv {v : Value} {cs : List AV} (h0 : RelT w φ Im base h v (.agg cs)) : ∃ arr : Array Value, v = .agg arr ∧ arr.size = cs.length ∧ ∀ (i : Nat) (hi : i < cs.length), RelC w φ Im base h (arr.getD i undef) cs[i] := by
  cases h0 with | agg hs hr => exact ⟨_, rfl, hs, hr⟩
theorem RelT.c_inv {v : Value} {x : AV} (h0 : RelT w φ Im base h v (.c x)) : RelC w φ Im base h v x := by cases h0 with | c h1 => exact h1
theorem RelT.tup_inv {v : Value} {l : List AT} (h0 : RelT w φ Im base h v (.tup l)) : ∃ arr : Array Value, v = .tuple arr ∧ arr.size = l.length ∧ ∀ (i : Nat) (hi : i < l.length), RelT w φ Im base h (arr.getD i undef) l[i] := by
  cases h0 with | tup hs hr => exact ⟨_, rfl, hs, hr⟩
/-- a slice that is read -/
theorem RelC.sl_inv {v : Value} {fr : Bool} {xs : List (List PV)} (h0 : RelC w φ Im base h v (.sl fr xs)) : RelP w (fun b => Im b ∧ (fr = true → base ≤ b)) v (.sl xs) := by cases h0 with | sl hp => exact hp
end
end Go.Ab
