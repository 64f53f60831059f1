/- LOOPS AND FORGETTING, WALKED BY 'simp'. -/
import Derived.Test.YtpikidekdeglcaaAb27
namespace Go.Ab
open Go
noncomputable section
section
variable {C : Cx} {s s' : ASt} {K : ASt → Prop} {Q : Exit → ASt → Prop}

theorem condK_split {A B : Prop} {t : Bool} (h1 : t = true → A) (h2 : t = false → B) : condK A B (some (.c (.s (.bool t)))) := ⟨h1, h2⟩
theorem condK_dec {A B p : Prop} [Decidable p] (h1 : p → A) (h2 : ¬ p → B) : condK A B (some (.c (.s (.bool (decide p))))) := ⟨fun h => h1 (of_decide_eq_true h), fun h => h2 (of_decide_eq_false h)⟩
theorem wguard_split {d : Option Nat} {op : Op} {j : Nat} {want b : Bool} (h1 : b = want → wop C d op { s with t := upd s.t j (some (.c (.s (.bool want)))) } K)
    (h2 : b = (!want) → okDst C.N d ∧ K (ASt.del { s with t := upd s.t j (some (.c (.s (.bool (!want))))) } d)) : wguard C d op s K j want (some (.c (.s (.bool b)))) := ⟨h1, h2⟩
theorem gK_split {A B : ASt → Prop} {t : Nat} {want b : Bool} (h1 : b = want → A { s with t := upd s.t t (some (.c (.s (.bool want)))) }) (h2 : b = (!want) → B { s with t := upd s.t t (some (.c (.s (.bool (!want))))) }) : gK A B s t want (some (.c (.s (.bool b)))) := ⟨h1, h2⟩

def curO : Option (Option (TypeId × List AV)) → Nat → Prop
  | some (some (_, cs)), st => cs.length = st
  | _, _ => False
theorem Cur_eq {h : Heap} {id st : Nat} : Cur h id st = curO (h id) st := by
  unfold Cur
  generalize h id = x
  refine propext ⟨fun ⟨ty, cs, h1, h2⟩ => by rw [h1]; exact h2, fun h1 => ?_⟩
  unfold curO at h1
  split at h1
  · exact ⟨_, _, rfl, h1⟩
  · exact h1.elim
theorem curO_some {ty : TypeId} {cs : List AV} {st : Nat} : curO (some (some (ty, cs))) st = (cs.length = st) := rfl

def subIds : List Nat → List Nat → Prop
  | [], _ => True
  | i :: l, ids => ids.contains i = true ∧ subIds l ids
def keepT (s : ASt) (ids : List Nat) : List (Nat × AT) → Prop
  | [] => True
  | p :: l => s.t p.1 = some p.2 ∧ subIds p.2.refs ids ∧ keepT s ids l
def keepH (s : ASt) (ids : List Nat) : List (Nat × Option Blk) → Prop
  | [] => True
  | p :: l => s.h p.1 = some p.2 ∧ subIds (brefs p.2) ids ∧ keepH s ids l
theorem subIds_mem : ∀ {l ids : List Nat}, subIds l ids → ∀ i ∈ l, i ∈ ids
  | j :: l, ids, h, i, hi => by
    rcases List.mem_cons.1 hi with rfl | hi
    · simpa using h.1
    · exact subIds_mem h.2 i hi
theorem keepT_spec {ids : List Nat} : ∀ {l : List (Nat × AT)}, keepT s ids l → ∀ p ∈ l, s.t p.1 = some p.2 ∧ ∀ id ∈ p.2.refs, id ∈ ids
  | q :: l, h, p, hp => by
    rcases List.mem_cons.1 hp with rfl | hp
    · exact ⟨h.1, subIds_mem h.2.1⟩
    · exact keepT_spec h.2.2 p hp
theorem keepH_spec {ids : List Nat} : ∀ {l : List (Nat × Option Blk)}, keepH s ids l → ∀ p ∈ l, s.h p.1 = some p.2 ∧ ∀ id ∈ brefs p.2, id ∈ ids
  | q :: l, h, p, hp => by
    rcases List.mem_cons.1 hp with rfl | hp
    · exact ⟨h.1, subIds_mem h.2.1⟩
    · exact keepH_spec h.2.2 p hp

/-- what is kept, by lists -/
def ls (lt : List (Nat × AT)) (lh : List (Nat × Option Blk)) : ASt := ⟨mkT lt, mkH lh⟩
def keepOk (m0 : Nat) (s : ASt) (lt : List (Nat × AT)) (lh : List (Nat × Option Blk)) : Prop :=
  keepT s (lh.map (·.1)) lt ∧ keepH s (lh.map (·.1)) lh ∧ ((List.range m0).all fun i => (lh.map (·.1)).contains i) = true
theorem Sub.ls {lt : List (Nat × AT)} {lh : List (Nat × Option Blk)} (h : keepOk C.m0 s lt lh) : Sub C s (ls lt lh) :=
  Sub.keep lt lh (keepT_spec h.1) (keepH_spec h.2.1) (fun id hid _ => by
    have := List.all_eq_true.1 h.2.2 id (List.mem_range.2 hid)
    simpa using this)

theorem keepT_nil {ids : List Nat} : keepT s ids [] = True := rfl
theorem keepT_cons {ids : List Nat} {k : Nat} {x : AT} {l : List (Nat × AT)} : keepT s ids ((k, x) :: l) = (s.t k = some x ∧ subIds x.refs ids ∧ keepT s ids l) := rfl
theorem keepH_nil {ids : List Nat} : keepH s ids [] = True := rfl
theorem keepH_cons {ids : List Nat} {k : Nat} {x : Option Blk} {l : List (Nat × Option Blk)} : keepH s ids ((k, x) :: l) = (s.h k = some x ∧ subIds (brefs x) ids ∧ keepH s ids l) := rfl
theorem subIds_nil {ids : List Nat} : subIds [] ids = True := rfl
theorem subIds_cons {i : Nat} {l ids : List Nat} : subIds (i :: l) ids = (ids.contains i = true ∧ subIds l ids) := rfl
theorem mkT_cons {k : Nat} {x : AT} {l : List (Nat × AT)} : mkT ((k, x) :: l) = upd (mkT l) k (some x) := rfl
theorem mkH_cons {k : Nat} {x : Option Blk} {l : List (Nat × Option Blk)} : mkH ((k, x) :: l) = upd (mkH l) k (some x) := rfl
theorem mkT_nil {k : Nat} : mkT [] k = none := rfl
theorem mkH_nil {k : Nat} : mkH [] k = none := rfl
theorem ls_eq {lt : List (Nat × AT)} {lh : List (Nat × Option Blk)} : ls lt lh = ⟨mkT lt, mkH lh⟩ := rfl

@[congr] theorem LoopK_congr {α : Type} {st : α → ASt} {inv : α → Prop} {μ : α → Nat} {x : α} {e : Exit} (h : s = s') : LoopK C st inv μ x Q e s = LoopK C st inv μ x Q e s' := by rw [h]
theorem LoopK_ret {α : Type} {st : α → ASt} {inv : α → Prop} {μ : α → Nat} {x : α} : LoopK C st inv μ x Q .ret s = Q .ret s := rfl
theorem LoopK_exit {α : Type} {st : α → ASt} {inv : α → Prop} {μ : α → Nat} {x : α} {id : Nat} : LoopK C st inv μ x Q (.exit id) s = Q (.exit id) s := rfl
theorem LoopK_goto {α : Type} {st : α → ASt} {inv : α → Prop} {μ : α → Nat} {x : α} {id : Nat} : LoopK C st inv μ x Q (.goto id) s = Q (.goto id) s := rfl
theorem LoopK.next {α : Type} {st : α → ASt} {inv : α → Prop} {μ : α → Nat} {x : α} (x' : α) (h1 : inv x') (h2 : μ x' < μ x) (h3 : Sub C s (st x')) : LoopK C st inv μ x Q .normal s := ⟨x', h1, h2, h3⟩
theorem keepOk_eq {m0 : Nat} {lt : List (Nat × AT)} {lh : List (Nat × Option Blk)} : keepOk m0 s lt lh = (keepT s (lh.map (·.1)) lt ∧ keepH s (lh.map (·.1)) lh ∧ ((List.range m0).all fun i => (lh.map (·.1)).contains i) = true) := rfl
theorem brefs_some {ty : TypeId} {cs : List AV} : brefs (some (ty, cs)) = AV.refsL cs := rfl
theorem brefs_none : brefs none = [] := rfl
end
end
end Go.Ab
