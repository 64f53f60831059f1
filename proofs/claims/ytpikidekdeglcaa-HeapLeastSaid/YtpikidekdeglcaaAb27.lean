/- WALKING WITH PLANS AT HAND. -/
import Derived.Test.YtpikidekdeglcaaAb26
namespace Go.Ab
open Go
noncomputable section

abbrev Plans := List (Nat × List Pl)
def PlanOk (ops : Array Oper) (l : List Pl) : Prop := (planOk ops l (Array.replicate ops.size false) [] && sitesOk ops && (l.length == ops.size)) = true
def planAt : Plans → Nat → List Pl
  | [], _ => []
  | p :: l, id => if p.1 = id then p.2 else planAt l id
theorem planAt_same {id : Nat} {p : List Pl} {l : Plans} : planAt ((id, p) :: l) id = p := by simp [planAt]
theorem planAt_other {id j : Nat} {p : List Pl} {l : Plans} (h : (j == id) = false) : planAt ((j, p) :: l) id = planAt l id := by
  have : ¬ j = id := by simpa using h
  simp [planAt, this]

def wpq (C : Cx) (pls : Plans) : Code → (Exit → ASt → Prop) → ASt → Prop
  | .skip, Q, s => Q .normal s
  | .label _, Q, s => Q .normal s
  | .ret, Q, s => Q .ret s
  | .exit id, Q, s => Q (.exit id) s
  | .goto l, Q, s => Q (.goto l) s
  | .seq x y, Q, s => wpq C pls x (SeqK (wpq C pls y Q) Q) s
  | .block id c, Q, s => wpq C pls c (BlkK id Q) s
  | .scope c, Q, s => wpq C pls c (ScpK Q) s
  | .cond c x y, Q, s => condK (wpq C pls x Q s) (wpq C pls y Q s) (s.ev c)
  | .region id ops d, Q, s => match d with
    | false => wops C ops.toList ops.toList s (Q .normal)
    | true => PlanOk ops (planAt pls id) ∧ wrX C ops.toList (Q .normal) (planAt pls id) [] [] s
  | .loop c, Q, s => WP C (.loop c) Q s
  | .rangeFunc g ps x c, Q, s => WP C (.rangeFunc g ps x c) Q s
  | .refuse _, _, _ => False

section
variable {C : Cx} {s s' : ASt} {K : ASt → Prop} {Q : Exit → ASt → Prop} {pls : Plans}

theorem WP.ofq {c : Code} (hm : C.P.follows .mixedOrders = true) : ∀ {Q : Exit → ASt → Prop} {s : ASt}, wpq C pls c Q s → WP C c Q s := by
  induction c with
  | skip => exact fun h => WP.of h
  | label l => exact fun h => WP.of h
  | ret => exact fun h => WP.of h
  | exit id => exact fun h => WP.of h
  | goto l => exact fun h => WP.of h
  | seq x y ihx ihy =>
    intro Q s h
    exact .seq (WP.mono (ihx h) fun e s hq => by cases e <;> first | exact ihy hq | exact hq)
  | block id c ih => exact fun h => .block (ih h)
  | scope c ih => exact fun h => .scope (ih h)
  | cond c x y ihx ihy =>
    intro Q s h
    unfold wpq condK at h
    split at h
    · rename_i t ht; exact .cond ht (fun e => ihx (h.1 e)) (fun e => ihy (h.2 e))
    · exact h.elim
  | region id ops d =>
    intro Q s h
    cases d with
    | true => exact WP.planX (planAt pls id) hm h.1 h.2
    | false => exact WP.of h
  | loop c ih => exact fun h => h
  | rangeFunc g ps x c ih1 ih2 => exact fun h => h
  | refuse why => exact fun h => h.elim

@[congr] theorem wpq_congr {c : Code} (h : s = s') : wpq C pls c Q s = wpq C pls c Q s' := by rw [h]
theorem wpq_skip : wpq C pls .skip Q s = Q .normal s := rfl
theorem wpq_label {l : Nat} : wpq C pls (.label l) Q s = Q .normal s := rfl
theorem wpq_ret : wpq C pls .ret Q s = Q .ret s := rfl
theorem wpq_exit {id : Nat} : wpq C pls (.exit id) Q s = Q (.exit id) s := rfl
theorem wpq_goto {l : Nat} : wpq C pls (.goto l) Q s = Q (.goto l) s := rfl
theorem wpq_seq {x y : Code} : wpq C pls (.seq x y) Q s = wpq C pls x (SeqK (wpq C pls y Q) Q) s := rfl
theorem wpq_block {id : Nat} {c : Code} : wpq C pls (.block id c) Q s = wpq C pls c (BlkK id Q) s := rfl
theorem wpq_scope {c : Code} : wpq C pls (.scope c) Q s = wpq C pls c (ScpK Q) s := rfl
theorem wpq_region {id : Nat} {ops : Array Oper} : wpq C pls (.region id ops false) Q s = wops C ops.toList ops.toList s (Q .normal) := rfl
theorem wpq_drawn {id : Nat} {ops : Array Oper} : wpq C pls (.region id ops true) Q s = (PlanOk ops (planAt pls id) ∧ wrX C ops.toList (Q .normal) (planAt pls id) [] [] s) := rfl
theorem wpq_loop {c : Code} : wpq C pls (.loop c) Q s = WP C (.loop c) Q s := rfl
theorem wpq_cond {c : Operand} {x y : Code} : wpq C pls (.cond c x y) Q s = condK (wpq C pls x Q s) (wpq C pls y Q s) (s.ev c) := rfl
@[congr] theorem PlanOk_congr {ops : Array Oper} {l l' : List Pl} (h : l = l') : PlanOk ops l = PlanOk ops l' := by rw [h]
@[congr] theorem planAt_congr {id : Nat} : planAt pls id = planAt pls id := rfl

/-- a function that returns no block of its own -/
theorem AC.plainq {P : Program} {g : FuncId} {fn : Func} {c : Code} {N : Nat} {rs : List ResultVar} {args : List AT} {R : AT → List (Option Blk) → Prop} (pls : Plans) (hm : P.follows .mixedOrders = true) (hf : P.funcs[g]? = some fn) (hb : fn.body = some c)
    (hname : (fn.name == "runtime.NumGoroutine") = false) (hN : fn.ntmps = N) (hrs : fn.results.toList = rs) (hn : args.length ≤ N)
    (h : wpq ⟨P, N, 0⟩ pls c (RetP ⟨P, N, 0⟩ rs R) ⟨fun k => args[k]?, fun _ => none⟩) : AC P g args [] R := by
  subst hN; subst hrs
  exact AC.intro hf hb hname hn (Nat.zero_le _) (WP.mono (WP.ofq hm h) fun _ _ h => h.k)
theorem AC.walkq {P : Program} {g : FuncId} {fn : Func} {c : Code} {N : Nat} {rs : List ResultVar} {args : List AT} {l : List (Option Blk)} {R : AT → List (Option Blk) → Prop} (pls : Plans) (hm : P.follows .mixedOrders = true) (hf : P.funcs[g]? = some fn) (hb : fn.body = some c)
    (hname : (fn.name == "runtime.NumGoroutine") = false) (hN : fn.ntmps = N) (hrs : fn.results.toList = rs) (hn : args.length ≤ N) (h16 : l.length ≤ 16)
    (h : wpq ⟨P, N, l.length⟩ pls c (RetK ⟨P, N, l.length⟩ rs R) ⟨fun k => args[k]?, hL l⟩) : AC P g args l R := by
  subst hN; subst hrs
  exact AC.intro hf hb hname hn h16 (WP.ofq hm h)
end
end
end Go.Ab
