/- WALKING BY 'simp', WITH WHAT LIES AHEAD KEPT SHUT: what is handed as an instance is not looked into. -/
import Derived.Test.YtpikidekdeglcaaAb28
namespace Go.Ab
open Go
noncomputable section

class KK where k : ASt → Prop
class QQ where q : Exit → ASt → Prop
class OO where l : List Oper
class CC where c : Code
class PP where p : Plans
class LL where l : List Pl
class AA where a : Prop
class WW where w : RM → RM → ASt → Prop
class BB where b : Op

def xs (C : Cx) (s : ASt) [pl : PP] [c : CC] [Q : QQ] : Prop := wpq C pl.p c.c Q.q s
def xo (C : Cx) (s : ASt) [all : OO] [l : OO] [K : KK] : Prop := wops C all.l l.l s K.k
def xk (s : ASt) [K : KK] : Prop := K.k s
def xe (C : Cx) (d : Option Nat) (s : ASt) (e : Eff) [K : KK] : Prop := runEff C d s K.k e
def xcall (C : Cx) (d : Option Nat) (s : ASt) (f : Option AT) (as : Option (List AT)) [K : KK] : Prop := runCall C s d K.k f as
def xok (C : Cx) (g : FuncId) (as : List AT) (d : Option Nat) (s : ASt) [K : KK] : Prop := CallOk C g as d s K.k
def xw (C : Cx) (d : Option Nat) (s : ASt) [op : BB] [K : KK] : Prop := wop C d op.b s K.k
def xg (C : Cx) (d : Option Nat) (s : ASt) (t : Nat) (want : Bool) (x : Option AT) [op : BB] [K : KK] : Prop := wguard C d op.b s K.k t want x
def xg0 (C : Cx) (d : Option Nat) (s : ASt) (want : Bool) (t : Option Nat) [op : BB] [K : KK] : Prop := guardK C d op.b s K.k want t
def xq (e : Exit) (s : ASt) [Q : QQ] : Prop := Q.q e s
def xc (x : Option AT) [A : AA] [B : AA] : Prop := condK A.a B.a x
def xl (C : Cx) (s : ASt) [c : CC] [Q : QQ] : Prop := WP C c.c Q.q s
def xplan (C : Cx) (R M : RM) (s : ASt) [all : OO] [l : LL] [K : KK] : Prop := wrX C all.l K.k l.l R M s
def xpok (ops : Array Oper) (l : List Pl) : Prop := PlanOk ops l
def x1 (C : Cx) (i : Nat) (cs : List Nat) (heavy flag : Bool) (R M : RM) (s : ASt) (o : Option Oper) [all : OO] [l : LL] [K : KK] : Prop := wr1 C all.l K.k i heavy flag cs l.l R M s o
def xf (s : ASt) (t : Nat) (want : Bool) (x : Option AT) [A : KK] [B : KK] : Prop := gK A.k B.k s t want x
def xf0 (s : ASt) (want : Bool) (t : Option Nat) [A : KK] [B : KK] : Prop := gJ A.k B.k s want t
def xl1 (C : Cx) (d : Option Nat) (R M : RM) (s : ASt) (e : Eff) [W : WW] : Prop := light1 C W.w d R M s e
def xl2 (C : Cx) (d : Option Nat) (i : Nat) (refs cR cM : List Nat) (R M : RM) (s : ASt) (e : Eff) [W : WW] : Prop := light2 C W.w d i refs cR cM R M s e
def xh (C : Cx) (S M : List Nat) (d : Option Nat) (s : ASt) (e : Eff) [K : KK] : Prop := heavyK C S M d K.k s e
def xcallM (C : Cx) (S M : List Nat) (d : Option Nat) (s : ASt) (f : Option AT) (as : Option (List AT)) [K : KK] : Prop := callM C S M s d K.k f as
def xokM (C : Cx) (S M : List Nat) (g : FuncId) (as : List AT) (d : Option Nat) (s : ASt) [K : KK] : Prop := CallSyn2 C S M g as d s K.k
def xwM (C : Cx) (S M : List Nat) (d : Option Nat) (s : ASt) [op : BB] [K : KK] : Prop := wopM C S M d op.b s K.k
def dstO (j : Nat) [all : OO] : Option Nat := dstAt all.l j
def opAt (j : Nat) [all : OO] : Option Oper := all.l[j]?
def xnoM (ids : List Nat) (s : ASt) [op : BB] : Prop := noM ids s op.b.operands.toList
def xrefs (s : ASt) [op : BB] : List Nat := lookRefs s op.b
def xs2 (C : Cx) (d : Option Nat) (i : Nat) (refs : List Nat) (R M : RM) (s : ASt) [W : WW] : Prop := skip2 C W.w d i refs R M s
def xpok' (l : List Pl) [o : OO] : Prop := PlanOk o.l.toArray l
def xplan0 (C : Cx) (s : ASt) (l : List Pl) [all : OO] [K : KK] : Prop := wrX C all.l K.k l [] [] s
def xW (R M : RM) (s : ASt) [W : WW] : Prop := W.w R M s
def xEff (P : Program) (s : ASt) (d : Nat) [op : BB] : Eff := eff P s d op.b

section
variable {C : Cx} {s : ASt} {K : KK} {Q : QQ} {pl : PP} {all l : OO} {d : Option Nat}

theorem xs_intro {pls : Plans} {c : Code} {Q : Exit → ASt → Prop} (h : @xs C s ⟨pls⟩ ⟨c⟩ ⟨Q⟩) : wpq C pls c Q s := h

theorem xs_skip : @xs C s pl ⟨.skip⟩ Q = @xq .normal s Q := rfl
theorem xs_label {l : Nat} : @xs C s pl ⟨.label l⟩ Q = @xq .normal s Q := rfl
theorem xs_ret : @xs C s pl ⟨.ret⟩ Q = @xq .ret s Q := rfl
theorem xs_exit {id : Nat} : @xs C s pl ⟨.exit id⟩ Q = @xq (.exit id) s Q := rfl
theorem xs_goto {id : Nat} : @xs C s pl ⟨.goto id⟩ Q = @xq (.goto id) s Q := rfl
theorem xs_seq {x y : Code} : @xs C s pl ⟨.seq x y⟩ Q = @xs C s pl ⟨x⟩ ⟨SeqK (wpq C pl.p y Q.q) Q.q⟩ := rfl
theorem xs_block {id : Nat} {c : Code} : @xs C s pl ⟨.block id c⟩ Q = @xs C s pl ⟨c⟩ ⟨BlkK id Q.q⟩ := rfl
theorem xs_scope {c : Code} : @xs C s pl ⟨.scope c⟩ Q = @xs C s pl ⟨c⟩ ⟨ScpK Q.q⟩ := rfl
theorem xs_cond {c : Operand} {x y : Code} : @xs C s pl ⟨.cond c x y⟩ Q = @xc (s.ev c) ⟨wpq C pl.p x Q.q s⟩ ⟨wpq C pl.p y Q.q s⟩ := rfl
theorem xs_region {id : Nat} {ops : Array Oper} : @xs C s pl ⟨.region id ops false⟩ Q = @xo C s ⟨ops.toList⟩ ⟨ops.toList⟩ ⟨Q.q .normal⟩ := rfl
theorem xs_drawn {id : Nat} {ops : Array Oper} : @xs C s pl ⟨.region id ops true⟩ Q = (@xpok' (planAt pl.p id) ⟨ops.toList⟩ ∧ @xplan0 C s (planAt pl.p id) ⟨ops.toList⟩ ⟨Q.q .normal⟩) := by
  show (PlanOk ops _ ∧ _) = _
  rfl
theorem xplan0_eq {p : Pl} {l : List Pl} : @xplan0 C s (p :: l) all K = @xplan C [] [] s all ⟨p :: l⟩ K := rfl
theorem xs_loop {c : Code} : @xs C s pl ⟨.loop c⟩ Q = @xl C s ⟨.loop c⟩ Q := rfl

-- what comes behind
theorem xq_seq {x : Code} {pls : Plans} {q : Exit → ASt → Prop} : @xq .normal s ⟨SeqK (wpq C pls x q) q⟩ = @xs C s ⟨pls⟩ ⟨x⟩ ⟨q⟩ := rfl
theorem xq_seq_ret {wb : ASt → Prop} {q : Exit → ASt → Prop} : @xq .ret s ⟨SeqK wb q⟩ = @xq .ret s ⟨q⟩ := rfl
theorem xq_seq_exit {id : Nat} {wb : ASt → Prop} {q : Exit → ASt → Prop} : @xq (.exit id) s ⟨SeqK wb q⟩ = @xq (.exit id) s ⟨q⟩ := rfl
theorem xq_seq_goto {id : Nat} {wb : ASt → Prop} {q : Exit → ASt → Prop} : @xq (.goto id) s ⟨SeqK wb q⟩ = @xq (.goto id) s ⟨q⟩ := rfl
theorem xq_blk {id : Nat} {q : Exit → ASt → Prop} : @xq .normal s ⟨BlkK id q⟩ = @xq .normal s ⟨q⟩ := rfl
theorem xq_blk_ret {id : Nat} {q : Exit → ASt → Prop} : @xq .ret s ⟨BlkK id q⟩ = @xq .ret s ⟨q⟩ := rfl
theorem xq_blk_goto {id l : Nat} {q : Exit → ASt → Prop} : @xq (.goto l) s ⟨BlkK id q⟩ = @xq (.goto l) s ⟨q⟩ := rfl
theorem xq_blk_same {id : Nat} {q : Exit → ASt → Prop} : @xq (.exit id) s ⟨BlkK id q⟩ = @xq .normal s ⟨q⟩ := BlkK_same
theorem xq_blk_other {id id' : Nat} {q : Exit → ASt → Prop} (h : (id' == id) = false) : @xq (.exit id') s ⟨BlkK id q⟩ = @xq (.exit id') s ⟨q⟩ := BlkK_other (by simpa using h)
theorem xq_scp {q : Exit → ASt → Prop} : @xq .normal s ⟨ScpK q⟩ = @xq .normal s ⟨q⟩ := rfl
theorem xq_scp_ret {q : Exit → ASt → Prop} : @xq .ret s ⟨ScpK q⟩ = @xq .ret s ⟨q⟩ := rfl
theorem xq_scp_exit {id : Nat} {q : Exit → ASt → Prop} : @xq (.exit id) s ⟨ScpK q⟩ = @xq (.exit id) s ⟨q⟩ := rfl
theorem xq_loop_ret {α : Type} {st : α → ASt} {inv : α → Prop} {μ : α → Nat} {x : α} {q : Exit → ASt → Prop} : @xq .ret s ⟨LoopK C st inv μ x q⟩ = @xq .ret s ⟨q⟩ := rfl
theorem xq_loop_exit {α : Type} {st : α → ASt} {inv : α → Prop} {μ : α → Nat} {x : α} {q : Exit → ASt → Prop} {id : Nat} : @xq (.exit id) s ⟨LoopK C st inv μ x q⟩ = @xq (.exit id) s ⟨q⟩ := rfl
theorem xq_loop_goto {α : Type} {st : α → ASt} {inv : α → Prop} {μ : α → Nat} {x : α} {q : Exit → ASt → Prop} {id : Nat} : @xq (.goto id) s ⟨LoopK C st inv μ x q⟩ = @xq (.goto id) s ⟨q⟩ := rfl
theorem xq_loop_next {α : Type} {st : α → ASt} {inv : α → Prop} {μ : α → Nat} {x : α} {q : Exit → ASt → Prop} (x' : α) (h1 : inv x') (h2 : μ x' < μ x) (h3 : Sub C s (st x')) : @xq .normal s ⟨LoopK C st inv μ x q⟩ := ⟨x', h1, h2, h3⟩
theorem xq_RetP {rs : List ResultVar} {R : AT → List (Option Blk) → Prop} : @xq .ret s ⟨RetP C rs R⟩ = RetE C R (resOf C.P s rs) := rfl
theorem xq_RetP_normal {rs : List ResultVar} {R : AT → List (Option Blk) → Prop} : @xq .normal s ⟨RetP C rs R⟩ = RetE C R (resOf C.P s rs) := rfl
theorem xq_RetK {rs : List ResultVar} {R : AT → List (Option Blk) → Prop} (h : RetK C rs R .ret s) : @xq .ret s ⟨RetK C rs R⟩ := h
theorem xq_RetK_normal {rs : List ResultVar} {R : AT → List (Option Blk) → Prop} : @xq .normal s ⟨RetK C rs R⟩ = @xq .ret s ⟨RetK C rs R⟩ := rfl

-- tests
theorem xc_true {A B : Prop} : @xc (some (.c (.s (.bool true)))) ⟨A⟩ ⟨B⟩ = A := condK_true
theorem xc_false {A B : Prop} : @xc (some (.c (.s (.bool false)))) ⟨A⟩ ⟨B⟩ = B := condK_false
theorem xc_true' {pls : Plans} {x : Code} {q : Exit → ASt → Prop} {B : AA} : @xc (some (.c (.s (.bool true)))) ⟨wpq C pls x q s⟩ B = @xs C s ⟨pls⟩ ⟨x⟩ ⟨q⟩ := condK_true
theorem xc_false' {pls : Plans} {x : Code} {q : Exit → ASt → Prop} {A : AA} : @xc (some (.c (.s (.bool false)))) A ⟨wpq C pls x q s⟩ = @xs C s ⟨pls⟩ ⟨x⟩ ⟨q⟩ := condK_false
theorem xc_split {pls : Plans} {x y : Code} {q : Exit → ASt → Prop} {t : Bool} (h1 : t = true → @xs C s ⟨pls⟩ ⟨x⟩ ⟨q⟩) (h2 : t = false → @xs C s ⟨pls⟩ ⟨y⟩ ⟨q⟩) : @xc (some (.c (.s (.bool t)))) ⟨wpq C pls x q s⟩ ⟨wpq C pls y q s⟩ := ⟨h1, h2⟩
theorem xc_dec {pls : Plans} {x y : Code} {q : Exit → ASt → Prop} {p : Prop} [Decidable p] (h1 : p → @xs C s ⟨pls⟩ ⟨x⟩ ⟨q⟩) (h2 : ¬ p → @xs C s ⟨pls⟩ ⟨y⟩ ⟨q⟩) : @xc (some (.c (.s (.bool (decide p))))) ⟨wpq C pls x q s⟩ ⟨wpq C pls y q s⟩ :=
  ⟨fun h => h1 (of_decide_eq_true h), fun h => h2 (of_decide_eq_false h)⟩

-- operations one behind the other
theorem xo_nil : @xo C s all ⟨[]⟩ K = @xk s K := rfl
theorem xk_q {e : Exit} {q : Exit → ASt → Prop} : @xk s ⟨q e⟩ = @xq e s ⟨q⟩ := rfl
theorem xk_o {al r : List Oper} {k : ASt → Prop} : @xk s ⟨fun s' => wops C al r s' k⟩ = @xo C s ⟨al⟩ ⟨r⟩ ⟨k⟩ := rfl
theorem xo_none {r : List Oper} {op : Op} {ty : TypeId} {pos : String} {after : Array Edge} :
    @xo C s all ⟨{ dst := d, op := op, type := ty, pos := pos, after := after, guard := none } :: r⟩ K = @xw C d s ⟨op⟩ ⟨fun s' => wops C all.l r s' K.k⟩ := rfl
theorem xo_some {r : List Oper} {op : Op} {ty : TypeId} {pos : String} {after : Array Edge} {j : Nat} {want : Bool} :
    @xo C s all ⟨{ dst := d, op := op, type := ty, pos := pos, after := after, guard := some (j, want) } :: r⟩ K = @xg0 C d s want (@dstO j all) ⟨op⟩ ⟨fun s' => wops C all.l r s' K.k⟩ := wops_some
theorem dstO_zero {op : Op} {ty : TypeId} {pos : String} {after : Array Edge} {g : Option (Nat × Bool)} {l : List Oper} : @dstO 0 ⟨{ dst := d, op := op, type := ty, pos := pos, after := after, guard := g } :: l⟩ = d := rfl
theorem dstO_succ {k : Nat} {o : Oper} {l : List Oper} : @dstO (k + 1) ⟨o :: l⟩ = @dstO k ⟨l⟩ := rfl
theorem xg0_some {B : BB} {want : Bool} {t : Nat} : @xg0 C d s want (some t) B K = @xg C d s t want (s.t t) B K := rfl
theorem xg_sk {B : BB} {t : Nat} {want : Bool} : @xg C d s t want (some (.tup [])) B K = (okDst C.N d ∧ @xk (s.del d) K) := rfl
theorem xg_tt {B : BB} {t : Nat} : @xg C d s t true (some (.c (.s (.bool true)))) B K = @xw C d ⟨upd s.t t (some (.c (.s (.bool true)))), s.h⟩ B K := wguard_lit_yes
theorem xg_ff {B : BB} {t : Nat} : @xg C d s t false (some (.c (.s (.bool false)))) B K = @xw C d ⟨upd s.t t (some (.c (.s (.bool false)))), s.h⟩ B K := wguard_lit_yes
theorem xg_tf {B : BB} {t : Nat} : @xg C d s t true (some (.c (.s (.bool false)))) B K = (okDst C.N d ∧ @xk (ASt.del ⟨upd s.t t (some (.c (.s (.bool false)))), s.h⟩ d) K) := wguard_tf
theorem xg_ft {B : BB} {t : Nat} : @xg C d s t false (some (.c (.s (.bool true)))) B K = (okDst C.N d ∧ @xk (ASt.del ⟨upd s.t t (some (.c (.s (.bool true)))), s.h⟩ d) K) := wguard_ft
theorem xg_split {B : BB} {t : Nat} {want b : Bool} (h1 : b = want → @xw C d ⟨upd s.t t (some (.c (.s (.bool want)))), s.h⟩ B K) (h2 : b = (!want) → okDst C.N d ∧ @xk (ASt.del ⟨upd s.t t (some (.c (.s (.bool (!want))))), s.h⟩ d) K) : @xg C d s t want (some (.c (.s (.bool b)))) B K := ⟨h1, h2⟩
theorem xw_move {x : Operand} : @xw C d s ⟨.move x⟩ K = @xe C d s (effMove (s.ev x)) K := rfl
theorem xEff_move {P : Program} {n0 : Nat} {x : Operand} : @xEff P s n0 ⟨.move x⟩ = (effMove (s.ev x)) := rfl
theorem xw_assign {x : Operand} : @xw C d s ⟨.assign x⟩ K = @xe C d s (effMove (s.ev x)) K := rfl
theorem xEff_assign {P : Program} {n0 : Nat} {x : Operand} : @xEff P s n0 ⟨.assign x⟩ = (effMove (s.ev x)) := rfl
theorem xw_pick {c x y : Operand} : @xw C d s ⟨.pick c x y⟩ K = @xe C d s (effPick (s.ev c) (s.ev x) (s.ev y)) K := rfl
theorem xEff_pick {P : Program} {n0 : Nat} {c x y : Operand} : @xEff P s n0 ⟨.pick c x y⟩ = (effPick (s.ev c) (s.ev x) (s.ev y)) := rfl
theorem xw_alloc {t : TypeId} : @xw C d s ⟨.alloc t⟩ K = @xe C d s (effAlloc C.P s.h (d.getD 0) t) K := rfl
theorem xEff_alloc {P : Program} {n0 : Nat} {t : TypeId} : @xEff P s n0 ⟨.alloc t⟩ = (effAlloc P s.h (n0) t) := rfl
theorem xw_box {t : TypeId} {x : Operand} : @xw C d s ⟨.box t x⟩ K = @xe C d s (effBox s.h (d.getD 0) t (s.ev x)) K := rfl
theorem xEff_box {P : Program} {n0 : Nat} {t : TypeId} {x : Operand} : @xEff P s n0 ⟨.box t x⟩ = (effBox s.h (n0) t (s.ev x)) := rfl
theorem xw_build {t : TypeId} {ps : Array (Nat × Operand)} : @xw C d s ⟨.build t ps⟩ K = @xe C d s (effBuild C.P t (evParts s ps.toList)) K := rfl
theorem xEff_build {P : Program} {n0 : Nat} {t : TypeId} {ps : Array (Nat × Operand)} : @xEff P s n0 ⟨.build t ps⟩ = (effBuild P t (evParts s ps.toList)) := rfl
theorem xw_buildSlice {t : TypeId} {n : Nat} {ps : Array (Nat × Operand)} : @xw C d s ⟨.buildSlice t n ps⟩ K = @xe C d s (effBuildSlice C.P s.h (d.getD 0) t n (evParts s ps.toList)) K := rfl
theorem xEff_buildSlice {P : Program} {n0 : Nat} {t : TypeId} {n : Nat} {ps : Array (Nat × Operand)} : @xEff P s n0 ⟨.buildSlice t n ps⟩ = (effBuildSlice P s.h (n0) t n (evParts s ps.toList)) := rfl
theorem xw_load {t : TypeId} {x : Operand} : @xw C d s ⟨.load t x⟩ K = @xe C d s (effLoad C.P s.h t (s.ev x)) K := rfl
theorem xEff_load {P : Program} {n0 : Nat} {t : TypeId} {x : Operand} : @xEff P s n0 ⟨.load t x⟩ = (effLoad P s.h t (s.ev x)) := rfl
theorem xw_store {t : TypeId} {x y : Operand} : @xw C d s ⟨.store t x y⟩ K = @xe C d s (effStore C.P s.h t (s.ev x) (s.ev y)) K := rfl
theorem xEff_store {P : Program} {n0 : Nat} {t : TypeId} {x y : Operand} : @xEff P s n0 ⟨.store t x y⟩ = (effStore P s.h t (s.ev x) (s.ev y)) := rfl
theorem xw_nilCheck {x : Operand} : @xw C d s ⟨.nilCheck x⟩ K = @xe C d s (effNil s.h (s.ev x)) K := rfl
theorem xEff_nilCheck {P : Program} {n0 : Nat} {x : Operand} : @xEff P s n0 ⟨.nilCheck x⟩ = (effNil s.h (s.ev x)) := rfl
theorem xw_binOp {op : BinOp} {t u : TypeId} {x y : Operand} : @xw C d s ⟨.binOp op t x y u⟩ K = @xe C d s (effBin C.P op t (s.ev x) (s.ev y)) K := rfl
theorem xEff_binOp {P : Program} {n0 : Nat} {op : BinOp} {t u : TypeId} {x y : Operand} : @xEff P s n0 ⟨.binOp op t x y u⟩ = (effBin P op t (s.ev x) (s.ev y)) := rfl
theorem xw_unOp {op : UnOp} {t : TypeId} {x : Operand} : @xw C d s ⟨.unOp op t x⟩ K = @xe C d s (effUn op (s.ev x)) K := rfl
theorem xEff_unOp {P : Program} {n0 : Nat} {op : UnOp} {t : TypeId} {x : Operand} : @xEff P s n0 ⟨.unOp op t x⟩ = (effUn op (s.ev x)) := rfl
theorem xw_convert {t u : TypeId} {x : Operand} : @xw C d s ⟨.convert t u x⟩ K = @xe C d s (effConv C.P t u (s.ev x)) K := rfl
theorem xEff_convert {P : Program} {n0 : Nat} {t u : TypeId} {x : Operand} : @xEff P s n0 ⟨.convert t u x⟩ = (effConv P t u (s.ev x)) := rfl
theorem xw_makeFunc {f : Fn} {fs cs : Array Operand} : @xw C d s ⟨.makeFunc f fs cs⟩ K = @xe C d s (if fs.size = 0 then effFunc f (evCaps s cs.toList) else .bad) K := rfl
theorem xEff_makeFunc {P : Program} {n0 : Nat} {f : Fn} {fs cs : Array Operand} : @xEff P s n0 ⟨.makeFunc f fs cs⟩ = (if fs.size = 0 then effFunc f (evCaps s cs.toList) else .bad) := rfl
theorem xw_slice {t : TypeId} {x : Operand} {lo hi : Option Operand} : @xw C d s ⟨.slice t x lo hi none⟩ K = @xe C d s (sliceE C.P t s.h (s.ev x) (evOpt s lo) (evOpt s hi)) K := rfl
theorem xEff_slice {P : Program} {n0 : Nat} {t : TypeId} {x : Operand} {lo hi : Option Operand} : @xEff P s n0 ⟨.slice t x lo hi none⟩ = (sliceE P t s.h (s.ev x) (evOpt s lo) (evOpt s hi)) := rfl
theorem xw_fieldAddr {t : TypeId} {x : Operand} {f : Nat} : @xw C d s ⟨.fieldAddr t x f⟩ K = @xe C d s (effFieldAddr C.P s.h t f (s.ev x)) K := rfl
theorem xEff_fieldAddr {P : Program} {n0 : Nat} {t : TypeId} {x : Operand} {f : Nat} : @xEff P s n0 ⟨.fieldAddr t x f⟩ = (effFieldAddr P s.h t f (s.ev x)) := rfl
theorem xw_field {t : TypeId} {x : Operand} {f : Nat} : @xw C d s ⟨.field t x f⟩ K = @xe C d s (effField C.P t f (s.ev x)) K := rfl
theorem xEff_field {P : Program} {n0 : Nat} {t : TypeId} {x : Operand} {f : Nat} : @xEff P s n0 ⟨.field t x f⟩ = (effField P t f (s.ev x)) := rfl
theorem xw_indexAddr {t : TypeId} {x i : Operand} : @xw C d s ⟨.indexAddr t x i⟩ K = @xe C d s (effIndexAddr C.P s.h t (s.ev x) (s.ev i)) K := rfl
theorem xEff_indexAddr {P : Program} {n0 : Nat} {t : TypeId} {x i : Operand} : @xEff P s n0 ⟨.indexAddr t x i⟩ = (effIndexAddr P s.h t (s.ev x) (s.ev i)) := rfl
theorem xw_index {t : TypeId} {x i : Operand} : @xw C d s ⟨.index t x i⟩ K = @xe C d s (effIndex C.P t (s.ev x) (s.ev i)) K := rfl
theorem xEff_index {P : Program} {n0 : Nat} {t : TypeId} {x i : Operand} : @xEff P s n0 ⟨.index t x i⟩ = (effIndex P t (s.ev x) (s.ev i)) := rfl
theorem xw_extract {k : Nat} {x : Operand} : @xw C d s ⟨.extract x k⟩ K = @xe C d s (effExtract k (s.ev x)) K := rfl
theorem xEff_extract {P : Program} {n0 : Nat} {k : Nat} {x : Operand} : @xEff P s n0 ⟨.extract x k⟩ = (effExtract k (s.ev x)) := rfl
theorem xw_len {x : Operand} {t : TypeId} : @xw C d s ⟨.call { callee := .builtin .len, args := #[x], argTypes := #[t] }⟩ K = @xe C d s (effLen C.P s.h t (s.ev x)) K := rfl
theorem xEff_len {P : Program} {n0 : Nat} {x : Operand} {t : TypeId} : @xEff P s n0 ⟨.call { callee := .builtin .len, args := #[x], argTypes := #[t] }⟩ = (effLen P s.h t (s.ev x)) := rfl
theorem xw_max {x y : Operand} {ts : Array TypeId} : @xw C d s ⟨.call { callee := .builtin .max, args := #[x, y], argTypes := ts }⟩ K = @xe C d s (effMinMax true (s.ev x) (s.ev y)) K := rfl
theorem xEff_max {P : Program} {n0 : Nat} {x y : Operand} {ts : Array TypeId} : @xEff P s n0 ⟨.call { callee := .builtin .max, args := #[x, y], argTypes := ts }⟩ = (effMinMax true (s.ev x) (s.ev y)) := rfl
theorem xw_min {x y : Operand} {ts : Array TypeId} : @xw C d s ⟨.call { callee := .builtin .min, args := #[x, y], argTypes := ts }⟩ K = @xe C d s (effMinMax false (s.ev x) (s.ev y)) K := rfl
theorem xEff_min {P : Program} {n0 : Nat} {x y : Operand} {ts : Array TypeId} : @xEff P s n0 ⟨.call { callee := .builtin .min, args := #[x, y], argTypes := ts }⟩ = (effMinMax false (s.ev x) (s.ev y)) := rfl
theorem xw_append {x y : Operand} {t u : TypeId} : @xw C d s ⟨.call { callee := .builtin .append, args := #[x, y], argTypes := #[t, u] }⟩ K = @xe C d s (effAppend C.P s.h (d.getD 0) t u (s.ev x) (s.ev y)) K := rfl
theorem xEff_append {P : Program} {n0 : Nat} {x y : Operand} {t u : TypeId} : @xEff P s n0 ⟨.call { callee := .builtin .append, args := #[x, y], argTypes := #[t, u] }⟩ = (effAppend P s.h (n0) t u (s.ev x) (s.ev y)) := rfl
theorem xw_call {f : Operand} {args : Array Operand} {ts : Array TypeId} : @xw C d s ⟨.call { callee := .value f, args := args, argTypes := ts }⟩ K = @xcall C d s (s.ev f) (evArgs s args.toList) K := rfl
theorem xe_val {c : Prop} {x : AT} : @xe C d s (.val c x) K = (c ∧ okDst C.N d ∧ @xk (s.put d x) K) := rfl
theorem xe_alt {c p : Prop} {x y : AT} : @xe C d s (.alt c p x y) K = (c ∧ okDst C.N d ∧ (p → @xk (s.put d x) K) ∧ @xk (s.put d y) K) := rfl
theorem xe_put {c : Prop} {id : Nat} {b : TypeId × List AV} {x : AT} : @xe C d s (.put c id b (some x)) K = (c ∧ okDst C.N d ∧ @xk (ASt.put ⟨s.t, upd s.h id (some (some b))⟩ d x) K) := rfl
theorem xe_store {c : Prop} {id : Nat} {b : TypeId × List AV} : @xe C d s (.put c id b none) K = (c ∧ d = none ∧ @xk ⟨s.t, upd s.h id (some (some b))⟩ K) := rfl
theorem xcall_some {g : FuncId} {caps : List AV} {as : List AT} : @xcall C d s (some (.c (.fn g caps))) (some as) K = (okDst C.N d ∧ @xok C g (as ++ caps.map AT.c) d s K) := rfl

-- plans
theorem xplan_nil {R M : RM} : @xplan C R M s all ⟨[]⟩ K = @xk s K := rfl
theorem xplan_cons {R M : RM} {i : Nat} {heavy flag : Bool} {cs : List Nat} {l : List Pl} : @xplan C R M s all ⟨⟨i, heavy, flag, cs⟩ :: l⟩ K = @x1 C i cs heavy flag R M s (@opAt i all) all ⟨l⟩ K := wrX_cons
theorem opAt_zero {o : Oper} {l : List Oper} : @opAt 0 ⟨o :: l⟩ = some o := rfl
theorem opAt_succ {k : Nat} {o : Oper} {l : List Oper} : @opAt (k + 1) ⟨o :: l⟩ = @opAt k ⟨l⟩ := rfl
theorem x1_heavy {i : Nat} {cs : List Nat} {R M : RM} {l : LL} {op : Op} {ty : TypeId} {pos : String} {after : Array Edge} {flag : Bool} : @x1 C i cs true flag R M s (some { dst := d, op := op, type := ty, pos := pos, after := after, guard := none }) all l K = @xwM C (pickI cs R) (pickI cs M) d s ⟨op⟩ ⟨wrX C all.l K.k l.l R M⟩ := by cases flag <;> rfl
theorem x1_light {i : Nat} {cs : List Nat} {R M : RM} {l : LL} {op : Op} {ty : TypeId} {pos : String} {after : Array Edge} : @x1 C i cs false false R M s (some { dst := d, op := op, type := ty, pos := pos, after := after, guard := none }) all l K = (@xnoM (pickI cs M) s ⟨op⟩ ∧ @xl1 C d R M s (@xEff C.P s (d.getD 0) ⟨op⟩) ⟨wrX C all.l K.k l.l⟩) := rfl
theorem x1_flag {i : Nat} {cs : List Nat} {R M : RM} {l : LL} {op : Op} {ty : TypeId} {pos : String} {after : Array Edge} : @x1 C i cs false true R M s (some { dst := d, op := op, type := ty, pos := pos, after := after, guard := none }) all l K = (@xnoM (pickI cs M) s ⟨op⟩ ∧ @xl2 C d i (@xrefs s ⟨op⟩) (pickI cs R) (pickI cs M) R M s (@xEff C.P s (d.getD 0) ⟨op⟩) ⟨wrX C all.l K.k l.l⟩) := rfl
theorem x1_heavy_g {i : Nat} {cs : List Nat} {R M : RM} {l : LL} {op : Op} {ty : TypeId} {pos : String} {after : Array Edge} {j : Nat} {want : Bool} {flag : Bool} : @x1 C i cs true flag R M s (some { dst := d, op := op, type := ty, pos := pos, after := after, guard := some (j, want) }) all l K = @xf0 s want (@dstO j all) ⟨fun s => wopM C (pickI cs R) (pickI cs M) d op s (wrX C all.l K.k l.l R M)⟩ ⟨skip1 C (wrX C all.l K.k l.l) d R M⟩ := by
  have : @x1 C i cs true flag R M s (some { dst := d, op := op, type := ty, pos := pos, after := after, guard := some (j, want) }) all l K = gForm all.l { dst := d, op := op, type := ty, pos := pos, after := after, guard := some (j, want) } s (fun s => wopM C (pickI cs R) (pickI cs M) d op s (wrX C all.l K.k l.l R M)) (skip1 C (wrX C all.l K.k l.l) d R M) := by cases flag <;> rfl
  rw [this, gForm_some]; rfl
theorem x1_light_g {i : Nat} {cs : List Nat} {R M : RM} {l : LL} {op : Op} {ty : TypeId} {pos : String} {after : Array Edge} {j : Nat} {want : Bool} : @x1 C i cs false false R M s (some { dst := d, op := op, type := ty, pos := pos, after := after, guard := some (j, want) }) all l K = (@xnoM (pickI cs M) s ⟨op⟩ ∧ @xf0 s want (@dstO j all) ⟨fun s => light1 C (wrX C all.l K.k l.l) d R M s (eff C.P s (d.getD 0) op)⟩ ⟨skip1 C (wrX C all.l K.k l.l) d R M⟩) := by
  show (_ ∧ gForm _ _ _ _ _) = _
  rw [gForm_some]; rfl
theorem x1_flag_g {i : Nat} {cs : List Nat} {R M : RM} {l : LL} {op : Op} {ty : TypeId} {pos : String} {after : Array Edge} {j : Nat} {want : Bool} : @x1 C i cs false true R M s (some { dst := d, op := op, type := ty, pos := pos, after := after, guard := some (j, want) }) all l K = (@xnoM (pickI cs M) s ⟨op⟩ ∧ @xf0 s want (@dstO j all) ⟨fun s => light2 C (wrX C all.l K.k l.l) d i (lookRefs s op) (pickI cs R) (pickI cs M) R M s (eff C.P s (d.getD 0) op)⟩ ⟨fun s => skip2 C (wrX C all.l K.k l.l) d i (lookRefs s op) R M s⟩) := by
  show (_ ∧ gForm _ _ _ _ _) = _
  rw [gForm_some]; rfl
theorem xk_heavy {S M : List Nat} {op : Op} {k : ASt → Prop} : @xk s ⟨fun s => wopM C S M d op s k⟩ = @xwM C S M d s ⟨op⟩ ⟨k⟩ := rfl
theorem xk_light {W : RM → RM → ASt → Prop} {R M : RM} {op : Op} : @xk s ⟨fun s => light1 C W d R M s (eff C.P s (d.getD 0) op)⟩ = @xl1 C d R M s (@xEff C.P s (d.getD 0) ⟨op⟩) ⟨W⟩ := rfl
theorem xk_flag {W : RM → RM → ASt → Prop} {R M : RM} {op : Op} {i : Nat} {cR cM : List Nat} : @xk s ⟨fun s => light2 C W d i (lookRefs s op) cR cM R M s (eff C.P s (d.getD 0) op)⟩ = @xl2 C d i (@xrefs s ⟨op⟩) cR cM R M s (@xEff C.P s (d.getD 0) ⟨op⟩) ⟨W⟩ := rfl
theorem xk_skip1 {W : RM → RM → ASt → Prop} {R M : RM} : @xk s ⟨skip1 C W d R M⟩ = (okDst C.N d ∧ @xW R M (s.del d) ⟨W⟩) := rfl
theorem xk_skip2 {W : RM → RM → ASt → Prop} {R M : RM} {i : Nat} {op : Op} : @xk s ⟨fun s => skip2 C W d i (lookRefs s op) R M s⟩ = @xs2 C d i (@xrefs s ⟨op⟩) R M s ⟨W⟩ := rfl
theorem xs2_eq {W : WW} {R M : RM} {i : Nat} {refs : List Nat} : @xs2 C d i refs R M s W = (okDst C.N d ∧ domAll s refs ∧ @xW (refs.map (fun id => (i, id)) ++ R) M (s.del d) W) := rfl
theorem xk_plan {al : List Oper} {k : ASt → Prop} {l : List Pl} {R M : RM} : @xk s ⟨wrX C al k l R M⟩ = @xplan C R M s ⟨al⟩ ⟨l⟩ ⟨k⟩ := rfl
theorem xW_plan {al : List Oper} {k : ASt → Prop} {l : List Pl} {R M : RM} : @xW R M s ⟨wrX C al k l⟩ = @xplan C R M s ⟨al⟩ ⟨l⟩ ⟨k⟩ := rfl
theorem xf0_some {A B : KK} {want : Bool} {t : Nat} : @xf0 s want (some t) A B = @xf s t want (s.t t) A B := rfl
theorem xf_sk {A B : KK} {t : Nat} {want : Bool} : @xf s t want (some (.tup [])) A B = @xk s B := rfl
theorem xf_tt {A B : KK} {t : Nat} : @xf s t true (some (.c (.s (.bool true)))) A B = @xk ⟨upd s.t t (some (.c (.s (.bool true)))), s.h⟩ A := gK_tt
theorem xf_ff {A B : KK} {t : Nat} : @xf s t false (some (.c (.s (.bool false)))) A B = @xk ⟨upd s.t t (some (.c (.s (.bool false)))), s.h⟩ A := gK_ff
theorem xf_tf {A B : KK} {t : Nat} : @xf s t true (some (.c (.s (.bool false)))) A B = @xk ⟨upd s.t t (some (.c (.s (.bool false)))), s.h⟩ B := gK_tf
theorem xf_ft {A B : KK} {t : Nat} : @xf s t false (some (.c (.s (.bool true)))) A B = @xk ⟨upd s.t t (some (.c (.s (.bool true)))), s.h⟩ B := gK_ft
theorem xf_split {A B : KK} {t : Nat} {want b : Bool} (h1 : b = want → @xk ⟨upd s.t t (some (.c (.s (.bool want)))), s.h⟩ A) (h2 : b = (!want) → @xk ⟨upd s.t t (some (.c (.s (.bool (!want))))), s.h⟩ B) : @xf s t want (some (.c (.s (.bool b)))) A B := ⟨h1, h2⟩
theorem xl1_val {W : WW} {R M : RM} {c : Prop} {x : AT} : @xl1 C d R M s (.val c x) W = (c ∧ okDst C.N d ∧ @xW R M (s.put d x) W) := rfl
theorem xl2_val {W : WW} {i : Nat} {refs cR cM : List Nat} {R M : RM} {c : Prop} {x : AT} : @xl2 C d i refs cR cM R M s (.val c x) W = (c ∧ okDst C.N d ∧ domAll s refs ∧ @xW (refs.map (fun id => (i, id)) ++ R) M (s.put d x) W) := rfl
theorem xl2_put {W : WW} {i id : Nat} {refs cR cM : List Nat} {R M : RM} {c : Prop} {b : TypeId × List AV} {x : AT} : @xl2 C d i refs cR cM R M s (.put c id b (some x)) W =
    (c ∧ okDst C.N d ∧ noId id cR ∧ noId id cM ∧ domAll s refs ∧ @xW (refs.map (fun id => (i, id)) ++ R) ((i, id) :: M) (ASt.put ⟨s.t, upd s.h id (some (some b))⟩ d x) W) := rfl
theorem xwM_call {S M : List Nat} {f : Operand} {args : Array Operand} {ts : Array TypeId} : @xwM C S M d s ⟨.call { callee := .value f, args := args, argTypes := ts }⟩ K = (@xnoM M s ⟨.call { callee := .value f, args := args, argTypes := ts }⟩ ∧ @xcallM C S M d s (s.ev f) (evArgs s args.toList) K) := wopM_call
theorem xwM_store {S M : List Nat} {t : TypeId} {x y : Operand} : @xwM C S M d s ⟨.store t x y⟩ K = (@xnoM M s ⟨.store t x y⟩ ∧ @xh C S M d s (effStore C.P s.h t (s.ev x) (s.ev y)) K) := wopM_store
theorem xwM_append {S M : List Nat} {t u : TypeId} {x y : Operand} : @xwM C S M d s ⟨.call { callee := .builtin .append, args := #[x, y], argTypes := #[t, u] }⟩ K = (@xnoM M s ⟨.call { callee := .builtin .append, args := #[x, y], argTypes := #[t, u] }⟩ ∧ @xh C S M d s (effAppend C.P s.h (d.getD 0) t u (s.ev x) (s.ev y)) K) := wopM_append
theorem xwM_alloc {S M : List Nat} {t : TypeId} : @xwM C S M d s ⟨.alloc t⟩ K = (@xnoM M s ⟨.alloc t⟩ ∧ @xh C S M d s (effAlloc C.P s.h (d.getD 0) t) K) := wopM_alloc
theorem xwM_assign {S M : List Nat} {x : Operand} : @xwM C S M d s ⟨.assign x⟩ K = (@xnoM M s ⟨.assign x⟩ ∧ @xh C S M d s (effMove (s.ev x)) K) := wopM_assign
theorem xh_val {S M : List Nat} {c : Prop} {x : AT} : @xh C S M d s (.val c x) K = (c ∧ okDst C.N d ∧ @xk (s.put d x) K) := rfl
theorem xh_put {S M : List Nat} {c : Prop} {id : Nat} {b : TypeId × List AV} {x : AT} : @xh C S M d s (.put c id b (some x)) K = (c ∧ okDst C.N d ∧ noId id S ∧ noId id M ∧ @xk (ASt.put ⟨s.t, upd s.h id (some (some b))⟩ d x) K) := rfl
theorem xh_store {S M : List Nat} {c : Prop} {id : Nat} {b : TypeId × List AV} : @xh C S M d s (.put c id b none) K = (c ∧ d = none ∧ noId id S ∧ noId id M ∧ @xk ⟨s.t, upd s.h id (some (some b))⟩ K) := rfl
theorem xcallM_some {S M : List Nat} {g : FuncId} {caps : List AV} {as : List AT} : @xcallM C S M d s (some (.c (.fn g caps))) (some as) K = (okDst C.N d ∧ @xokM C S M g (as ++ caps.map AT.c) d s K) := rfl
theorem xnoM_nil {B : BB} : @xnoM [] s B = True := noM_nil
theorem xnoM_cons {B : BB} {i : Nat} {l : List Nat} : @xnoM (i :: l) s B = noM (i :: l) s B.b.operands.toList := rfl
theorem xrefs_eq {B : BB} : @xrefs s B = lookRefs s B.b := rfl
theorem xpok_ok {o : OO} {l : List Pl} (h : (planOk o.l.toArray l (Array.replicate o.l.toArray.size false) [] && sitesOk o.l.toArray && (l.length == o.l.toArray.size)) = true) : @xpok' l o := h
end
end
end Go.Ab
