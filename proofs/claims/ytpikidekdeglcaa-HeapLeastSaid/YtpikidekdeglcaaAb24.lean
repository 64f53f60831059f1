/- WALKING BY 'simp': one layer at a time. -/
import Derived.Test.YtpikidekdeglcaaAb23
namespace Go.Ab
open Go
noncomputable section
section
variable {C : Cx} {s s' : ASt} {K : ASt → Prop} {Q : Exit → ASt → Prop}

@[congr] theorem wops_congr {all l : List Oper} (h : s = s') : wops C all l s K = wops C all l s' K := by rw [h]
@[congr] theorem wop_congr {d : Option Nat} {op : Op} (h : s = s') : wop C d op s K = wop C d op s' K := by rw [h]
@[congr] theorem runEff_congr {d : Option Nat} {e e' : Eff} (h : s = s') (he : e = e') : runEff C d s K e = runEff C d s' K e' := by rw [h, he]
@[congr] theorem runCall_congr {d : Option Nat} {f f' : Option AT} {as as' : Option (List AT)} (h : s = s') (hf : f = f') (ha : as = as') : runCall C s d K f as = runCall C s' d K f' as' := by rw [h, hf, ha]
@[congr] theorem CallOk_congr {g : FuncId} {as as' : List AT} {d : Option Nat} (h : s = s') (ha : as = as') : CallOk C g as d s K = CallOk C g as' d s' K := by rw [h, ha]
@[congr] theorem wguard_congr {d : Option Nat} {op : Op} {j : Nat} {want : Bool} {x x' : Option AT} (h : s = s') (hx : x = x') : wguard C d op s K j want x = wguard C d op s' K j want x' := by rw [h, hx]
@[congr] theorem wpc_congr {c : Code} (h : s = s') : wpc C c Q s = wpc C c Q s' := by rw [h]
@[congr] theorem WP_congr {c : Code} (h : s = s') : WP C c Q s = WP C c Q s' := by rw [h]

def condK (A B : Prop) : Option AT → Prop
  | some (.c (.s (.bool t))) => (t = true → A) ∧ (t = false → B)
  | _ => False
@[congr] theorem condK_congr {A B : Prop} {x x' : Option AT} (h : x = x') : condK A B x = condK A B x' := by rw [h]
theorem condK_some {A B : Prop} {t : Bool} : condK A B (some (.c (.s (.bool t)))) = ((t = true → A) ∧ (t = false → B)) := rfl
theorem condK_true {A B : Prop} : condK A B (some (.c (.s (.bool true)))) = A := by simp [condK]
theorem condK_false {A B : Prop} : condK A B (some (.c (.s (.bool false)))) = B := by simp [condK]

theorem wpc_skip : wpc C .skip Q s = Q .normal s := rfl
theorem wpc_label {l : Nat} : wpc C (.label l) Q s = Q .normal s := rfl
theorem wpc_ret : wpc C .ret Q s = Q .ret s := rfl
theorem wpc_exit {id : Nat} : wpc C (.exit id) Q s = Q (.exit id) s := rfl
theorem wpc_goto {l : Nat} : wpc C (.goto l) Q s = Q (.goto l) s := rfl
theorem wpc_seq {x y : Code} : wpc C (.seq x y) Q s = wpc C x (SeqK (wpc C y Q) Q) s := rfl
theorem wpc_block {id : Nat} {c : Code} : wpc C (.block id c) Q s = wpc C c (BlkK id Q) s := rfl
theorem wpc_scope {c : Code} : wpc C (.scope c) Q s = wpc C c (ScpK Q) s := rfl
theorem wpc_region {id : Nat} {ops : Array Oper} : wpc C (.region id ops false) Q s = wops C ops.toList ops.toList s (Q .normal) := rfl
theorem wpc_drawn {id : Nat} {ops : Array Oper} : wpc C (.region id ops true) Q s = WP C (.region id ops true) Q s := rfl
theorem wpc_loop {c : Code} : wpc C (.loop c) Q s = WP C (.loop c) Q s := rfl
theorem wpc_cond {c : Operand} {x y : Code} : wpc C (.cond c x y) Q s = condK (wpc C x Q s) (wpc C y Q s) (s.ev c) := by
  rw [wpc]
  generalize s.ev c = e
  unfold condK
  split
  · rfl
  · rename_i hne
    split
    · exact (hne _ rfl).elim
    · rfl
theorem SeqK_normal {wb : ASt → Prop} : SeqK wb Q .normal s = wb s := rfl
theorem SeqK_ret {wb : ASt → Prop} : SeqK wb Q .ret s = Q .ret s := rfl
theorem SeqK_exit {wb : ASt → Prop} {id : Nat} : SeqK wb Q (.exit id) s = Q (.exit id) s := rfl
theorem SeqK_goto {wb : ASt → Prop} {l : Nat} : SeqK wb Q (.goto l) s = Q (.goto l) s := rfl
theorem BlkK_normal {id : Nat} : BlkK id Q .normal s = Q .normal s := rfl
theorem BlkK_ret {id : Nat} : BlkK id Q .ret s = Q .ret s := rfl
theorem BlkK_goto {id : Nat} {l : Nat} : BlkK id Q (.goto l) s = Q (.goto l) s := rfl
theorem BlkK_same {id : Nat} : BlkK id Q (.exit id) s = Q .normal s := by simp [BlkK]
theorem BlkK_other {id id' : Nat} (h : ¬ id' = id) : BlkK id Q (.exit id') s = Q (.exit id') s := by simp [BlkK, h]
theorem ScpK_normal : ScpK Q .normal s = Q .normal s := rfl
theorem ScpK_ret : ScpK Q .ret s = Q .ret s := rfl
theorem ScpK_exit {id : Nat} : ScpK Q (.exit id) s = Q (.exit id) s := rfl

theorem wops_nil {all : List Oper} : wops C all [] s K = K s := rfl
theorem wops_none {all r : List Oper} {d : Option Nat} {op : Op} {ty : TypeId} {pos : String} {after : Array Edge} :
    wops C all ({ dst := d, op := op, type := ty, pos := pos, after := after, guard := none } :: r) s K = wop C d op s (fun s' => wops C all r s' K) := rfl

def guardK (C : Cx) (d : Option Nat) (op : Op) (s : ASt) (K : ASt → Prop) (want : Bool) : Option Nat → Prop
  | some t => wguard C d op s K t want (s.t t)
  | none => False
@[congr] theorem guardK_congr {d : Option Nat} {op : Op} {want : Bool} {x x' : Option Nat} (h : s = s') (hx : x = x') : guardK C d op s K want x = guardK C d op s' K want x' := by rw [h, hx]
theorem guardK_some {d : Option Nat} {op : Op} {want : Bool} {t : Nat} : guardK C d op s K want (some t) = wguard C d op s K t want (s.t t) := rfl
theorem wops_some {all r : List Oper} {d : Option Nat} {op : Op} {ty : TypeId} {pos : String} {after : Array Edge} {j : Nat} {want : Bool} :
    wops C all ({ dst := d, op := op, type := ty, pos := pos, after := after, guard := some (j, want) } :: r) s K = guardK C d op s (fun s' => wops C all r s' K) want (dstAt all j) := by
  rw [wops]
  show (match dstAt all j with | some t => wguard C d op s (fun s' => wops C all r s' K) t want (s.t t) | none => False) = _
  generalize dstAt all j = e
  unfold guardK
  split <;> rfl
theorem dstAt_zero {o : Oper} {l : List Oper} : dstAt (o :: l) 0 = o.dst := rfl
theorem dstAt_succ {o : Oper} {l : List Oper} {k : Nat} : dstAt (o :: l) (k + 1) = dstAt l k := rfl

theorem wguard_lit_yes {d : Option Nat} {op : Op} {j : Nat} {want : Bool} : wguard C d op s K j want (some (.c (.s (.bool want)))) = wop C d op { s with t := upd s.t j (some (.c (.s (.bool want)))) } K := by
  cases want <;> simp [wguard]
theorem wguard_sk {d : Option Nat} {op : Op} {j : Nat} {want : Bool} : wguard C d op s K j want (some (.tup [])) = (okDst C.N d ∧ K (s.del d)) := rfl
theorem wguard_tf {d : Option Nat} {op : Op} {j : Nat} : wguard C d op s K j true (some (.c (.s (.bool false)))) = (okDst C.N d ∧ K (ASt.del { s with t := upd s.t j (some (.c (.s (.bool false)))) } d)) := by
  simp [wguard]
theorem wguard_ft {d : Option Nat} {op : Op} {j : Nat} : wguard C d op s K j false (some (.c (.s (.bool true)))) = (okDst C.N d ∧ K (ASt.del { s with t := upd s.t j (some (.c (.s (.bool true)))) } d)) := by
  simp [wguard]
theorem wguard_t {d : Option Nat} {op : Op} {j : Nat} {b : Bool} : wguard C d op s K j true (some (.c (.s (.bool b)))) = ((b = true → wop C d op { s with t := upd s.t j (some (.c (.s (.bool true)))) } K) ∧ (b = false → okDst C.N d ∧ K (ASt.del { s with t := upd s.t j (some (.c (.s (.bool false)))) } d))) := rfl
theorem wguard_f {d : Option Nat} {op : Op} {j : Nat} {b : Bool} : wguard C d op s K j false (some (.c (.s (.bool b)))) = ((b = false → wop C d op { s with t := upd s.t j (some (.c (.s (.bool false)))) } K) ∧ (b = true → okDst C.N d ∧ K (ASt.del { s with t := upd s.t j (some (.c (.s (.bool true)))) } d))) := rfl

theorem wop_move {d : Option Nat} {x : Operand} : wop C d (.move x) s K = runEff C d s K (effMove (s.ev x)) := rfl
theorem wop_assign {d : Option Nat} {x : Operand} : wop C d (.assign x) s K = runEff C d s K (effMove (s.ev x)) := rfl
theorem wop_pick {d : Option Nat} {c x y : Operand} : wop C d (.pick c x y) s K = runEff C d s K (effPick (s.ev c) (s.ev x) (s.ev y)) := rfl
theorem wop_alloc {d : Option Nat} {t : TypeId} : wop C d (.alloc t) s K = runEff C d s K (effAlloc C.P s.h (d.getD 0) t) := rfl
theorem wop_box {d : Option Nat} {t : TypeId} {x : Operand} : wop C d (.box t x) s K = runEff C d s K (effBox s.h (d.getD 0) t (s.ev x)) := rfl
theorem wop_build {d : Option Nat} {t : TypeId} {ps : Array (Nat × Operand)} : wop C d (.build t ps) s K = runEff C d s K (effBuild C.P t (evParts s ps.toList)) := rfl
theorem wop_buildSlice {d : Option Nat} {t : TypeId} {n : Nat} {ps : Array (Nat × Operand)} : wop C d (.buildSlice t n ps) s K = runEff C d s K (effBuildSlice C.P s.h (d.getD 0) t n (evParts s ps.toList)) := rfl
theorem wop_load {d : Option Nat} {t : TypeId} {x : Operand} : wop C d (.load t x) s K = runEff C d s K (effLoad C.P s.h t (s.ev x)) := rfl
theorem wop_store {d : Option Nat} {t : TypeId} {x y : Operand} : wop C d (.store t x y) s K = runEff C d s K (effStore C.P s.h t (s.ev x) (s.ev y)) := rfl
theorem wop_nilCheck {d : Option Nat} {x : Operand} : wop C d (.nilCheck x) s K = runEff C d s K (effNil s.h (s.ev x)) := rfl
theorem wop_binOp {d : Option Nat} {op : BinOp} {t u : TypeId} {x y : Operand} : wop C d (.binOp op t x y u) s K = runEff C d s K (effBin C.P op t (s.ev x) (s.ev y)) := rfl
theorem wop_unOp {d : Option Nat} {op : UnOp} {t : TypeId} {x : Operand} : wop C d (.unOp op t x) s K = runEff C d s K (effUn op (s.ev x)) := rfl
theorem wop_convert {d : Option Nat} {t u : TypeId} {x : Operand} : wop C d (.convert t u x) s K = runEff C d s K (effConv C.P t u (s.ev x)) := rfl
theorem wop_makeFunc {d : Option Nat} {f : Fn} {fs cs : Array Operand} : wop C d (.makeFunc f fs cs) s K = runEff C d s K (if fs.size = 0 then effFunc f (evCaps s cs.toList) else .bad) := rfl
def sliceK (C : Cx) (t : TypeId) (h : Heap) (x : Option AT) : Option (Option AT) → Option (Option AT) → Eff
  | some l, some u => effSlice C.P h t x l u
  | _, _ => .bad
theorem wop_slice {d : Option Nat} {t : TypeId} {x : Operand} {lo hi : Option Operand} : wop C d (.slice t x lo hi none) s K = runEff C d s K (sliceK C t s.h (s.ev x) (evOpt s lo) (evOpt s hi)) := rfl
theorem wop_fieldAddr {d : Option Nat} {t : TypeId} {x : Operand} {f : Nat} : wop C d (.fieldAddr t x f) s K = runEff C d s K (effFieldAddr C.P s.h t f (s.ev x)) := rfl
theorem wop_field {d : Option Nat} {t : TypeId} {x : Operand} {f : Nat} : wop C d (.field t x f) s K = runEff C d s K (effField C.P t f (s.ev x)) := rfl
theorem wop_indexAddr {d : Option Nat} {t : TypeId} {x i : Operand} : wop C d (.indexAddr t x i) s K = runEff C d s K (effIndexAddr C.P s.h t (s.ev x) (s.ev i)) := rfl
theorem wop_index {d : Option Nat} {t : TypeId} {x i : Operand} : wop C d (.index t x i) s K = runEff C d s K (effIndex C.P t (s.ev x) (s.ev i)) := rfl
theorem wop_extract {d : Option Nat} {k : Nat} {x : Operand} : wop C d (.extract x k) s K = runEff C d s K (effExtract k (s.ev x)) := rfl
theorem wop_call {d : Option Nat} {f : Operand} {args : Array Operand} {ts : Array TypeId} : wop C d (.call { callee := .value f, args := args, argTypes := ts }) s K = runCall C s d K (s.ev f) (evArgs s args.toList) := rfl
theorem wop_len {d : Option Nat} {x : Operand} {t : TypeId} : wop C d (.call { callee := .builtin .len, args := #[x], argTypes := #[t] }) s K = runEff C d s K (effLen C.P s.h t (s.ev x)) := rfl
theorem wop_max {d : Option Nat} {x y : Operand} {ts : Array TypeId} : wop C d (.call { callee := .builtin .max, args := #[x, y], argTypes := ts }) s K = runEff C d s K (effMinMax true (s.ev x) (s.ev y)) := rfl
theorem wop_min {d : Option Nat} {x y : Operand} {ts : Array TypeId} : wop C d (.call { callee := .builtin .min, args := #[x, y], argTypes := ts }) s K = runEff C d s K (effMinMax false (s.ev x) (s.ev y)) := rfl
theorem wop_append {d : Option Nat} {x y : Operand} {t u : TypeId} : wop C d (.call { callee := .builtin .append, args := #[x, y], argTypes := #[t, u] }) s K = runEff C d s K (effAppend C.P s.h (d.getD 0) t u (s.ev x) (s.ev y)) := rfl

theorem runEff_val {d : Option Nat} {c : Prop} {x : AT} : runEff C d s K (.val c x) = (c ∧ okDst C.N d ∧ K (s.put d x)) := rfl
theorem runEff_put {d : Option Nat} {c : Prop} {id : Nat} {b : TypeId × List AV} {x : AT} : runEff C d s K (.put c id b (some x)) = (c ∧ okDst C.N d ∧ K (ASt.put { s with h := upd s.h id (some (some b)) } d x)) := rfl
theorem runEff_store {d : Option Nat} {c : Prop} {id : Nat} {b : TypeId × List AV} : runEff C d s K (.put c id b none) = (c ∧ d = none ∧ K { s with h := upd s.h id (some (some b)) }) := rfl
theorem runCall_some {d : Option Nat} {g : FuncId} {caps : List AV} {as : List AT} : runCall C s d K (some (.c (.fn g caps))) (some as) = (okDst C.N d ∧ CallOk C g (as ++ caps.map AT.c) d s K) := rfl

theorem put_some' {t : Nat → Option AT} {h : Heap} {k : Nat} {x : AT} : ASt.put ⟨t, h⟩ (some k) x = ⟨upd t k (some x), h⟩ := rfl
theorem put_none' {t : Nat → Option AT} {h : Heap} {x : AT} : ASt.put ⟨t, h⟩ none x = ⟨t, h⟩ := rfl
theorem del_some' {t : Nat → Option AT} {h : Heap} {k : Nat} : ASt.del ⟨t, h⟩ (some k) = ⟨upd t k (some (.tup [])), h⟩ := rfl
theorem del_none' {t : Nat → Option AT} {h : Heap} : ASt.del ⟨t, h⟩ none = ⟨t, h⟩ := rfl
theorem ev_tmp {t : Nat → Option AT} {h : Heap} {k : Nat} : ASt.ev ⟨t, h⟩ (.tmp k) = t k := rfl
theorem ev_const {v : Value} : s.ev (.const v) = evC v := rfl
theorem ev_func {f : FuncId} : s.ev (.func f) = some (.c (.fn f [])) := rfl
theorem evC_int {k : IntKind} {n : Int} : evC (.int k n) = some (.c (.s (.int k n))) := rfl
theorem evC_bool {b : Bool} : evC (.bool b) = some (.c (.s (.bool b))) := rfl
theorem evC_string {b : ByteArray} : evC (.string b) = some (.c (.s (.string b))) := rfl
theorem evC_slice {b : Option Addr} {n m : Nat} : evC (.slice b n m) = some (.c (.s (.slice b n m))) := rfl
theorem evC_pointer {b : Option Addr} : evC (.pointer b) = some (.c (.s (.pointer b))) := rfl
theorem evC_nilFunc : evC .nilFunc = some (.c (.s .nilFunc)) := rfl
theorem evC_agg {cs : Array Value} : evC (.agg cs) = if cs.toList.all Value.oneCell' then some (.agg (cs.toList.map AV.s)) else none := rfl
theorem upd_lit {α : Type} (f : Nat → α) (k : Nat) (v : α) : upd f k v k = v := upd_same f k v
theorem upd_lit_ne {α : Type} (f : Nat → α) {k j : Nat} (v : α) (h : (j == k) = false) : upd f k v j = f j := upd_ne f v (by simpa using h)
theorem okDst_some {N k : Nat} : okDst N (some k) = (k < N) := rfl
theorem okDst_none {N : Nat} : okDst N none = True := rfl
theorem upd_over {α : Type} (f : Nat → α) (k : Nat) (u v : α) : upd (upd f k u) k v = upd f k v := upd_upd f k u v
end
end
end Go.Ab
