/- WALKING A PLAN BY 'simp'. -/
import Derived.Test.YtpikidekdeglcaaAb25
namespace Go.Ab
open Go
noncomputable section
section
variable {C : Cx} {s s' : ASt} {K : ASt → Prop} {Q : Exit → ASt → Prop} {ops : List Oper}

def noM (ids : List Nat) (s : ASt) (xs : List Operand) : Prop := ∀ id ∈ ids, id ∉ opRefs s xs
theorem noM_nil {xs : List Operand} : noM [] s xs = True := by simp [noM]
theorem noM_cons {id : Nat} {ids : List Nat} {xs : List Operand} : noM (id :: ids) s xs = (id ∉ opRefs s xs ∧ noM ids s xs) := by simp [noM]
theorem opRefs_mem' {id : Nat} : ∀ {l : List Operand}, id ∈ opRefs s l → ∃ x ∈ l, id ∈ orefs s x
  | y :: l, h => by
    simp only [opRefs, List.mem_append] at h
    rcases h with h | h
    · exact ⟨y, by simp, h⟩
    · obtain ⟨x, hx, h⟩ := opRefs_mem' h; exact ⟨x, List.mem_cons_of_mem _ hx, h⟩
theorem noM_iff {ids : List Nat} {xs : Array Operand} : (∀ id ∈ ids, ∀ x ∈ xs, id ∉ orefs s x) = noM ids s xs.toList := by
  refine propext ⟨fun h id hid hm => ?_, fun h id hid x hx hm => h id hid (mem_opRefs (by simpa using hx) hm)⟩
  obtain ⟨x, hx, hm⟩ := opRefs_mem' hm
  exact h id hid x (by simpa using hx) hm

def domAll (s : ASt) (ids : List Nat) : Prop := ∀ id ∈ ids, s.h id ≠ none
theorem domAll_nil : domAll s [] = True := by simp [domAll]
theorem domAll_cons {id : Nat} {ids : List Nat} : domAll s (id :: ids) = (s.h id ≠ none ∧ domAll s ids) := by simp [domAll]

def noId (id : Nat) (l : List Nat) : Prop := ∀ i ∈ l, i ≠ id
theorem noId_nil {id : Nat} : noId id [] = True := by simp [noId]
theorem noId_cons {id i : Nat} {l : List Nat} : noId id (i :: l) = (i ≠ id ∧ noId id l) := by simp [noId]

abbrev RM := List (Nat × Nat)
def light1 (C : Cx) (W : RM → RM → ASt → Prop) (d : Option Nat) (R M : RM) (s : ASt) : Eff → Prop
  | .val c x => c ∧ okDst C.N d ∧ W R M (s.put d x)
  | _ => False
def light2 (C : Cx) (W : RM → RM → ASt → Prop) (d : Option Nat) (i : Nat) (refs cR cM : List Nat) (R M : RM) (s : ASt) : Eff → Prop
  | .val c x => c ∧ okDst C.N d ∧ domAll s refs ∧ W (refs.map (fun id => (i, id)) ++ R) M (s.put d x)
  | .put c id b (some x) => c ∧ okDst C.N d ∧ noId id cR ∧ noId id cM ∧ domAll s refs ∧ W (refs.map (fun id => (i, id)) ++ R) ((i, id) :: M) (ASt.put { s with h := upd s.h id (some (some b)) } d x)
  | _ => False
def skip1 (C : Cx) (W : RM → RM → ASt → Prop) (d : Option Nat) (R M : RM) (s : ASt) : Prop := okDst C.N d ∧ W R M (s.del d)
def skip2 (C : Cx) (W : RM → RM → ASt → Prop) (d : Option Nat) (i : Nat) (refs : List Nat) (R M : RM) (s : ASt) : Prop :=
  okDst C.N d ∧ domAll s refs ∧ W (refs.map (fun id => (i, id)) ++ R) M (s.del d)

@[congr] theorem light1_congr {W : RM → RM → ASt → Prop} {d : Option Nat} {R M : RM} {e e' : Eff} (h : s = s') (he : e = e') : light1 C W d R M s e = light1 C W d R M s' e' := by rw [h, he]
@[congr] theorem light2_congr {W : RM → RM → ASt → Prop} {d : Option Nat} {i : Nat} {refs refs' cR cR' cM cM' : List Nat} {R M : RM} {e e' : Eff} (h : s = s') (he : e = e') (hr : refs = refs') (h1 : cR = cR') (h2 : cM = cM') : light2 C W d i refs cR cM R M s e = light2 C W d i refs' cR' cM' R M s' e' := by rw [h, he, hr, h1, h2]
@[congr] theorem skip1_congr {W : RM → RM → ASt → Prop} {d : Option Nat} {R M : RM} (h : s = s') : skip1 C W d R M s = skip1 C W d R M s' := by rw [h]
@[congr] theorem skip2_congr {W : RM → RM → ASt → Prop} {d : Option Nat} {i : Nat} {refs refs' : List Nat} {R M : RM} (h : s = s') (hr : refs = refs') : skip2 C W d i refs R M s = skip2 C W d i refs' R M s' := by rw [h, hr]

theorem light1_val {W : RM → RM → ASt → Prop} {d : Option Nat} {R M : RM} {c : Prop} {x : AT} : light1 C W d R M s (.val c x) = (c ∧ okDst C.N d ∧ W R M (s.put d x)) := rfl
theorem light2_val {W : RM → RM → ASt → Prop} {d : Option Nat} {i : Nat} {refs cR cM : List Nat} {R M : RM} {c : Prop} {x : AT} : light2 C W d i refs cR cM R M s (.val c x) = (c ∧ okDst C.N d ∧ domAll s refs ∧ W (refs.map (fun id => (i, id)) ++ R) M (s.put d x)) := rfl
theorem light2_put {W : RM → RM → ASt → Prop} {d : Option Nat} {i id : Nat} {refs cR cM : List Nat} {R M : RM} {c : Prop} {b : TypeId × List AV} {x : AT} : light2 C W d i refs cR cM R M s (.put c id b (some x)) =
    (c ∧ okDst C.N d ∧ noId id cR ∧ noId id cM ∧ domAll s refs ∧ W (refs.map (fun id => (i, id)) ++ R) ((i, id) :: M) (ASt.put { s with h := upd s.h id (some (some b)) } d x)) := rfl
theorem skip1_eq {W : RM → RM → ASt → Prop} {d : Option Nat} {R M : RM} : skip1 C W d R M s = (okDst C.N d ∧ W R M (s.del d)) := rfl
theorem skip2_eq {W : RM → RM → ASt → Prop} {d : Option Nat} {i : Nat} {refs : List Nat} {R M : RM} : skip2 C W d i refs R M s = (okDst C.N d ∧ domAll s refs ∧ W (refs.map (fun id => (i, id)) ++ R) M (s.del d)) := rfl

/-- what a guard comes to -/
def gK (A B : ASt → Prop) (s : ASt) (t : Nat) (want : Bool) : Option AT → Prop
  | some (.c (.s (.bool b))) => (b = want → A { s with t := upd s.t t (some (.c (.s (.bool want)))) }) ∧ (b = (!want) → B { s with t := upd s.t t (some (.c (.s (.bool (!want))))) })
  | some (.tup []) => B s
  | _ => False
def gJ (A B : ASt → Prop) (s : ASt) (want : Bool) : Option Nat → Prop
  | some t => gK A B s t want (s.t t)
  | none => False
@[congr] theorem gK_congr {A B : ASt → Prop} {t : Nat} {want : Bool} {x x' : Option AT} (h : s = s') (hx : x = x') : gK A B s t want x = gK A B s' t want x' := by rw [h, hx]
@[congr] theorem gJ_congr {A B : ASt → Prop} {want : Bool} {x x' : Option Nat} (h : s = s') (hx : x = x') : gJ A B s want x = gJ A B s' want x' := by rw [h, hx]
theorem gJ_some {A B : ASt → Prop} {want : Bool} {t : Nat} : gJ A B s want (some t) = gK A B s t want (s.t t) := rfl
theorem gK_sk {A B : ASt → Prop} {t : Nat} {want : Bool} : gK A B s t want (some (.tup [])) = B s := rfl
theorem gK_tt {A B : ASt → Prop} {t : Nat} : gK A B s t true (some (.c (.s (.bool true)))) = A { s with t := upd s.t t (some (.c (.s (.bool true)))) } := by simp [gK]
theorem gK_ff {A B : ASt → Prop} {t : Nat} : gK A B s t false (some (.c (.s (.bool false)))) = A { s with t := upd s.t t (some (.c (.s (.bool false)))) } := by simp [gK]
theorem gK_tf {A B : ASt → Prop} {t : Nat} : gK A B s t true (some (.c (.s (.bool false)))) = B { s with t := upd s.t t (some (.c (.s (.bool false)))) } := by simp [gK]
theorem gK_ft {A B : ASt → Prop} {t : Nat} : gK A B s t false (some (.c (.s (.bool true)))) = B { s with t := upd s.t t (some (.c (.s (.bool true)))) } := by simp [gK]
theorem gK_t {A B : ASt → Prop} {t : Nat} {b : Bool} : gK A B s t true (some (.c (.s (.bool b)))) = ((b = true → A { s with t := upd s.t t (some (.c (.s (.bool true)))) }) ∧ (b = false → B { s with t := upd s.t t (some (.c (.s (.bool false)))) })) := rfl
theorem gK_f {A B : ASt → Prop} {t : Nat} {b : Bool} : gK A B s t false (some (.c (.s (.bool b)))) = ((b = false → A { s with t := upd s.t t (some (.c (.s (.bool false)))) }) ∧ (b = true → B { s with t := upd s.t t (some (.c (.s (.bool true)))) })) := rfl
theorem gForm_none {d : Option Nat} {op : Op} {ty : TypeId} {pos : String} {after : Array Edge} {A B : ASt → Prop} : gForm ops ({ dst := d, op := op, type := ty, pos := pos, after := after, guard := none }) s A B = A s := rfl
theorem gForm_some {d : Option Nat} {op : Op} {ty : TypeId} {pos : String} {after : Array Edge} {j : Nat} {want : Bool} {A B : ASt → Prop} : gForm ops ({ dst := d, op := op, type := ty, pos := pos, after := after, guard := some (j, want) }) s A B = gJ A B s want (dstAt ops j) := by
  unfold gForm
  generalize hx : dstAt ops j = e
  simp only [hx]
  cases e with
  | none => rfl
  | some t =>
    unfold gJ gK
    simp only []
    generalize s.t t = x
    split
    · rfl
    · rfl
    · rename_i hne hne2
      split
      · exact (hne _ rfl).elim
      · exact (hne2 rfl).elim
      · rfl

/-- one step of a plan -/
def wrX (C : Cx) (ops : List Oper) (K : ASt → Prop) : List Pl → RM → RM → ASt → Prop
  | [], _, _, s => K s
  | p :: l, R, M, s => match ops[p.i]?, p.heavy, p.flag with
    | none, _, _ => False
    | some o, true, _ => gForm ops o s (fun s => wopM C (pickI p.cs R) (pickI p.cs M) o.dst o.op s (wrX C ops K l R M)) (skip1 C (wrX C ops K l) o.dst R M)
    | some o, false, false => noM (pickI p.cs M) s o.op.operands.toList ∧ gForm ops o s (fun s => light1 C (wrX C ops K l) o.dst R M s (eff C.P s (o.dst.getD 0) o.op)) (skip1 C (wrX C ops K l) o.dst R M)
    | some o, false, true => noM (pickI p.cs M) s o.op.operands.toList ∧
        gForm ops o s (fun s => light2 C (wrX C ops K l) o.dst p.i (lookRefs s o.op) (pickI p.cs R) (pickI p.cs M) R M s (eff C.P s (o.dst.getD 0) o.op)) (fun s => skip2 C (wrX C ops K l) o.dst p.i (lookRefs s o.op) R M s)

theorem gForm_mono {o : Oper} {A A' B B' : ASt → Prop} (h : gForm ops o s A B) (hA : ∀ s, A s → A' s) (hB : ∀ s, B s → B' s) : gForm ops o s A' B' := by
  unfold gForm at *
  split
  · rename_i hg; rw [hg] at h; exact hA _ h
  · rename_i j want hg
    rw [hg] at h
    simp only at h
    split
    · rename_i t ht
      rw [ht] at h
      simp only at h
      split
      · rename_i b hb
        rw [hb] at h
        exact ⟨fun e => hA _ (h.1 e), fun e => hB _ (h.2 e)⟩
      · rename_i hb
        rw [hb] at h
        exact hB _ h
      · rename_i hne hne2
        split at h
        · rename_i b hb; exact (hne _ hb).elim
        · rename_i hb; exact (hne2 hb).elim
        · exact h.elim
    · rename_i ht
      rw [ht] at h
      exact h.elim

theorem wrX_wrun : ∀ (l : List Pl) (R M : RM) (s : ASt), wrX C ops K l R M s → wrun C ops K l R M s
  | [], R, M, s, h => h
  | p :: l, R, M, s, h => by
    have ih := wrX_wrun l
    unfold wrX at h
    unfold wrun
    cases ho : ops[p.i]? with
    | none => rw [ho] at h; exact h.elim
    | some o =>
      rw [ho] at h
      cases hh : p.heavy with
      | true =>
        rw [hh] at h
        refine gForm_mono h (fun s h => wopM_mono h (fun _ h => h) (fun _ h => h) (ih R M)) (fun s h => ⟨h.1, ih _ _ _ h.2⟩)
      | false =>
        rw [hh] at h
        cases hf : p.flag with
        | false =>
          rw [hf] at h
          simp only at h ⊢
          rw [noM_iff]
          refine ⟨h.1, gForm_mono h.2 (fun s h => ?_) (fun s h => ⟨h.1, by rw [hf]; exact ih _ _ _ h.2⟩)⟩
          unfold light1 at h
          split at h
          · rename_i c x he; rw [he]; exact ⟨h.1, h.2.1, by rw [hf]; exact ih _ _ _ h.2.2⟩
          · exact h.elim
        | true =>
          rw [hf] at h
          simp only at h ⊢
          rw [noM_iff]
          refine ⟨h.1, gForm_mono h.2 (fun s h => ?_) (fun s h => ⟨h.1, by rw [hf]; exact ⟨h.2.1, ih _ _ _ h.2.2⟩⟩)⟩
          unfold light2 at h
          split at h
          · rename_i c x he; rw [he]; exact ⟨h.1, h.2.1, by rw [hf]; exact ⟨h.2.2.1, ih _ _ _ h.2.2.2⟩⟩
          · rename_i c id b x he; rw [he]; exact ⟨h.1, h.2.1, h.2.2.1, h.2.2.2.1, h.2.2.2.2.1, ih _ _ _ h.2.2.2.2.2⟩
          · exact h.elim

@[congr] theorem wrX_congr {l : List Pl} {R R' M M' : RM} (h : s = s') (hR : R = R') (hM : M = M') : wrX C ops K l R M s = wrX C ops K l R' M' s' := by rw [h, hR, hM]

def wr1 (C : Cx) (ops : List Oper) (K : ASt → Prop) (i : Nat) (heavy flag : Bool) (cs : List Nat) (l : List Pl) (R M : RM) (s : ASt) : Option Oper → Prop
  | none => False
  | some o => match heavy, flag with
    | true, _ => gForm ops o s (fun s => wopM C (pickI cs R) (pickI cs M) o.dst o.op s (wrX C ops K l R M)) (skip1 C (wrX C ops K l) o.dst R M)
    | false, false => noM (pickI cs M) s o.op.operands.toList ∧ gForm ops o s (fun s => light1 C (wrX C ops K l) o.dst R M s (eff C.P s (o.dst.getD 0) o.op)) (skip1 C (wrX C ops K l) o.dst R M)
    | false, true => noM (pickI cs M) s o.op.operands.toList ∧
        gForm ops o s (fun s => light2 C (wrX C ops K l) o.dst i (lookRefs s o.op) (pickI cs R) (pickI cs M) R M s (eff C.P s (o.dst.getD 0) o.op)) (fun s => skip2 C (wrX C ops K l) o.dst i (lookRefs s o.op) R M s)
@[congr] theorem wr1_congr {i : Nat} {heavy flag : Bool} {cs : List Nat} {l : List Pl} {R M : RM} {o o' : Option Oper} (h : s = s') (ho : o = o') : wr1 C ops K i heavy flag cs l R M s o = wr1 C ops K i heavy flag cs l R M s' o' := by rw [h, ho]
theorem wrX_nil {R M : RM} : wrX C ops K [] R M s = K s := rfl
theorem wrX_cons {i : Nat} {heavy flag : Bool} {cs : List Nat} {l : List Pl} {R M : RM} : wrX C ops K (⟨i, heavy, flag, cs⟩ :: l) R M s = wr1 C ops K i heavy flag cs l R M s (ops[i]?) := by
  rw [wrX]
  generalize ops[i]? = e
  cases e with
  | none => rfl
  | some o => cases heavy <;> cases flag <;> rfl
theorem wr1_heavy {i : Nat} {flag : Bool} {cs : List Nat} {l : List Pl} {R M : RM} {o : Oper} : wr1 C ops K i true flag cs l R M s (some o) = gForm ops o s (fun s => wopM C (pickI cs R) (pickI cs M) o.dst o.op s (wrX C ops K l R M)) (skip1 C (wrX C ops K l) o.dst R M) := rfl
theorem wr1_light {i : Nat} {cs : List Nat} {l : List Pl} {R M : RM} {o : Oper} : wr1 C ops K i false false cs l R M s (some o) = (noM (pickI cs M) s o.op.operands.toList ∧ gForm ops o s (fun s => light1 C (wrX C ops K l) o.dst R M s (eff C.P s (o.dst.getD 0) o.op)) (skip1 C (wrX C ops K l) o.dst R M)) := rfl
theorem wr1_flag {i : Nat} {cs : List Nat} {l : List Pl} {R M : RM} {o : Oper} : wr1 C ops K i false true cs l R M s (some o) = (noM (pickI cs M) s o.op.operands.toList ∧
        gForm ops o s (fun s => light2 C (wrX C ops K l) o.dst i (lookRefs s o.op) (pickI cs R) (pickI cs M) R M s (eff C.P s (o.dst.getD 0) o.op)) (fun s => skip2 C (wrX C ops K l) o.dst i (lookRefs s o.op) R M s)) := rfl
@[congr] theorem noM_congr {ids ids' : List Nat} {xs : List Operand} (h : ids = ids') : noM ids s xs = noM ids' s xs := by rw [h]
@[congr] theorem gForm_congr {o : Oper} {A B : ASt → Prop} (h : s = s') : gForm ops o s A B = gForm ops o s' A B := by rw [h]
theorem pickI_nil {cs : List Nat} : pickI cs [] = [] := rfl
theorem pickI_none {R : RM} : pickI [] R = [] := by simp [pickI]
theorem pickI_cons {cs : List Nat} {i id : Nat} {R : RM} : pickI cs ((i, id) :: R) = if cs.contains i then id :: pickI cs R else pickI cs R := by
  simp only [pickI, List.filter_cons]
  split <;> rfl
theorem orefs_some {x : Operand} {t : AT} (h : s.ev x = some t) : orefs s x = t.refs := by simp [orefs, h]
def refsO : Option AT → List Nat
  | some t => t.refs
  | none => []
theorem orefs_eq {x : Operand} : orefs s x = refsO (s.ev x) := by unfold orefs refsO; rfl
theorem refsO_some {t : AT} : refsO (some t) = t.refs := rfl
theorem refsO_none : refsO none = [] := rfl
theorem lookRefs_move {x : Operand} : lookRefs s (.move x) = [] := rfl
theorem lookRefs_assign {x : Operand} : lookRefs s (.assign x) = [] := rfl
theorem lookRefs_pick {c x y : Operand} : lookRefs s (.pick c x y) = [] := rfl
theorem lookRefs_binOp {op : BinOp} {t u : TypeId} {x y : Operand} : lookRefs s (.binOp op t x y u) = [] := rfl
theorem lookRefs_unOp {op : UnOp} {t : TypeId} {x : Operand} : lookRefs s (.unOp op t x) = [] := rfl
theorem lookRefs_field {t : TypeId} {x : Operand} {f : Nat} : lookRefs s (.field t x f) = [] := rfl
theorem lookRefs_index {t : TypeId} {x i : Operand} : lookRefs s (.index t x i) = [] := rfl
theorem lookRefs_extract {x : Operand} {k : Nat} : lookRefs s (.extract x k) = [] := rfl
theorem lookRefs_load {t : TypeId} {x : Operand} : lookRefs s (.load t x) = opRefs s (Op.load t x).operands.toList := rfl
theorem lookRefs_nilCheck {x : Operand} : lookRefs s (.nilCheck x) = opRefs s (Op.nilCheck x).operands.toList := rfl
theorem lookRefs_convert {t u : TypeId} {x : Operand} : lookRefs s (.convert t u x) = opRefs s (Op.convert t u x).operands.toList := rfl
theorem lookRefs_makeFunc {f : Fn} {fs cs : Array Operand} : lookRefs s (.makeFunc f fs cs) = opRefs s (Op.makeFunc f fs cs).operands.toList := rfl
theorem lookRefs_build {t : TypeId} {ps : Array (Nat × Operand)} : lookRefs s (.build t ps) = opRefs s (Op.build t ps).operands.toList := rfl
theorem lookRefs_buildSlice {t : TypeId} {n : Nat} {ps : Array (Nat × Operand)} : lookRefs s (.buildSlice t n ps) = opRefs s (Op.buildSlice t n ps).operands.toList := rfl
theorem lookRefs_alloc {t : TypeId} : lookRefs s (.alloc t) = opRefs s (Op.alloc t).operands.toList := rfl
theorem lookRefs_box {t : TypeId} {x : Operand} : lookRefs s (.box t x) = opRefs s (Op.box t x).operands.toList := rfl
theorem lookRefs_slice {t : TypeId} {x : Operand} {lo hi mx : Option Operand} : lookRefs s (.slice t x lo hi mx) = opRefs s (Op.slice t x lo hi mx).operands.toList := rfl
theorem lookRefs_fieldAddr {t : TypeId} {x : Operand} {f : Nat} : lookRefs s (.fieldAddr t x f) = opRefs s (Op.fieldAddr t x f).operands.toList := rfl
theorem lookRefs_indexAddr {t : TypeId} {x i : Operand} : lookRefs s (.indexAddr t x i) = opRefs s (Op.indexAddr t x i).operands.toList := rfl
theorem lookRefs_call {c : Call} : lookRefs s (.call c) = opRefs s (Op.call c).operands.toList := rfl
theorem opRefs_nil : opRefs s [] = [] := rfl
theorem opRefs_cons {x : Operand} {l : List Operand} : opRefs s (x :: l) = refsO (s.ev x) ++ opRefs s l := by rw [← orefs_eq]; rfl

/-- **A REGION THAT DRAWS ITS ORDER, BY A PLAN** -/
theorem WP.planX {id : Nat} {ops : Array Oper} (l : List Pl) (hm : C.P.follows .mixedOrders = true) (hl : (planOk ops l (Array.replicate ops.size false) [] && sitesOk ops && (l.length == ops.size)) = true) (h : wrX C ops.toList (Q .normal) l [] [] s) : WP C (.region id ops true) Q s :=
  WP.plan l hm hl (wrX_wrun _ _ _ _ h)

theorem eff_move {P : Program} {d : Nat} {x : Operand} : eff P s d (.move x) = effMove (s.ev x) := rfl
theorem eff_assign {P : Program} {d : Nat} {x : Operand} : eff P s d (.assign x) = effMove (s.ev x) := rfl
theorem eff_pick {P : Program} {d : Nat} {c x y : Operand} : eff P s d (.pick c x y) = effPick (s.ev c) (s.ev x) (s.ev y) := rfl
theorem eff_alloc {P : Program} {d : Nat} {t : TypeId} : eff P s d (.alloc t) = effAlloc P s.h d t := rfl
theorem eff_box {P : Program} {d : Nat} {t : TypeId} {x : Operand} : eff P s d (.box t x) = effBox s.h d t (s.ev x) := rfl
theorem eff_build {P : Program} {d : Nat} {t : TypeId} {ps : Array (Nat × Operand)} : eff P s d (.build t ps) = effBuild P t (evParts s ps.toList) := rfl
theorem eff_buildSlice {P : Program} {d : Nat} {t : TypeId} {n : Nat} {ps : Array (Nat × Operand)} : eff P s d (.buildSlice t n ps) = effBuildSlice P s.h d t n (evParts s ps.toList) := rfl
theorem eff_load {P : Program} {d : Nat} {t : TypeId} {x : Operand} : eff P s d (.load t x) = effLoad P s.h t (s.ev x) := rfl
theorem eff_store {P : Program} {d : Nat} {t : TypeId} {x y : Operand} : eff P s d (.store t x y) = effStore P s.h t (s.ev x) (s.ev y) := rfl
theorem eff_nilCheck {P : Program} {d : Nat} {x : Operand} : eff P s d (.nilCheck x) = effNil s.h (s.ev x) := rfl
theorem eff_binOp {P : Program} {d : Nat} {op : BinOp} {t u : TypeId} {x y : Operand} : eff P s d (.binOp op t x y u) = effBin P op t (s.ev x) (s.ev y) := rfl
theorem eff_unOp {P : Program} {d : Nat} {op : UnOp} {t : TypeId} {x : Operand} : eff P s d (.unOp op t x) = effUn op (s.ev x) := rfl
theorem eff_convert {P : Program} {d : Nat} {t u : TypeId} {x : Operand} : eff P s d (.convert t u x) = effConv P t u (s.ev x) := rfl
theorem eff_makeFunc {P : Program} {d : Nat} {f : Fn} {fs cs : Array Operand} : eff P s d (.makeFunc f fs cs) = (if fs.size = 0 then effFunc f (evCaps s cs.toList) else .bad) := rfl
def sliceE (P : Program) (t : TypeId) (h : Heap) (x : Option AT) : Option (Option AT) → Option (Option AT) → Eff
  | some l, some u => effSlice P h t x l u
  | _, _ => .bad
theorem eff_slice {P : Program} {d : Nat} {t : TypeId} {x : Operand} {lo hi : Option Operand} : eff P s d (.slice t x lo hi none) = sliceE P t s.h (s.ev x) (evOpt s lo) (evOpt s hi) := rfl
theorem eff_fieldAddr {P : Program} {d : Nat} {t : TypeId} {x : Operand} {f : Nat} : eff P s d (.fieldAddr t x f) = effFieldAddr P s.h t f (s.ev x) := rfl
theorem eff_field {P : Program} {d : Nat} {t : TypeId} {x : Operand} {f : Nat} : eff P s d (.field t x f) = effField P t f (s.ev x) := rfl
theorem eff_indexAddr {P : Program} {d : Nat} {t : TypeId} {x i : Operand} : eff P s d (.indexAddr t x i) = effIndexAddr P s.h t (s.ev x) (s.ev i) := rfl
theorem eff_index {P : Program} {d : Nat} {t : TypeId} {x i : Operand} : eff P s d (.index t x i) = effIndex P t (s.ev x) (s.ev i) := rfl
theorem eff_extract {P : Program} {d : Nat} {k : Nat} {x : Operand} : eff P s d (.extract x k) = effExtract k (s.ev x) := rfl
theorem eff_len {P : Program} {d : Nat} {x : Operand} {t : TypeId} : eff P s d (.call { callee := .builtin .len, args := #[x], argTypes := #[t] }) = effLen P s.h t (s.ev x) := rfl
theorem eff_max {P : Program} {d : Nat} {x y : Operand} {ts : Array TypeId} : eff P s d (.call { callee := .builtin .max, args := #[x, y], argTypes := ts }) = effMinMax true (s.ev x) (s.ev y) := rfl
theorem eff_min {P : Program} {d : Nat} {x y : Operand} {ts : Array TypeId} : eff P s d (.call { callee := .builtin .min, args := #[x, y], argTypes := ts }) = effMinMax false (s.ev x) (s.ev y) := rfl
theorem eff_append {P : Program} {d : Nat} {x y : Operand} {t u : TypeId} : eff P s d (.call { callee := .builtin .append, args := #[x, y], argTypes := #[t, u] }) = effAppend P s.h d t u (s.ev x) (s.ev y) := rfl
@[congr] theorem eff_congr' {P : Program} {d d' : Nat} {op : Op} (h : s = s') (hd : d = d') : eff P s d op = eff P s' d' op := by rw [h, hd]

/-- a heavy one -/
def heavyK (C : Cx) (S M : List Nat) (d : Option Nat) (K : ASt → Prop) (s : ASt) (e : Eff) : Prop := runEffM C S M d s K e
@[congr] theorem heavyK_congr {S S' M M' : List Nat} {d : Option Nat} {e e' : Eff} (h : s = s') (he : e = e') (hS : S = S') (hM : M = M') : heavyK C S M d K s e = heavyK C S' M' d K s' e' := by rw [h, he, hS, hM]
theorem heavyK_val {S M : List Nat} {d : Option Nat} {c : Prop} {x : AT} : heavyK C S M d K s (.val c x) = (c ∧ okDst C.N d ∧ K (s.put d x)) := rfl
theorem heavyK_put {S M : List Nat} {d : Option Nat} {c : Prop} {id : Nat} {b : TypeId × List AV} {x : AT} : heavyK C S M d K s (.put c id b (some x)) = (c ∧ okDst C.N d ∧ noId id S ∧ noId id M ∧ K (ASt.put { s with h := upd s.h id (some (some b)) } d x)) := rfl
theorem heavyK_store {S M : List Nat} {d : Option Nat} {c : Prop} {id : Nat} {b : TypeId × List AV} : heavyK C S M d K s (.put c id b none) = (c ∧ d = none ∧ noId id S ∧ noId id M ∧ K { s with h := upd s.h id (some (some b)) }) := rfl
@[congr] theorem wopM_congr {S S' M M' : List Nat} {d : Option Nat} {op : Op} (h : s = s') (hS : S = S') (hM : M = M') : wopM C S M d op s K = wopM C S' M' d op s' K := by rw [h, hS, hM]
theorem wopM_call {S M : List Nat} {d : Option Nat} {f : Operand} {args : Array Operand} {ts : Array TypeId} : wopM C S M d (.call { callee := .value f, args := args, argTypes := ts }) s K = (noM M s (Op.call { callee := .value f, args := args, argTypes := ts }).operands.toList ∧ callM C S M s d K (s.ev f) (evArgs s args.toList)) := by
  simp only [wopM, noM_iff]
theorem wopM_store {S M : List Nat} {d : Option Nat} {t : TypeId} {x y : Operand} : wopM C S M d (.store t x y) s K = (noM M s (Op.store t x y).operands.toList ∧ heavyK C S M d K s (effStore C.P s.h t (s.ev x) (s.ev y))) := by
  simp only [wopM, noM_iff]; rfl
theorem wopM_append {S M : List Nat} {d : Option Nat} {t u : TypeId} {x y : Operand} : wopM C S M d (.call { callee := .builtin .append, args := #[x, y], argTypes := #[t, u] }) s K = (noM M s (Op.call { callee := .builtin .append, args := #[x, y], argTypes := #[t, u] }).operands.toList ∧ heavyK C S M d K s (effAppend C.P s.h (d.getD 0) t u (s.ev x) (s.ev y))) := by
  simp only [wopM, noM_iff]; rfl
theorem wopM_alloc {S M : List Nat} {d : Option Nat} {t : TypeId} : wopM C S M d (.alloc t) s K = (noM M s (Op.alloc t).operands.toList ∧ heavyK C S M d K s (effAlloc C.P s.h (d.getD 0) t)) := by
  simp only [wopM, noM_iff]; rfl
theorem wopM_assign {S M : List Nat} {d : Option Nat} {x : Operand} : wopM C S M d (.assign x) s K = (noM M s (Op.assign x).operands.toList ∧ heavyK C S M d K s (effMove (s.ev x))) := by
  simp only [wopM, noM_iff]; rfl
@[congr] theorem callM_congr {S S' M M' : List Nat} {d : Option Nat} {f f' : Option AT} {as as' : Option (List AT)} (h : s = s') (hf : f = f') (ha : as = as') (hS : S = S') (hM : M = M') : callM C S M s d K f as = callM C S' M' s' d K f' as' := by rw [h, hf, ha, hS, hM]
theorem callM_some {S M : List Nat} {d : Option Nat} {g : FuncId} {caps : List AV} {as : List AT} : callM C S M s d K (some (.c (.fn g caps))) (some as) = (okDst C.N d ∧ CallSyn2 C S M g (as ++ caps.map AT.c) d s K) := rfl
@[congr] theorem CallSyn2_congr {S S' M M' : List Nat} {g : FuncId} {as as' : List AT} {d : Option Nat} (h : s = s') (ha : as = as') (hS : S = S') (hM : M = M') : CallSyn2 C S M g as d s K = CallSyn2 C S' M' g as' d s' K := by rw [h, ha, hS, hM]
end
end
end Go.Ab
