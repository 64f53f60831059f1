/- WHAT MAY BE TAKEN FIRST. -/
import Derived.Test.YtpikidekdeglcaaAb20
namespace Go.Ab
open Go
noncomputable section

/-- an operation that writes no memory -/
def lightOp : Op → Bool
  | .move _ | .assign _ | .pick .. | .build .. | .load .. | .nilCheck _ | .binOp .. | .unOp .. | .convert .. | .makeFunc .. | .slice .. | .fieldAddr .. | .field .. | .indexAddr .. | .index .. | .extract .. => true
  | .call { callee := .builtin .len, .. } | .call { callee := .builtin .max, .. } | .call { callee := .builtin .min, .. } => true
  | _ => false
/-- an operation that makes a new block, and writes no other -/
def madeOp : Op → Bool
  | .alloc .. | .box .. | .buildSlice .. => true
  | _ => false

def Eff.isPut : Eff → Option Nat
  | .put _ id _ _ => some id
  | _ => none

theorem light_isPut {P : Program} {s : ASt} {d : Nat} {op : Op} (h : lightOp op = true) : (eff P s d op).isPut = none := by
  have e0 : ∀ x, (effMove x).isPut = none := fun x => by unfold effMove; split <;> rfl
  cases op <;> simp only [lightOp, Bool.false_eq_true] at h <;> simp only [eff]
  case move => exact e0 _
  case assign => exact e0 _
  case pick => unfold effPick; split <;> first | exact e0 _ | rfl
  case build => unfold effBuild; (repeat' split) <;> rfl
  case load => unfold effLoad; (repeat' split) <;> rfl
  case nilCheck => unfold effNil; (repeat' split) <;> rfl
  case binOp => unfold effBin; (repeat' split) <;> rfl
  case unOp => unfold effUn; (repeat' split) <;> rfl
  case convert => unfold effConv; (repeat' split) <;> rfl
  case makeFunc => unfold effFunc; (repeat' split) <;> rfl
  case slice t x lo hi mx =>
    cases mx with
    | some m => rfl
    | none => simp only [eff]; unfold effSlice; (repeat' split) <;> rfl
  case fieldAddr => unfold effFieldAddr; (repeat' split) <;> rfl
  case field => unfold effField; (repeat' split) <;> rfl
  case indexAddr => unfold effIndexAddr; (repeat' split) <;> rfl
  case index => unfold effIndex; (repeat' split) <;> rfl
  case extract => unfold effExtract; (repeat' split) <;> rfl
  case call c =>
    obtain ⟨callee, args, ats⟩ := c
    cases callee with
    | value f => simp at h
    | invoke r m => simp at h
    | builtin b =>
      cases b <;> simp only [Bool.false_eq_true] at h <;> simp only [effBuiltin]
      all_goals split <;> first
        | rfl
        | (simp only [effLen]; (repeat' split) <;> rfl)
        | (simp only [effMinMax]; (repeat' split) <;> rfl)
        | skip
      all_goals simp_all

theorem made_isPut {P : Program} {s : ASt} {d id : Nat} {op : Op} (h : madeOp op = true) (he : (eff P s d op).isPut = some id) : id = site d := by
  cases op <;> simp only [madeOp, Bool.false_eq_true] at h <;> simp only [eff] at he
  case alloc => unfold effAlloc at he; (repeat' split at he) <;> simp_all [Eff.isPut]
  case box => unfold effBox at he; (repeat' split at he) <;> simp_all [Eff.isPut]
  case buildSlice => unfold effBuildSlice at he; (repeat' split at he) <;> simp_all [Eff.isPut]

theorem made_usesSite {op : Op} (h : madeOp op = true) : usesSite op = true := by
  cases op <;> simp_all [madeOp, usesSite]
theorem light_usesSite {op : Op} (h : lightOp op = true) : usesSite op = false := by
  cases op <;> simp_all [lightOp, usesSite]
  split at h <;> simp_all

/-- an operation that does not look at memory -/
def heapFree : Op → Bool
  | .move _ | .assign _ | .pick .. | .binOp .. | .unOp .. | .field .. | .index .. | .extract .. => true
  | _ => false
theorem eff_free {P : Program} {s s' : ASt} {d : Nat} {op : Op} (h : heapFree op = true) (ht : ∀ x ∈ op.operands, s'.ev x = s.ev x) : eff P s' d op = eff P s d op := by
  cases op <;> simp only [heapFree, Bool.false_eq_true] at h <;> simp only [Op.operands] at ht <;> simp only [eff]
  case move x => rw [ht x (by simp)]
  case assign x => rw [ht x (by simp)]
  case pick c x y => rw [ht c (by simp), ht x (by simp), ht y (by simp)]
  case binOp op t x y u => rw [ht x (by simp), ht y (by simp)]
  case unOp op t x => rw [ht x (by simp)]
  case field t x f => rw [ht x (by simp)]
  case index t x i => rw [ht x (by simp), ht i (by simp)]
  case extract x k => rw [ht x (by simp)]

/-- an operation's outcome -/
structure Fx where
  d : Option Nat
  x : Option AT
  hp : Option (Nat × Blk)

def Fx.app (f : Fx) (s : ASt) : ASt :=
  ⟨match f.d with | some k => upd s.t k f.x | none => s.t, match f.hp with | some p => upd s.h p.1 (some (some p.2)) | none => s.h⟩

def FxOp (C : Cx) (d : Option Nat) (op : Op) (s : ASt) (f : Fx) : Prop :=
  match eff C.P s (d.getD 0) op with
  | .val c x => c ∧ okDst C.N d ∧ f = ⟨d, some x, none⟩
  | .put c id b (some x) => c ∧ okDst C.N d ∧ f = ⟨d, some x, some (id, b)⟩
  | _ => False

def FxAt (C : Cx) (ops : Array Oper) (o : Oper) (f : Fx) (s : ASt) : Prop :=
  match o.guard with
  | none => FxOp C o.dst o.op s f
  | some (j, want) => ∃ t g, dstAt ops.toList j = some t ∧ gvOf (s.t t) = some g ∧ (g = some want → FxOp C o.dst o.op s f) ∧ (g ≠ some want → okDst C.N o.dst ∧ f = ⟨o.dst, some (.tup []), none⟩)

section
variable {C : Cx} {ops : Array Oper} {s s' : ASt}

theorem FxOp.d {d : Option Nat} {op : Op} {f : Fx} (h : FxOp C d op s f) : f.d = d := by
  unfold FxOp at h
  split at h
  · rw [h.2.2]
  · rw [h.2.2]
  · exact h.elim

theorem FxAt.d {o : Oper} {f : Fx} (h : FxAt C ops o f s) : f.d = o.dst := by
  unfold FxAt at h
  split at h
  · exact h.d
  · rename_i j want hg
    obtain ⟨t, b, _, _, h1, h2⟩ := h
    by_cases e : b = some want
    · exact (h1 e).d
    · rw [(h2 e).2]

theorem FxOp.hp {d : Option Nat} {op : Op} {f : Fx} (h : FxOp C d op s f) : f.hp.map (·.1) = (eff C.P s (d.getD 0) op).isPut := by
  unfold FxOp at h
  split at h
  · rename_i e; rw [h.2.2, e]; rfl
  · rename_i e; rw [h.2.2, e]; rfl
  · exact h.elim

/-- what it writes: nothing, or its own place -/
theorem FxAt.hp {o : Oper} {f : Fx} (h : FxAt C ops o f s) (hk : lightOp o.op = true ∨ madeOp o.op = true) : ∀ p, f.hp = some p → madeOp o.op = true ∧ p.1 = site (o.dst.getD 0) := by
  have key : FxOp C o.dst o.op s f → ∀ p, f.hp = some p → madeOp o.op = true ∧ p.1 = site (o.dst.getD 0) := by
    intro h p hp
    have := h.hp
    rw [hp] at this
    rcases hk with hk | hk
    · rw [light_isPut hk] at this; cases this
    · exact ⟨hk, made_isPut hk this.symm⟩
  unfold FxAt at h
  split at h
  · exact key h
  · rename_i j want hg
    obtain ⟨t, b, _, _, h1, h2⟩ := h
    by_cases e : b = some want
    · exact key (h1 e)
    · rw [(h2 e).2]
      intro p hp; cases hp

theorem FxOp.congr {d : Option Nat} {op : Op} {f : Fx} (h : FxOp C d op s f) (ht : ∀ x ∈ op.operands, s'.ev x = s.ev x) (hh : heapFree op = false → ∀ x ∈ op.operands, ∀ id ∈ orefs s x, s'.h id = s.h id) (hs : usesSite op = true → s'.h (site (d.getD 0)) = s.h (site (d.getD 0))) : FxOp C d op s' f := by
  unfold FxOp at *
  cases hf : heapFree op with
  | false => rw [eff_congr ht (hh hf) hs]; exact h
  | true => rw [eff_free hf ht]; exact h

theorem dstAt_bind : ∀ (l : List Oper) (j t : Nat), dstAt l j = some t → (l[j]?).bind (·.dst) = some t := by
  intro l
  induction l with
  | nil => intro j t h; cases h
  | cons o l ih =>
    intro j t h
    cases j with
    | zero => simpa [dstAt] using h
    | succ j => simpa [dstAt] using ih j t h

theorem not_looks {o : Oper} {d : Nat} (h : d ∉ o.looksAt ops) : (∀ x ∈ o.op.operands, x ≠ .tmp d) ∧ ∀ g want t, o.guard = some (g, want) → dstAt ops.toList g = some t → t ≠ d := by
  refine ⟨fun x hx e => h ?_, fun g want t hg ht e => h ?_⟩
  · subst e
    exact List.mem_append_left _ (List.mem_filterMap.2 ⟨.tmp d, by simpa using hx, rfl⟩)
  · subst e
    refine List.mem_append_right _ ?_
    simp only [hg]
    have := dstAt_bind _ _ _ ht
    have e : ops.toList[g]? = ops[g]? := by simp
    rw [e] at this
    rw [this]
    simp

theorem ev_upd {t : Nat → Option AT} {h : Heap} {k : Nat} {v : Option AT} {x : Operand} (hx : x ≠ .tmp k) (h' : Heap) : ASt.ev ⟨upd t k v, h'⟩ x = ASt.ev ⟨t, h⟩ x := by
  cases x with
  | tmp j => exact upd_ne _ _ (fun e => hx (by rw [e]))
  | _ => rfl

theorem FxAt.congr {o : Oper} {f : Fx} (h : FxAt C ops o f s) (ht : ∀ k, k ∈ o.looksAt ops → s'.t k = s.t k) (hh : heapFree o.op = false → ∀ x ∈ o.op.operands, ∀ id ∈ orefs s x, s'.h id = s.h id) (hs : usesSite o.op = true → s'.h (site (o.dst.getD 0)) = s.h (site (o.dst.getD 0))) : FxAt C ops o f s' := by
  have hev : ∀ x ∈ o.op.operands, s'.ev x = s.ev x := fun x hx => ev_congr fun k e => ht k (by
    subst e
    exact List.mem_append_left _ (List.mem_filterMap.2 ⟨.tmp k, by simpa using hx, rfl⟩))
  unfold FxAt at *
  split
  · rename_i hg
    rw [hg] at h
    exact h.congr hev hh hs
  · rename_i j want hg
    rw [hg] at h
    obtain ⟨t, b, h1, h2, h3, h4⟩ := h
    have htt : s'.t t = s.t t := ht t (by
      refine List.mem_append_right _ ?_
      simp only [hg]
      have := dstAt_bind _ _ _ h1
      have e : ops.toList[j]? = ops[j]? := by simp
      rw [e] at this
      rw [this]
      simp)
    exact ⟨t, b, h1, by rw [htt]; exact h2, fun e => (h3 e).congr hev hh hs, h4⟩

theorem orefs_congr {x : Operand} (h : s'.ev x = s.ev x) : orefs s' x = orefs s x := by unfold orefs; rw [h]

theorem upd_comm {α : Type} (f : Nat → α) {k j : Nat} (u v : α) (h : k ≠ j) : upd (upd f k u) j v = upd (upd f j v) k u := by
  funext i
  by_cases e1 : i = j
  · subst e1
    rw [upd_same, upd_ne _ _ (fun e => h e.symm), upd_same]
  · rw [upd_ne _ _ e1]
    by_cases e2 : i = k
    · subst e2; rw [upd_same, upd_same]
    · rw [upd_ne _ _ e2, upd_ne _ _ e2, upd_ne _ _ e1]

theorem mergeL_upd {τ : Nat → Nat} {h : Heap} {id : Nat} {v : Option (Option Blk)} : ∀ (l : List (Option Blk)) (k : Nat), (∀ j, j < l.length → τ (k + j) ≠ id) → mergeL τ k l (upd h id v) = upd (mergeL τ k l h) id v
  | [], k, _ => rfl
  | b :: l, k, hn => by
    simp only [mergeL]
    rw [mergeL_upd l (k + 1) (fun j hj => by
      have := hn (j + 1) (by simp; omega)
      rwa [show k + (j + 1) = k + 1 + j by omega] at this), upd_comm (k := id) (j := τ k) _ _ _ (fun e => hn 0 (by simp) e.symm)]

theorem AvOk.congr {h h' : Heap} {τ : Nat → Nat} {B : List Nat} {x y : AV} (hx : AvOk h τ B x y) (hh : ∀ id ∈ B, h' id = h id) : AvOk h' τ B x y := by
  cases hx with
  | plain e ho => exact .plain e ho
  | bor hB h1 h2 h3 h4 h5 h6 => exact .bor hB ((hh _ hB).trans h1) h2 h3 h4 h5 h6
theorem AtOk.congr {h h' : Heap} {τ : Nat → Nat} {B : List Nat} {x y : AT} (hx : AtOk h τ B x y) (hh : ∀ id ∈ B, h' id = h id) : AtOk h' τ B x y := by
  cases hx with
  | c hx => exact .c (hx.congr hh)
  | agg hl hx => exact .agg hl fun i h1 h2 => (hx i h1 h2).congr hh

/-- what is held of an operation that has been taken first -/
structure Held (C : Cx) (ops : Array Oper) (oi : Oper) (f : Fx) (flag : Bool) (Ri Mx : List Nat) (s : ASt) : Prop where
  fx : FxAt C ops oi f s
  refs : flag = true → heapFree oi.op = false → ∀ x ∈ oi.op.operands, ∀ id ∈ orefs s x, id ∈ Ri
  dom : flag = true → ∀ id ∈ Ri, s.h id ≠ none
  no : ∀ id ∈ Mx, ∀ x ∈ oi.op.operands, id ∉ orefs s x

theorem Held.next {oi : Oper} {f : Fx} {flag : Bool} {Ri Mx : List Nat} (h : Held C ops oi f flag Ri Mx s) (ht : ∀ k, k ∈ oi.looksAt ops → s'.t k = s.t k)
    (hh : (∀ id, s'.h id = s.h id) ∨ flag = true ∧ (∀ id ∈ Ri, s'.h id = s.h id) ∧ (usesSite oi.op = true → s'.h (site (oi.dst.getD 0)) = s.h (site (oi.dst.getD 0)))) : Held C ops oi f flag Ri Mx s' := by
  have hev : ∀ x ∈ oi.op.operands, s'.ev x = s.ev x := fun x hx => ev_congr fun k e => ht k (by
    subst e
    exact List.mem_append_left _ (List.mem_filterMap.2 ⟨.tmp k, by simpa using hx, rfl⟩))
  refine ⟨h.fx.congr ht ?_ ?_, fun hf hfr x hx id hid => h.refs hf hfr x hx id (by rwa [orefs_congr (hev x hx)] at hid), fun hf id hid => ?_, fun id hid x hx hi => h.no id hid x hx (by rwa [orefs_congr (hev x hx)] at hi)⟩
  · intro hfr x hx id hid
    rcases hh with hh | ⟨hf, hh, _⟩
    · exact hh id
    · exact hh id (h.refs hf hfr x hx id hid)
  · intro hu
    rcases hh with hh | ⟨_, _, hh⟩
    · exact hh _
    · exact hh hu
  · rcases hh with hh | ⟨_, hh, _⟩
    · rw [hh]; exact h.dom hf id hid
    · rw [hh id hid]; exact h.dom hf id hid
end
end
end Go.Ab
