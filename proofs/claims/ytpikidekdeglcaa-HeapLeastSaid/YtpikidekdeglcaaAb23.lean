/- ALL ORDERS, BY ONE. -/
import Derived.Test.YtpikidekdeglcaaAb22
namespace Go.Ab
open Go
noncomputable section

/-- an operation of the plan -/
structure Pl where
  i : Nat
  heavy : Bool        -- the only one that may come up
  flag : Bool         -- taken first, and another may come ahead of it that writes
  cs : List Nat       -- those taken first that it may come ahead of, flagged

section
variable {C : Cx} {ops : Array Oper} {s s' : ASt}

def pickI (cs : List Nat) (R : List (Nat × Nat)) : List Nat := (R.filter fun p => cs.contains p.1).map (·.2)

/-- the blocks that an operation's operands refer to -/
def opRefs (s : ASt) : List Operand → List Nat
  | [] => []
  | x :: l => orefs s x ++ opRefs s l

theorem mem_opRefs {s : ASt} {x : Operand} {id : Nat} : ∀ {l : List Operand}, x ∈ l → id ∈ orefs s x → id ∈ opRefs s l
  | y :: l, hx, hid => by
    simp only [opRefs, List.mem_append]
    rcases List.mem_cons.1 hx with rfl | h
    · exact .inl hid
    · exact .inr (mem_opRefs h hid)

/-- the blocks that it looks at -/
def lookRefs (s : ASt) (op : Op) : List Nat := match heapFree op with
  | true => []
  | false => opRefs s op.operands.toList
theorem mem_lookRefs {s : ASt} {op : Op} {x : Operand} {id : Nat} (hf : heapFree op = false) (hx : x ∈ op.operands.toList) (hid : id ∈ orefs s x) : id ∈ lookRefs s op := by
  unfold lookRefs; rw [hf]; exact mem_opRefs hx hid

/-- one operation taken first -/
def lightK (C : Cx) (p : Pl) (R M : List (Nat × Nat)) (o : Oper) (K : List (Nat × Nat) → List (Nat × Nat) → ASt → Prop) (s : ASt) : Eff → Prop
  | .val c x => c ∧ okDst C.N o.dst ∧
      (if p.flag then (∀ id ∈ lookRefs s o.op, s.h id ≠ none) ∧ K ((lookRefs s o.op).map (fun id => (p.i, id)) ++ R) M (s.put o.dst x)
       else K R M (s.put o.dst x))
  | .put c id b (some x) => c ∧ okDst C.N o.dst ∧ (∀ i ∈ pickI p.cs R, i ≠ id) ∧ (∀ i ∈ pickI p.cs M, i ≠ id) ∧ (∀ id ∈ lookRefs s o.op, s.h id ≠ none) ∧
      K ((lookRefs s o.op).map (fun id => (p.i, id)) ++ R) ((p.i, id) :: M) (ASt.put { s with h := upd s.h id (some (some b)) } o.dst x)
  | _ => False

def skipK (C : Cx) (p : Pl) (R M : List (Nat × Nat)) (o : Oper) (K : List (Nat × Nat) → List (Nat × Nat) → ASt → Prop) (s : ASt) : Prop :=
  okDst C.N o.dst ∧ if p.flag then (∀ id ∈ lookRefs s o.op, s.h id ≠ none) ∧ K ((lookRefs s o.op).map (fun id => (p.i, id)) ++ R) M (s.del o.dst) else K R M (s.del o.dst)

/-- an operation under its guard: carried out (A), or passed over (B) -/
def gForm (all : List Oper) (o : Oper) (s : ASt) (A B : ASt → Prop) : Prop :=
  match o.guard with
  | none => A s
  | some (j, want) => match dstAt all j with
    | some t => match s.t t with
      | some (.c (.s (.bool b))) => (b = want → A { s with t := upd s.t t (some (.c (.s (.bool want)))) }) ∧ (b = (!want) → B { s with t := upd s.t t (some (.c (.s (.bool (!want))))) })
      | some (.tup []) => B s
      | _ => False
    | none => False

theorem upd_self {t : Nat → Option AT} {k : Nat} {x : Option AT} (h : t k = x) : upd t k x = t := by
  funext j; by_cases e : j = k
  · subst e; rw [upd_same, h]
  · rw [upd_ne _ _ e]

theorem gForm_spec {all : List Oper} {o : Oper} {A B : ASt → Prop} (h : gForm all o s A B) :
    (o.guard = none ∧ A s) ∨ ∃ j want t g, o.guard = some (j, want) ∧ dstAt all j = some t ∧ gvOf (s.t t) = some g ∧ (g = some want → A s) ∧ (g ≠ some want → B s) := by
  unfold gForm at h
  split at h
  · rename_i hg; exact .inl ⟨hg, h⟩
  · rename_i j want hg
    split at h
    · rename_i t ht
      split at h
      · rename_i b hb
        refine .inr ⟨j, want, t, some b, hg, ht, by rw [hb]; rfl, fun e => ?_, fun e => ?_⟩
        · cases e
          have := h.1 rfl
          rw [upd_self hb] at this
          exact this
        · have e2 : b = !want := (by decide : ∀ x y : Bool, ¬ x = y → x = !y) b want (fun e1 => e (by rw [e1]))
          have := h.2 e2
          rw [upd_self (by rw [hb, e2])] at this
          exact this
      · rename_i hb
        exact .inr ⟨j, want, t, none, hg, ht, by rw [hb]; rfl, (fun e => by cases e), fun _ => h⟩
      · exact h.elim
    · exact h.elim

def wrun (C : Cx) (ops : List Oper) (K : ASt → Prop) : List Pl → List (Nat × Nat) → List (Nat × Nat) → ASt → Prop
  | [], _, _, s => K s
  | p :: l, R, M, s => match ops[p.i]? with
    | none => False
    | some o => match p.heavy with
      | true => gForm ops o s (fun s => wopM C (pickI p.cs R) (pickI p.cs M) o.dst o.op s (wrun C ops K l R M)) (fun s => okDst C.N o.dst ∧ wrun C ops K l R M (s.del o.dst))
      | false => (∀ id ∈ pickI p.cs M, ∀ x ∈ o.op.operands, id ∉ orefs s x) ∧ gForm ops o s (fun s => lightK C p R M o (wrun C ops K l) s (eff C.P s (o.dst.getD 0) o.op)) (fun s => skipK C p R M o (wrun C ops K l) s)

/-- who comes ahead of whom, as a table -/
def addTo (r : List Nat) (x : Nat) : List Nat := if r.contains x then r else x :: r
def ancOne (acc : List (List Nat)) (es : List Edge) : List Nat := es.foldl (fun r e => if Region.binds .any e then (acc.getD e.on []).foldl addTo (addTo r e.on) else r) []
def ancTab (l : List Oper) : List (List Nat) := l.foldl (fun acc o => acc ++ [ancOne acc o.after.toList]) []

theorem mem_addTo {r : List Nat} {x i : Nat} (h : i ∈ addTo r x) : i = x ∨ i ∈ r := by
  unfold addTo at h
  split at h
  · exact .inr h
  · exact List.mem_cons.1 h
theorem mem_addAll : ∀ {l r : List Nat} {i : Nat}, i ∈ l.foldl addTo r → i ∈ l ∨ i ∈ r
  | [], r, i, h => .inr h
  | x :: l, r, i, h => by
    rcases mem_addAll (l := l) h with h | h
    · exact .inl (List.mem_cons_of_mem _ h)
    · rcases mem_addTo h with rfl | h
      · exact .inl (by simp)
      · exact .inr h
theorem mem_ancOne' {acc : List (List Nat)} {i : Nat} : ∀ {es : List Edge} {r : List Nat}, i ∈ es.foldl (fun r e => if Region.binds .any e then (acc.getD e.on []).foldl addTo (addTo r e.on) else r) r → i ∈ r ∨ ∃ e ∈ es, Region.binds .any e = true ∧ (e.on = i ∨ i ∈ acc.getD e.on [])
  | [], r, h => .inl h
  | e :: es, r, h => by
    simp only [List.foldl_cons] at h
    rcases mem_ancOne' (es := es) h with h | ⟨e', he', h'⟩
    · split at h
      · rename_i hb
        rcases mem_addAll h with h | h
        · exact .inr ⟨e, by simp, hb, .inr h⟩
        · rcases mem_addTo h with rfl | h
          · exact .inr ⟨e, by simp, hb, .inl rfl⟩
          · exact .inl h
      · exact .inl h
    · exact .inr ⟨e', List.mem_cons_of_mem _ he', h'⟩
theorem desc_mono {n j i : Nat} (h : desc ops n j i = true) : desc ops (n + 1) j i = true := by
  induction n generalizing j with
  | zero => cases h
  | succ n ih =>
    rw [desc] at h ⊢
    split at h
    · rename_i o ho
      obtain ⟨e, he, hb⟩ := Array.any_eq_true'.1 h
      simp only [Bool.and_eq_true, Bool.or_eq_true] at hb
      exact Array.any_eq_true'.2 ⟨e, he, by
        simp only [Bool.and_eq_true, Bool.or_eq_true]
        exact ⟨hb.1, hb.2.imp id ih⟩⟩
    · cases h
theorem desc_le {n m j i : Nat} (h : desc ops n j i = true) (hm : n ≤ m) : desc ops m j i = true := by
  induction hm with
  | refl => exact h
  | step _ ih => exact desc_mono ih
theorem ancTab_go : ∀ (rest : List Oper) (acc : List (List Nat)), (∀ k (hk : k < rest.length), ops[acc.length + k]? = some rest[k]) → (∀ j i, i ∈ acc.getD j [] → desc ops (j + 1) j i = true) →
    ∀ j i, i ∈ (rest.foldl (fun acc o => acc ++ [ancOne acc o.after.toList]) acc).getD j [] → desc ops (j + 1) j i = true
  | [], acc, _, h2, j, i, h => h2 j i h
  | o :: rest, acc, h1, h2, j, i, h => by
    simp only [List.foldl_cons] at h
    refine ancTab_go rest _ (fun k hk => ?_) (fun j i hj => ?_) j i h
    · have := h1 (k + 1) (by simp; omega)
      simpa [Nat.add_assoc, Nat.add_comm 1 k] using this
    · rcases Nat.lt_trichotomy j acc.length with hlt | heq | hgt
      · refine h2 j i ?_
        simpa [List.getD_eq_getElem?_getD, List.getElem?_append_left hlt] using hj
      · subst heq
        have hj' : i ∈ ancOne acc o.after.toList := by simpa [List.getD_eq_getElem?_getD] using hj
        rcases mem_ancOne' hj' with h | ⟨e, he, hb, h⟩
        · cases h
        · have h0 := h1 0 (by simp)
          simp only [Nat.add_zero, List.getElem_cons_zero] at h0
          rw [desc, h0]
          refine Array.any_eq_true'.2 ⟨e, by simpa using he, ?_⟩
          simp only [Bool.and_eq_true, Bool.or_eq_true, beq_iff_eq]
          refine ⟨hb, h.imp id fun h => ?_⟩
          have hlt : e.on < acc.length := by
            rcases Nat.lt_or_ge e.on acc.length with h' | h'
            · exact h'
            · simp [List.getD_eq_getElem?_getD, List.getElem?_eq_none h'] at h
          exact desc_le (h2 e.on i h) (by omega)
      · simp [List.getD_eq_getElem?_getD, List.getElem?_eq_none (show (acc ++ [ancOne acc o.after.toList]).length ≤ j by simp; omega)] at hj
/-- **THE TABLE IS RIGHT** -/
theorem ancTab_desc {j i : Nat} (hj : j < ops.size) (h : ((ancTab ops.toList).getD j []).contains i = true) : desc ops ops.size j i = true := by
  have h' : i ∈ (ancTab ops.toList).getD j [] := by simpa using h
  have := ancTab_go (ops := ops) ops.toList [] (fun k hk => by simp at hk ⊢) (fun j i h => by simp at h) j i h'
  exact desc_le this (by omega)

/-- the plan's check; 'fl': those taken first so far that are flagged -/
def planGo (ops : Array Oper) (A : List (List Nat)) : List Pl → Array Bool → List Nat → Bool
  | [], listed, _ => (Region.ready .any ops listed).isEmpty
  | p :: l, listed, fl =>
    fl.all (fun i => (A.getD p.i []).contains i || p.cs.contains i) &&
    (match ops[p.i]? with
     | none => false
     | some o =>
       (if p.heavy then (Region.ready .any ops listed == [p.i]) && planGo ops A l (listed.setIfInBounds p.i true) fl
        else (Region.ready .any ops listed).contains p.i && Region.free .any ops listed p.i && (lightOp o.op || (madeOp o.op && p.flag && o.dst.isSome && o.guard.isNone)) &&
          (p.flag || (List.range ops.size).all fun j => j == p.i || listed.getD j true || (A.getD j []).contains p.i || (match ops[j]? with | some oj => lightOp oj.op | none => true)) &&
          planGo ops A l (listed.setIfInBounds p.i true) (if p.flag then p.i :: fl else fl)))
def planOk (ops : Array Oper) (l : List Pl) (listed : Array Bool) (fl : List Nat) : Bool := planGo ops (ancTab ops.toList) l listed fl

def sitesOk (ops : Array Oper) : Bool := ops.all fun o => !usesSite o.op || o.dst.isSome

/-- what is listed is closed -/
def Closed (ops : Array Oper) (listed : Array Bool) : Prop := ∀ j, listed.getD j false = true → ∀ o, ops[j]? = some o → ∀ e ∈ o.after, Region.binds .any e = true → listed.getD e.on false = true

theorem getD_bool {listed : Array Bool} {j : Nat} (h : j < listed.size) (a b : Bool) : listed.getD j a = listed.getD j b := by
  simp [h]

theorem getD_set_self {listed : Array Bool} {i : Nat} (h : i < listed.size) (d : Bool) : (listed.setIfInBounds i true).getD i d = true := by
  simp [h]

theorem ready_lt {listed : Array Bool} {j : Nat} (h : j ∈ Region.ready .any ops listed) : j < listed.size := by
  have := (mem_ready.1 h).1
  rcases Nat.lt_or_ge j listed.size with h' | h'
  · exact h'
  · simp [Array.getElem?_eq_none h'] at this

theorem Closed.set {listed : Array Bool} {j : Nat} (h : Closed ops listed) (hj : j ∈ Region.ready .any ops listed) : Closed ops (listed.setIfInBounds j true) := by
  intro k hk o ho e he hb
  by_cases ekj : j = k
  · subst ekj
    obtain ⟨_, o', ho', hall⟩ := mem_ready.1 hj
    rw [ho] at ho'; cases ho'
    exact getD_set_true (hall e he hb)
  · rw [getD_set_ne false ekj] at hk
    exact getD_set_true (h k hk o ho e he hb)

/-- whoever may come up comes behind nobody who is not listed -/
theorem desc_listed {listed : Array Bool} (hc : Closed ops listed) : ∀ (n j i : Nat), desc ops n j i = true → (∀ o, ops[j]? = some o → ∀ e ∈ o.after, Region.binds .any e = true → listed.getD e.on false = true) → listed.getD i false = true
  | 0, j, i, h, _ => by cases h
  | n + 1, j, i, h, hall => by
    unfold desc at h
    split at h
    · rename_i o ho
      obtain ⟨e, he, hb⟩ := Array.any_eq_true'.1 h
      simp only [Bool.and_eq_true, Bool.or_eq_true, beq_iff_eq] at hb
      have hl := hall o ho e he hb.1
      rcases hb.2 with h1 | h1
      · rw [← h1]; exact hl
      · exact desc_listed hc n e.on i h1 (fun o' ho' e' he' hb' => hc e.on hl o' ho' e' he' hb')
    · cases h

theorem ready_not_desc {listed : Array Bool} (hc : Closed ops listed) {i j n : Nat} (hi : listed.getD i false = false) (hj : j ∈ Region.ready .any ops listed) : desc ops n j i = false := by
  cases h : desc ops n j i with
  | false => rfl
  | true =>
    obtain ⟨_, o, ho, hall⟩ := mem_ready.1 hj
    have := desc_listed hc n j i h (fun o' ho' => by rw [ho] at ho'; cases ho'; exact hall)
    rw [hi] at this; cases this

theorem ready_false {listed : Array Bool} {i : Nat} (hi : i ∈ Region.ready .any ops listed) : listed.getD i false = false := by
  have := (mem_ready.1 hi).1
  rwa [getD_bool (ready_lt hi) true false] at this

theorem atOp_cons {j i id : Nat} {R : List (Nat × Nat)} (h : desc ops ops.size j i = false) : atOp ops j ((i, id) :: R) = id :: atOp ops j R := by
  simp [atOp, h]

theorem mem_atOp_app {j i : Nat} {R : List (Nat × Nat)} {Ri : List Nat} : (∀ id ∈ atOp ops j R, id ∈ atOp ops j (Ri.map (fun id => (i, id)) ++ R)) ∧ (desc ops ops.size j i = false → ∀ id ∈ Ri, id ∈ atOp ops j (Ri.map (fun id => (i, id)) ++ R)) := by
  refine ⟨fun id hid => ?_, fun hd id hid => ?_⟩
  · simp only [atOp, List.filter_append, List.map_append, List.mem_append] at hid ⊢
    exact .inr hid
  · simp only [atOp, List.filter_append, List.map_append, List.mem_append]
    refine .inl ?_
    simp only [List.mem_map, List.mem_filter]
    exact ⟨(i, id), ⟨⟨id, hid, rfl⟩, by simp [hd]⟩, rfl⟩

/-- the operation itself, at its own step -/
theorem FxAt.opG {oi : Oper} {f : Fx} {S M : List Nat} {K : ASt → Prop} (h : FxAt C ops oi f s) (hk : lightOp oi.op = true ∨ madeOp oi.op = true) (hM : ∀ id ∈ M, ∀ x ∈ oi.op.operands, id ∉ orefs s x)
    (hp : ∀ p, f.hp = some p → (∀ i ∈ S, i ≠ p.1) ∧ (∀ i ∈ M, i ≠ p.1)) (hK : K (f.app s)) : opG C ops.toList S M oi s K := by
  have key : FxOp C oi.dst oi.op s f → wopM C S M oi.dst oi.op s K := by
    intro h
    unfold wopM
    refine ⟨hM, ?_⟩
    split
    · rename_i f' args ats hop
      rcases hk with hk | hk <;> rw [hop] at hk <;> simp [lightOp, madeOp] at hk
    · unfold FxOp at h
      split at h
      · rename_i c x he
        rw [he]
        obtain ⟨h1, h2, rfl⟩ := h
        refine ⟨h1, h2, ?_⟩
        have : (⟨oi.dst, some x, none⟩ : Fx).app s = s.put oi.dst x := by cases hd : oi.dst <;> simp [Fx.app, ASt.put]
        rw [← this]; exact hK
      · rename_i c id b x he
        rw [he]
        obtain ⟨h1, h2, rfl⟩ := h
        obtain ⟨p1, p2⟩ := hp _ rfl
        refine ⟨h1, h2, p1, p2, ?_⟩
        have : (⟨oi.dst, some x, some (id, b)⟩ : Fx).app s = ASt.put { s with h := upd s.h id (some (some b)) } oi.dst x := by cases hd : oi.dst <;> simp [Fx.app, ASt.put]
        rw [← this]; exact hK
      · exact h.elim
  unfold FxAt at h
  unfold Ab.opG
  split
  · rename_i hg
    rw [hg] at h
    exact key h
  · rename_i j want hg
    rw [hg] at h
    obtain ⟨t, b, h1, h2, h3, h4⟩ := h
    refine ⟨t, b, h1, h2, fun e => key (h3 e), fun e => ⟨(h4 e).1, ?_⟩⟩
    rw [(h4 e).2] at hK
    have : (⟨oi.dst, some (.tup []), none⟩ : Fx).app s = s.del oi.dst := by cases hd : oi.dst <;> simp [Fx.app, ASt.del]
    rw [← this]; exact hK

/-- **TAKEN FIRST** -/
theorem wany_first {i : Nat} {oi : Oper} {f : Fx} {flag : Bool} {Ri Mi : List Nat} {R M : List (Nat × Nat)} {K : ASt → Prop} (hi : ops[i]? = some oi) (hk : lightOp oi.op = true ∨ madeOp oi.op = true)
    (hsites : sitesOk ops = true) (hdi : madeOp oi.op = true → ∃ d, oi.dst = some d) (hmg : madeOp oi.op = true → oi.guard = none) (hMi : madeOp oi.op = true → site (oi.dst.getD 0) ∈ Mi ∧ flag = true) :
    ∀ (fuel : Nat) (listed : Array Bool) (s : ASt), Closed ops listed →
      (∀ j oj, ops[j]? = some oj → j ≠ i → listed.getD j true = false → (∀ e ∈ oj.after, Region.binds .any e = true → e.on ≠ i) → oi.apart ops oj = true) →
      (flag = true ∨ ∀ j oj, ops[j]? = some oj → j ≠ i → listed.getD j true = false → desc ops ops.size j i = false → lightOp oj.op = true) →
      i ∈ Region.ready .any ops listed → Held C ops oi f flag Ri (atOp ops i M) s →
      (∀ p, f.hp = some p → (∀ k ∈ atOp ops i R, k ≠ p.1) ∧ (∀ k ∈ atOp ops i M, k ≠ p.1)) →
      wany C ops (Ri.map (fun id => (i, id)) ++ R) (Mi.map (fun id => (i, id)) ++ M) K fuel (listed.setIfInBounds i true) (f.app s) → wany C ops R M K (fuel + 1) listed s := by
  intro fuel
  induction fuel with
  | zero =>
    intro listed s hcl _ _ hr hh hp H
    refine ⟨fun h => (by rw [h] at hr; cases hr), fun j hj oj hoj => ?_⟩
    by_cases hji : j = i
    · subst hji
      rw [hi] at hoj; cases hoj
      refine hh.fx.opG hk hh.no hp ?_
      exact ⟨H.1, H.2⟩
    · have := ready_mono hj hji
      rw [H.1] at this
      cases this
  | succ fuel ih =>
    intro listed s hcl hfree hlight hr hh hp H
    refine ⟨fun h => (by rw [h] at hr; cases hr), fun j hj oj hoj => ?_⟩
    by_cases hji : j = i
    · subst hji
      rw [hi] at hoj; cases hoj
      refine hh.fx.opG hk hh.no hp ?_
      have : ∀ fuel' listed' s', wany C ops (Ri.map (fun id => (j, id)) ++ R) (Mi.map (fun id => (j, id)) ++ M) K fuel' listed' s' → wany C ops R M K fuel' listed' s' := by
        intro fuel'
        induction fuel' with
        | zero => intro listed' s' h; exact h
        | succ fuel' ih' =>
          intro listed' s' h
          refine ⟨h.1, fun k hk' ok hok => ?_⟩
          exact opG_mono (h.2 k hk' ok hok) (mem_atOp_app.1) (mem_atOp_app.1) (fun s2 h2 => ih' _ _ h2)
      exact this _ _ _ H
    · have h1 := H.2 j (ready_mono hj hji) oj hoj
      obtain ⟨hjun, oj', hoj', hall⟩ := mem_ready.1 hj
      rw [hoj] at hoj'; cases hoj'
      have hif := ready_false hr
      have hnd := ready_not_desc (n := ops.size) hcl hif hj
      have hnot : ∀ e ∈ oj.after, Region.binds .any e = true → e.on ≠ i := fun e he hb heq => by
        have h1 := hall e he hb
        rw [heq, hif] at h1; cases h1
      have hdj : usesSite oj.op = true → ∃ d, oj.dst = some d := fun hu => by
        have := Array.all_eq_true_iff_forall_mem.1 hsites oj (Array.mem_of_getElem? hoj)
        rw [hu] at this
        exact Option.isSome_iff_exists.1 (by simpa using this)
      have h2 := opG_first (S' := atOp ops j R) (M' := atOp ops j M) hk (hfree j oj hoj hji hjun hnot) (hlight.imp id fun h => .inl (h j oj hoj hji hjun hnd)) (fun _ => mem_atOp_app.2 hnd)
        (fun hm => ⟨mem_atOp_app.2 hnd _ (hMi hm).1, (hMi hm).2⟩) hdi hmg hdj mem_atOp_app.1 mem_atOp_app.1 hh h1
      -- what i looks at, at the next step
      refine opG_mono h2 (fun _ h => h) (fun _ h => h) fun s' h3 => ?_
      have hun' : ∀ k, (listed.setIfInBounds j true).getD k true = false → listed.getD k true = false := fun k hun => by
        by_cases hjk : j = k
        · subst hjk; exact hjun
        · rwa [getD_set_ne true hjk] at hun
      refine ih (listed.setIfInBounds j true) s' (hcl.set hj) (fun k ok hk' hki hun hno => hfree k ok hk' hki (hun' k hun) hno) (hlight.imp id fun h k ok hk' hki hun hnd => h k ok hk' hki (hun' k hun) hnd)
        (ready_mono hr (Ne.symm hji)) h3.1 hp ?_
      rw [Array.setIfInBounds_comm _ _ hji]
      exact h3.2

theorem mem_pickI {j : Nat} {cs : List Nat} {R : List (Nat × Nat)} {fl : List Nat} (hfl : ∀ i ∈ fl, desc ops ops.size j i = true ∨ i ∈ cs) (hR : ∀ p ∈ R, p.1 ∈ fl) : ∀ id ∈ atOp ops j R, id ∈ pickI cs R := by
  intro id hid
  simp only [atOp, pickI, List.mem_map, List.mem_filter] at hid ⊢
  obtain ⟨p, ⟨hp, hd⟩, rfl⟩ := hid
  refine ⟨p, ⟨hp, ?_⟩, rfl⟩
  rcases hfl p.1 (hR p hp) with h | h
  · rw [h] at hd; cases hd
  · simpa using h

/-- **ALL ORDERS, BY THE PLAN'S** -/
theorem wrun_wany {K : ASt → Prop} (hsites : sitesOk ops = true) : ∀ (l : List Pl) (listed : Array Bool) (R M : List (Nat × Nat)) (fl : List Nat) (s : ASt), planOk ops l listed fl = true → Closed ops listed →
    (∀ p ∈ R, p.1 ∈ fl) → (∀ p ∈ M, p.1 ∈ fl) → wrun C ops.toList K l R M s → wany C ops R M K l.length listed s
  | [], listed, R, M, fl, s, hp, hc, hR, hM, h => ⟨by simpa [planOk, planGo] using hp, h⟩
  | p :: l, listed, R, M, fl, s, hp, hc, hR, hM, h => by
    unfold planOk planGo at hp
    simp only [Bool.and_eq_true] at hp
    obtain ⟨hp1, hp2⟩ := hp
    have hfl : ∀ i ∈ fl, desc ops ops.size p.i i = true ∨ i ∈ p.cs := fun i hi => by
      have := List.all_eq_true.1 hp1 i hi
      simp only [Bool.or_eq_true] at this
      rcases this with h1 | h1
      · refine .inl (ancTab_desc ?_ h1)
        rcases Nat.lt_or_ge p.i ops.size with h' | h'
        · exact h'
        · simp [Array.getElem?_eq_none h'] at hp2
      · exact .inr (by simpa using h1)
    unfold wrun at h
    have hoo : ops.toList[p.i]? = ops[p.i]? := by simp
    rw [hoo] at h
    cases ho : ops[p.i]? with
    | none => rw [ho] at hp2; cases hp2
    | some o =>
      rw [ho] at hp2 h
      simp only at hp2 h
      cases hh : p.heavy with
      | true =>
        rw [hh] at hp2 h
        simp only [if_true, Bool.and_eq_true, beq_iff_eq] at hp2 h
        obtain ⟨hr, hp3⟩ := hp2
        refine ⟨fun e => (by rw [hr] at e; cases e), fun j hj oj hoj => ?_⟩
        have hjr := hj
        rw [hr] at hj
        have : j = p.i := by simpa using hj
        subst this
        rw [ho] at hoj; cases hoj
        have hcl : Closed ops (listed.setIfInBounds p.i true) := hc.set hjr
        have rest : ∀ s', wrun C ops.toList K l R M s' → wany C ops R M K l.length (listed.setIfInBounds p.i true) s' := fun s' h' => wrun_wany hsites l _ R M fl s' hp3 hcl hR hM h'
        rcases gForm_spec h with ⟨hg, hA⟩ | ⟨j, want, t, b, hg, ht, hb, hA, hB⟩
        · unfold opG; rw [hg]
          exact wopM_mono hA (mem_pickI hfl hR) (mem_pickI hfl hM) rest
        · unfold opG; rw [hg]
          exact ⟨t, b, ht, hb, fun e => wopM_mono (hA e) (mem_pickI hfl hR) (mem_pickI hfl hM) rest, fun e => ⟨(hB e).1, rest _ (hB e).2⟩⟩
      | false =>
        rw [hh] at hp2 h
        simp only [Bool.false_eq_true, if_false, Bool.and_eq_true, Bool.or_eq_true, List.contains_iff_mem] at hp2 h
        obtain ⟨⟨⟨⟨hr, hfree⟩, hkind⟩, hlight⟩, hp3⟩ := hp2
        obtain ⟨hno, h⟩ := h
        have hcl : Closed ops (listed.setIfInBounds p.i true) := hc.set hr
        have hkd : lightOp o.op = true ∨ madeOp o.op = true := hkind.imp id fun h => h.1.1.1
        have hmd : madeOp o.op = true → p.flag = true ∧ (∃ d, o.dst = some d) ∧ o.guard = none := fun hm => by
          rcases hkind with h | h
          · have := made_usesSite hm
            rw [light_usesSite h] at this; cases this
          · exact ⟨h.1.1.2, Option.isSome_iff_exists.1 h.1.2, by simpa using h.2⟩
        have hnoM : ∀ id ∈ atOp ops p.i M, ∀ x ∈ o.op.operands, id ∉ orefs s x := fun id hid => hno id (mem_pickI hfl hM id hid)
        have hlight' : p.flag = true ∨ ∀ j oj, ops[j]? = some oj → j ≠ p.i → listed.getD j true = false → desc ops ops.size j p.i = false → lightOp oj.op = true := by
          refine hlight.imp id fun h j oj hoj hji hun hnd => ?_
          have h1 := List.all_eq_true.1 h j (List.mem_range.2 (Array.getElem?_eq_some_iff.1 hoj).1)
          have hnt : ((ancTab ops.toList).getD j []).contains p.i = false := by
            cases ht : ((ancTab ops.toList).getD j []).contains p.i with
            | false => rfl
            | true => rw [ancTab_desc (Array.getElem?_eq_some_iff.1 hoj).1 ht] at hnd; cases hnd
          simp only [hoj, Bool.or_eq_true, beq_iff_eq, hji, hun, hnt, Bool.false_eq_true, false_or] at h1
          exact h1
        have step : ∀ (f : Fx) (Ri Mi : List Nat), (madeOp o.op = true → site (o.dst.getD 0) ∈ Mi) → (Ri = [] ∨ p.flag = true) → (Mi = [] ∨ p.flag = true) → Held C ops o f p.flag Ri (atOp ops p.i M) s →
            (∀ q, f.hp = some q → (∀ k ∈ atOp ops p.i R, k ≠ q.1) ∧ (∀ k ∈ atOp ops p.i M, k ≠ q.1)) → wrun C ops.toList K l (Ri.map (fun id => (p.i, id)) ++ R) (Mi.map (fun id => (p.i, id)) ++ M) (f.app s) → wany C ops R M K (l.length + 1) listed s := by
          intro f Ri Mi h1 h2 h3 h4 h5 h6
          refine wany_first ho hkd hsites (fun hm => (hmd hm).2.1) (fun hm => (hmd hm).2.2) (fun hm => ⟨h1 hm, (hmd hm).1⟩) l.length listed s hc (Region.free_spec ho hfree) hlight' hr h4 h5 ?_
          refine wrun_wany hsites l _ _ _ _ _ hp3 hcl ?_ ?_ h6
          · intro q hq
            rcases List.mem_append.1 hq with hq | hq
            · obtain ⟨id, hid, rfl⟩ := List.mem_map.1 hq
              rcases h2 with h2 | h2
              · rw [h2] at hid; cases hid
              · rw [if_pos h2]; simp
            · split
              · exact List.mem_cons_of_mem _ (hR q hq)
              · exact hR q hq
          · intro q hq
            rcases List.mem_append.1 hq with hq | hq
            · obtain ⟨id, hid, rfl⟩ := List.mem_map.1 hq
              rcases h3 with h2 | h2
              · rw [h2] at hid; cases hid
              · rw [if_pos h2]; simp
            · split
              · exact List.mem_cons_of_mem _ (hM q hq)
              · exact hM q hq
        have skip : ∀ g want t b, o.guard = some (g, want) → dstAt ops.toList g = some t → gvOf (s.t t) = some b → b ≠ some want → skipK C p R M o (wrun C ops.toList K l) s → wany C ops R M K (l.length + 1) listed s := by
          intro g want t b hg ht hb e hsk
          have hnm : ¬ madeOp o.op = true := fun hm => by rw [(hmd hm).2.2] at hg; cases hg
          obtain ⟨hk1, hk2⟩ := hsk
          have hfx : FxAt C ops o ⟨o.dst, some (.tup []), none⟩ s := by
            unfold FxAt; rw [hg]
            exact ⟨t, b, ht, hb, fun e2 => absurd e2 e, fun _ => ⟨hk1, rfl⟩⟩
          have happ : (⟨o.dst, some (.tup []), none⟩ : Fx).app s = s.del o.dst := by cases hd : o.dst <;> simp [Fx.app, ASt.del]
          split at hk2
          · rename_i hf
            exact step ⟨o.dst, some (.tup []), none⟩ (lookRefs s o.op) [] (fun hm => absurd hm hnm) (.inr hf) (.inl rfl) ⟨hfx, fun _ hfr x hx id hid => mem_lookRefs hfr (by simpa using hx) hid, fun _ => hk2.1, hnoM⟩ (fun q hq => by cases hq) (by rw [happ]; exact hk2.2)
          · rename_i hf
            exact step ⟨o.dst, some (.tup []), none⟩ [] [] (fun hm => absurd hm hnm) (.inl rfl) (.inl rfl) ⟨hfx, fun hf2 => absurd hf2 hf, fun hf2 => absurd hf2 hf, hnoM⟩ (fun q hq => by cases hq) (by rw [happ]; exact hk2)
        have run : (∀ f, FxOp C o.dst o.op s f → FxAt C ops o f s) → lightK C p R M o (wrun C ops.toList K l) s (eff C.P s (o.dst.getD 0) o.op) → wany C ops R M K (l.length + 1) listed s := by
          intro hfx hlk
          cases hE : eff C.P s (o.dst.getD 0) o.op with
          | bad => rw [hE] at hlk; exact hlk.elim
          | alt c p x y => rw [hE] at hlk; exact hlk.elim
          | val c x =>
            rw [hE] at hlk
            obtain ⟨k1, k2, k3⟩ := hlk
            have hnm : ¬ madeOp o.op = true := fun hm => by
              have hg := (hmd hm).2.2
              have h7 : FxAt C ops o ⟨o.dst, some x, none⟩ s := hfx _ (by unfold FxOp; rw [hE]; exact ⟨k1, k2, rfl⟩)
              exact made_hp hm hg h7 rfl
            have h7 : FxAt C ops o ⟨o.dst, some x, none⟩ s := hfx _ (by unfold FxOp; rw [hE]; exact ⟨k1, k2, rfl⟩)
            have happ : (⟨o.dst, some x, none⟩ : Fx).app s = s.put o.dst x := by cases hd : o.dst <;> simp [Fx.app, ASt.put]
            split at k3
            · rename_i hf
              exact step ⟨o.dst, some x, none⟩ (lookRefs s o.op) [] (fun hm => absurd hm hnm) (.inr hf) (.inl rfl) ⟨h7, fun _ hfr y hy id hid => mem_lookRefs hfr (by simpa using hy) hid, fun _ => k3.1, hnoM⟩ (fun q hq => by cases hq) (by rw [happ]; exact k3.2)
            · rename_i hf
              exact step ⟨o.dst, some x, none⟩ [] [] (fun hm => absurd hm hnm) (.inl rfl) (.inl rfl) ⟨h7, fun hf2 => absurd hf2 hf, fun hf2 => absurd hf2 hf, hnoM⟩ (fun q hq => by cases hq) (by rw [happ]; exact k3)
          | put c id b x =>
            rw [hE] at hlk
            cases x with
            | none => exact hlk.elim
            | some x =>
              obtain ⟨k1, k2, k3, k4, k5, k6⟩ := hlk
              have hm : madeOp o.op = true := by
                rcases hkd with h | h
                · have := light_isPut (P := C.P) (s := s) (d := o.dst.getD 0) h
                  rw [hE] at this; cases this
                · exact h
              have hid : id = site (o.dst.getD 0) := made_isPut hm (by rw [hE]; rfl)
              have h7 : FxAt C ops o ⟨o.dst, some x, some (id, b)⟩ s := hfx _ (by unfold FxOp; rw [hE]; exact ⟨k1, k2, rfl⟩)
              have happ : (⟨o.dst, some x, some (id, b)⟩ : Fx).app s = ASt.put { s with h := upd s.h id (some (some b)) } o.dst x := by cases hd : o.dst <;> simp [Fx.app, ASt.put]
              have hf := (hmd hm).1
              exact step ⟨o.dst, some x, some (id, b)⟩ (lookRefs s o.op) [id] (fun _ => by rw [hid]; simp) (.inr hf) (.inr hf) ⟨h7, fun _ hfr y hy id hid => mem_lookRefs hfr (by simpa using hy) hid, fun _ => k5, hnoM⟩
                (fun q hq => by cases hq; exact ⟨fun i hi => k3 i (mem_pickI hfl hR i hi), fun i hi => k4 i (mem_pickI hfl hM i hi)⟩) (by rw [happ]; exact k6)
        rcases gForm_spec h with ⟨hg, hA⟩ | ⟨g, want, t, b, hg, ht, hb, hA, hB⟩
        · exact run (fun f hf => by unfold FxAt; rw [hg]; exact hf) hA
        · by_cases e : b = some want
          · refine run (fun f hf => ?_) (hA e)
            unfold FxAt; rw [hg]
            exact ⟨t, b, ht, hb, fun _ => hf, fun e2 => absurd e e2⟩
          · exact skip g want t b hg ht hb e (hB e)

theorem closed_none (n : Nat) : Closed ops (Array.replicate n false) := by
  intro j hj
  exfalso
  by_cases h : j < n
  · simp [h] at hj
  · simp [h] at hj

/-- **A REGION THAT DRAWS ITS ORDER, BY A PLAN** -/
theorem WP.plan {id : Nat} {Q : Exit → ASt → Prop} (l : List Pl) (hm : C.P.follows .mixedOrders = true) (hl : (planOk ops l (Array.replicate ops.size false) [] && sitesOk ops && (l.length == ops.size)) = true) (h : wrun C ops.toList (Q .normal) l [] [] s) : WP C (.region id ops true) Q s := by
  simp only [Bool.and_eq_true, beq_iff_eq] at hl
  refine WP.any hm ?_
  rw [← hl.2]
  exact wrun_wany hl.1.2 l _ [] [] [] s (by rw [hl.2]; exact hl.1.1) (closed_none _) (fun _ h => by cases h) (fun _ h => by cases h) h
end
end
end Go.Ab
