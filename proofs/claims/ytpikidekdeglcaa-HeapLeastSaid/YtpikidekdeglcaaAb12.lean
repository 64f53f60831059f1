/- CODE ON ABSTRACT STATES. -/
import Derived.Test.YtpikidekdeglcaaAb11
import Derived.Scope
namespace Go.Ab
open Go
noncomputable section

/-- what is the same all through a function: the program, how many temporaries, how many blocks were handed in -/
structure Cx where
  P : Program
  N : Nat
  m0 : Nat

def Fw (r : Option Nat) : Fence := { fn := fun _ => True, depth := none, alive := false, round := r }

def ASt.put (s : ASt) (d : Option Nat) (x : AT) : ASt := match d with
  | some k => { s with t := upd s.t k (some x) }
  | none => s
/-- an operation that is passed over leaves nothing -/
def ASt.del (s : ASt) (d : Option Nat) : ASt := match d with
  | some k => { s with t := upd s.t k (some (.tup [])) }
  | none => s

/-- a piece of code, from an abstract state on -/
def WP (C : Cx) (c : Code) (Q : Exit → ASt → Prop) (s : ASt) : Prop :=
  ∀ (Th : Nat → Prop) (base : Nat) (D : List Deferred) (r : Option Nat) (w : World) (φ : Nat → Option Nat) (Im : Nat → Prop) (a : Act), RelS w φ Im Th base C.N D s a → base ≤ w.heap.size → Rnd r w →
    c.wpIn (Fw r) 0 C.P (fun e a' w' => ∃ s' φ' Im', Q e s' ∧ RelS w' φ' Im' Th base C.N D s' a' ∧ Ext C.m0 w φ Im Th s.h w' φ' Im' s'.h) a w

/-- a call of a function of the program, on values -/
def CallOk (C : Cx) (g : FuncId) (as : List AT) (d : Option Nat) (s : ASt) (K : ASt → Prop) : Prop :=
  ∀ (Th : Nat → Prop) (base : Nat) (D : List Deferred) (w : World) (φ : Nat → Option Nat) (Im : Nat → Prop) (a : Act) (cargs : Array Value), RelS w φ Im Th base C.N D s a → base ≤ w.heap.size →
    cargs.size = as.length → (∀ (i : Nat) (hi : i < as.length), RelT w φ Im base s.h (cargs.getD i undef) as[i]) →
    (∃ v s' φ' Im', (callFunc g cargs).run C.P w = .ok (.value v) w ∧ K s' ∧ RelS w φ' Im' Th base C.N D s' (a.put d v) ∧ Ext C.m0 w φ Im Th s.h w φ' Im' s'.h) ∨
    ((callFunc g cargs).run C.P w = .ok (.enter g cargs) w ∧
      CallsIn (Fw none) 0 C.P g cargs w (fun e w' => ∃ v s' φ' Im', e = .returned v ∧ K s' ∧ RelS w' φ' Im' Th base C.N D s' (a.put d v) ∧ Ext C.m0 w φ Im Th s.h w' φ' Im' s'.h))

def evArgs (s : ASt) : List Operand → Option (List AT)
  | [] => some []
  | x :: r => match s.ev x, evArgs s r with
    | some t, some l => some (t :: l)
    | _, _ => none

def okDst (N : Nat) : Option Nat → Prop
  | some k => k < N
  | none => True

def runEff (C : Cx) (d : Option Nat) (s : ASt) (K : ASt → Prop) : Eff → Prop
  | .val c x => c ∧ okDst C.N d ∧ K (s.put d x)
  | .put c id b (some x) => c ∧ okDst C.N d ∧ K (ASt.put { s with h := upd s.h id (some (some b)) } d x)
  | .put c id b none => c ∧ d = none ∧ K { s with h := upd s.h id (some (some b)) }
  | .alt c p x y => c ∧ okDst C.N d ∧ (p → K (s.put d x)) ∧ K (s.put d y)
  | .bad => False

def runCall (C : Cx) (s : ASt) (d : Option Nat) (K : ASt → Prop) : Option AT → Option (List AT) → Prop
  | some (.c (.fn g caps)), some as => okDst C.N d ∧ CallOk C g (as ++ caps.map AT.c) d s K
  | _, _ => False

/-- an operation that is carried out -/
def wop (C : Cx) (d : Option Nat) (op : Op) (s : ASt) (K : ASt → Prop) : Prop :=
  match op with
  | .call { callee := .value f, args := args, argTypes := _ } => runCall C s d K (s.ev f) (evArgs s args.toList)
  | op => runEff C d s K (eff C.P s (d.getD 0) op)

def dstAt : List Oper → Nat → Option Nat
  | [], _ => none
  | o :: _, 0 => o.dst
  | _ :: l, k + 1 => dstAt l k

/-- a guard: the operation is carried out where an earlier one has told so -/
def wguard (C : Cx) (d : Option Nat) (op : Op) (s : ASt) (K : ASt → Prop) (j : Nat) (want : Bool) : Option AT → Prop
  | some (.c (.s (.bool b))) => (b = want → wop C d op { s with t := upd s.t j (some (.c (.s (.bool want)))) } K) ∧
      (b = !want → okDst C.N d ∧ K (ASt.del { s with t := upd s.t j (some (.c (.s (.bool (!want))))) } d))
  | some (.tup []) => okDst C.N d ∧ K (s.del d)
  | _ => False

def wops (C : Cx) (all : List Oper) : List Oper → ASt → (ASt → Prop) → Prop
  | [], s, K => K s
  | o :: r, s, K =>
    match o.guard with
    | none => wop C o.dst o.op s (fun s' => wops C all r s' K)
    | some (j, want) => match dstAt all j with
      | some t => wguard C o.dst o.op s (fun s' => wops C all r s' K) t want (s.t t)
      | none => False

section
variable {C : Cx} {Th : Nat → Prop} {base : Nat} {D : List Deferred} {w w' : World} {φ φ' : Nat → Option Nat} {Im Im' : Nat → Prop} {a : Act} {s s' : ASt}

theorem getD_put {t : Array Value} {k j : Nat} {v : Value} (hk : k < t.size) : (t.setIfInBounds k v).getD j undef = if j = k then v else t.getD j undef := by
  by_cases e : j = k
  · subst e; simp [hk]
  · simp [Array.getElem?_setIfInBounds, e, show ¬ k = j from fun h => e h.symm]

theorem RelS.put (hr : RelS w φ Im Th base C.N D s a) {d : Option Nat} (hd : okDst C.N d) {v : Value} {x : AT} (hx : RelT w φ Im base s.h v x) : RelS w φ Im Th base C.N D (s.put d x) (a.put d v) := by
  cases d with
  | none => exact hr
  | some k =>
    have hk : k < a.tmps.size := by rw [hr.size]; exact hd
    refine ⟨hr.ok, by simp [Act.put, hr.size], hr.defers, fun j y hj => ?_⟩
    show RelT w φ Im base s.h ((a.tmps.setIfInBounds k v).getD j undef) y
    rw [getD_put hk]
    by_cases e : j = k
    · subst e
      simp only [ASt.put, upd_same] at hj
      cases hj
      rw [if_pos rfl]; exact hx
    · simp only [ASt.put, upd_ne _ _ e] at hj
      rw [if_neg e]; exact hr.tmps j y hj

theorem RelS.del (hr : RelS w φ Im Th base C.N D s a) {d : Option Nat} (hd : okDst C.N d) : RelS w φ Im Th base C.N D (s.del d) (a.put d undef) := by
  cases d with
  | none => exact hr
  | some k =>
    have hk : k < a.tmps.size := by rw [hr.size]; exact hd
    refine ⟨hr.ok, by simp [Act.put, hr.size], hr.defers, fun j y hj => ?_⟩
    show RelT w φ Im base s.h ((a.tmps.setIfInBounds k undef).getD j undef) y
    rw [getD_put hk]
    by_cases e : j = k
    · subst e
      simp only [ASt.del, upd_same] at hj
      cases hj
      rw [if_pos rfl]
      exact .tup rfl (fun i hi => by simp at hi)
    · simp only [ASt.del, upd_ne _ _ e] at hj
      rw [if_neg e]; exact hr.tmps j y hj

theorem RelS.step (hr : RelS w φ Im Th base C.N D s a) {h' : Heap} (hs : Stp w φ Im Th s.h w' φ' Im' h') (hok : Ok w' φ' Im' Th base h') : RelS w' φ' Im' Th base C.N D { s with h := h' } a :=
  ⟨hok, hr.size, let ⟨ms, h1, h2⟩ := hr.defers; ⟨ms, h1, h2.of hr.ok hs.all hs.pi'⟩, fun k x hk => (hr.tmps k x hk).mono hs⟩

theorem ev_put_del {s : ASt} : (s.put none (.c .junk)).h = s.h := rfl

/-- what an operation's rest is told -/
def Goes (C : Cx) (Th : Nat → Prop) (base : Nat) (D : List Deferred) (w : World) (φ : Nat → Option Nat) (Im : Nat → Prop) (h : Heap) (K : ASt → Prop) (next : Act → World → Prop) : Prop :=
  ∀ w' φ' Im' s' a', K s' → RelS w' φ' Im' Th base C.N D s' a' → Ext C.m0 w φ Im Th h w' φ' Im' s'.h → next a' w'

theorem about_true {r : Option Nat} {P : Program} {o : Oper} {w : World} {ρ : Operand → Value} : ∀ f, o.about P w ρ = some f → (Fw r).fn f := fun _ _ => trivial

theorem rel_evArgs (hr : RelS w φ Im Th base C.N D s a) : ∀ (l : List Operand) (as : List AT), evArgs s l = some as →
    (l.map a.eval).length = as.length ∧ ∀ (j : Nat) (hj : j < as.length), RelT w φ Im base s.h ((l.map a.eval).getD j undef) as[j]
  | [], as, he => by cases he; exact ⟨rfl, fun j hj => by simp at hj⟩
  | x :: r, as, he => by
    unfold evArgs at he
    split at he
    · rename_i v l' hx hl
      cases he
      obtain ⟨h1, h2⟩ := rel_evArgs hr r l' hl
      refine ⟨by simpa using h1, fun j hj => ?_⟩
      cases j with
      | zero => exact rel_ev hr hx
      | succ j => exact h2 j (by simpa using hj)
    · cases he

theorem not_defer_of_eff {o : Oper} {d : Nat} {P : Program} {e : Eff} (he : eff P s d o.op = e) (hne : e ≠ .bad) : ∀ c, o.op ≠ .defer c := by
  intro c hc
  rw [hc] at he
  exact hne he.symm

/-- **AN OPERATION** -/
theorem wop_sound {o : Oper} {K : ASt → Prop} {r : Option Nat} {next : Act → World → Prop} {Q : Exit → Act → World → Prop} (hr : RelS w φ Im Th base C.N D s a) (hb : base ≤ w.heap.size)
    (h : wop C o.dst o.op s K) (hn : Goes C Th base D w φ Im s.h K next) : o.wpIn (Fw r) 0 C.P a w next Q := by
  refine ⟨about_true, ?_⟩
  have effc : runEff C o.dst s K (eff C.P s (o.dst.getD 0) o.op) → o.uponIn (Fw r) 0 C.P a next Q ((o.semAt (Fw r).round a.eval).run C.P w) := by
    intro he
    cases hf : eff C.P s (o.dst.getD 0) o.op with
    | bad => rw [hf] at he; exact he.elim
    | alt c p x y =>
      rw [hf] at he
      obtain ⟨hc, hd, hK1, hK2⟩ := he
      obtain ⟨v, h1, h2⟩ := eff_alt hr hf hc
      rw [Oper.semAt_eq _ _ _ (not_defer_of_eff hf (by simp)), h1]
      have hp : ∀ z, (s.put o.dst z).h = s.h := fun z => by cases o.dst <;> rfl
      rcases h2 with ⟨h0, h2⟩ | h2
      · exact hn _ _ _ _ _ (hK1 h0) (hr.put hd h2) (by rw [hp]; exact Ext.refl)
      · exact hn _ _ _ _ _ hK2 (hr.put hd h2) (by rw [hp]; exact Ext.refl)
    | val c x =>
      rw [hf] at he
      obtain ⟨hc, hd, hK⟩ := he
      obtain ⟨v, h1, h2⟩ := eff_val hr hf hc
      rw [Oper.semAt_eq _ _ _ (not_defer_of_eff hf (by simp)), h1]
      exact hn _ _ _ _ _ hK (hr.put hd h2) (by
        have : (s.put o.dst x).h = s.h := by cases o.dst <;> rfl
        rw [this]; exact Ext.refl)
    | put c id b x =>
      rw [hf] at he
      cases x with
      | none =>
        obtain ⟨hc, hd, hK⟩ := he
        obtain ⟨w', φ', h1, h2, h3⟩ := eff_put hr hf hc
        rw [Oper.semAt_eq _ _ _ (not_defer_of_eff hf (by simp)), h3]
        rw [Oper.uponIn_skip, hd]
        exact hn _ _ _ _ _ hK (hr.step h1 h2) h1.ext
      | some x =>
        obtain ⟨hc, hd, hK⟩ := he
        obtain ⟨w', φ', h1, h2, v, h3, h4⟩ := eff_put hr hf hc
        rw [Oper.semAt_eq _ _ _ (not_defer_of_eff hf (by simp)), h3]
        exact hn _ _ _ _ _ hK ((hr.step h1 h2).put hd h4) (by
          have : (ASt.put { s with h := upd s.h id (some (some b)) } o.dst x).h = upd s.h id (some (some b)) := by cases o.dst <;> rfl
          rw [this]; exact h1.ext)
  unfold wop at h
  split at h
  · rename_i f args ats hop
    unfold runCall at h
    split at h
    · rename_i g caps as hf has
      obtain ⟨hd, hcall⟩ := h
      have hfr := (rel_ev hr hf).c_inv
      obtain ⟨al, ar⟩ := rel_evArgs hr _ _ has
      have hsem : o.semAt (Fw r).round a.eval = execOp a.eval o := Oper.semAt_eq _ _ _ (by rw [hop]; intro c hc; cases hc)
      rw [hsem]
      generalize hfe : a.eval f = fv at hfr
      cases hfr with
      | @fn _ _ cv hcs hcr =>
        have hrun : ∀ R, (callFunc g (args.map a.eval ++ cv)).run C.P w = R → (execOp a.eval o).run C.P w = R := by
          intro R hR
          simp [execOp, hop, resolve, hfe, Deferred.ofValue, invoke, hR]
        have hsz : (args.map a.eval ++ cv).size = (as ++ caps.map AT.c).length := by
          have : args.size = as.length := by simpa using al
          simp [this, hcs]
        have hrel : ∀ (i : Nat) (hi : i < (as ++ caps.map AT.c).length), RelT w φ Im base s.h ((args.map a.eval ++ cv).getD i undef) (as ++ caps.map AT.c)[i] := by
          intro i hi
          have hal : args.size = as.length := by simpa using al
          by_cases h1 : i < as.length
          · rw [List.getElem_append_left h1]
            have := ar i h1
            have h2 : i < args.size := by omega
            simpa [Array.getElem?_append, h2] using this
          · rw [List.getElem_append_right (by omega), List.getElem_map]
            have hi2 : i - as.length < caps.length := by simp at hi; omega
            have := hcr (i - as.length) hi2
            refine .c ?_
            have h2 : ¬ i < args.size := by omega
            have h3 : i - args.size < cv.size := by omega
            have e : (args.map a.eval ++ cv).getD i undef = cv.getD (i - as.length) undef := by
              simp [Array.getElem?_append, hal, h1]
            rw [e]; exact this
        rcases hcall Th base D w φ Im a _ hr hb hsz hrel with ⟨v, s', φ', Im', h1, h2, h3, h4⟩ | ⟨h1, h2⟩
        · rw [hrun _ h1]
          exact hn _ _ _ _ _ h2 h3 h4
        · rw [hrun _ h1]
          refine ⟨fun hd => by simp [Fw] at hd, ?_⟩
          have h2' : CallsIn (Fw r) 0 C.P g (args.map a.eval ++ cv) w _ := h2
          refine CallsIn.mono h2' ?_
          rintro e w' ⟨v, s', φ', Im', rfl, k1, k2, k3⟩
          exact hn _ _ _ _ _ k1 k2 k3
    · exact h.elim
  · exact effc h

theorem yielded_of {arr : List Oper} {j t : Nat} {tmps : Array Value} (h : dstAt arr j = some t) : yielded arr.toArray tmps j = match tmps[t]? with | some (.bool b) => some b | _ => none := by
  have key : ∀ (l : List Oper) (j : Nat), dstAt l j = some t → (l[j]?).bind (·.dst) = some t := by
    intro l
    induction l with
    | nil => intro j h; cases h
    | cons o l ih =>
      intro j h
      cases j with
      | zero => simpa [dstAt] using h
      | succ j => simpa [dstAt] using ih j h
  unfold yielded
  have : (arr.toArray[j]?).bind (·.dst) = some t := by simpa using key arr j h
  rw [this]
  rfl

theorem RelS.lit (hr : RelS w φ Im Th base C.N D s a) {t : Nat} {b : Bool} (h : s.t t = some (.c (.s (.bool b)))) : a.tmps.getD t undef = .bool b ∧ t < a.tmps.size := by
  have := RelT.s_inv (hr.tmps t _ h)
  refine ⟨this, ?_⟩
  rcases Nat.lt_or_ge t a.tmps.size with h1 | h1
  · exact h1
  · simp [Array.getElem?_eq_none h1] at this
    exact absurd this (by simp [undef])

theorem RelS.same (hr : RelS w φ Im Th base C.N D s a) {t : Nat} {x : AT} (h : s.t t = some x) : RelS w φ Im Th base C.N D { s with t := upd s.t t (some x) } a := by
  have : upd s.t t (some x) = s.t := by
    funext j; by_cases e : j = t
    · subst e; rw [upd_same, h]
    · rw [upd_ne _ _ e]
  rw [this]; exact hr

/-- **OPERATIONS, ONE BEHIND THE OTHER** -/
theorem wops_sound {all : List Oper} {K : ASt → Prop} {r : Option Nat} {Q : Exit → Act → World → Prop} : ∀ (l : List Oper) (w : World) (φ : Nat → Option Nat) (Im : Nat → Prop) (s : ASt) (a : Act), RelS w φ Im Th base C.N D s a → base ≤ w.heap.size →
    wops C all l s K → Goes C Th base D w φ Im s.h K (Q .normal) → wpListIn (Fw r) 0 C.P all.toArray Q l a w
  | [], w, φ, Im, s, a, hr, hb, h, hn => hn _ _ _ _ _ h hr Ext.refl
  | o :: l, w, φ, Im, s, a, hr, hb, h, hn => by
    have rest : Goes C Th base D w φ Im s.h (fun s' => wops C all l s' K) (wpListIn (Fw r) 0 C.P all.toArray Q l) :=
      fun w' φ' Im' s' a' hK hr' hx => wops_sound l w' φ' Im' s' a' hr' (Nat.le_trans hb hx.size) hK (fun w'' φ'' Im'' s'' a'' k1 k2 k3 => hn _ _ _ _ _ k1 k2 (hx.trans k3))
    unfold wpListIn
    unfold wops at h
    split at h
    · rename_i hg
      rw [if_pos (by simp [Region.wanted, hg])]
      exact wop_sound hr hb h rest
    · rename_i j want hg
      split at h
      · rename_i t ht
        have hy := yielded_of (tmps := a.tmps) ht
        unfold wguard at h
        split at h
        · rename_i b hbv
          obtain ⟨hlit, hlt⟩ := hr.lit hbv
          have hy' : yielded all.toArray a.tmps j = some b := by
            rw [hy, getD_of_lt a.tmps undef hlt, hlit]
          by_cases e : b = want
          · subst e
            rw [if_pos (by simp [Region.wanted, hg, hy'])]
            exact wop_sound (hr.same hbv) hb (h.1 rfl) rest
          · have e2 : b = !want := (by decide : ∀ x y : Bool, ¬ x = y → x = !y) b want e
            rw [if_neg (by simp only [Region.wanted, hg, hy']; intro hc; exact e (by simpa using hc))]
            refine ⟨about_true, ?_⟩
            obtain ⟨hd, hK⟩ := h.2 e2
            subst e2
            have h5 := (hr.same hbv).del hd
            exact rest _ _ _ _ _ hK h5 (by
              have : (ASt.del { s with t := upd s.t t (some (.c (.s (.bool (!want))))) } o.dst).h = s.h := by cases o.dst <;> rfl
              rw [this]; exact Ext.refl)
        · rename_i hbv
          have h0 : yielded all.toArray a.tmps j = none := by
            rw [hy]
            have h1 := hr.tmps t _ hbv
            cases hv : a.tmps[t]? with
            | none => rfl
            | some v =>
              have : a.tmps.getD t undef = v := by simp [hv]
              rw [this] at h1
              cases h1
              rfl
          rw [if_neg (by simp [Region.wanted, hg, h0])]
          refine ⟨about_true, ?_⟩
          exact rest _ _ _ _ _ h.2 (hr.del h.1) (by
            have : (ASt.del s o.dst).h = s.h := by cases o.dst <;> rfl
            rw [this]; exact Ext.refl)
        · exact h.elim
      · exact h.elim
end
end
end Go.Ab
