/- REGIONS THAT DRAW THEIR ORDER: all orders. -/
import Derived.Test.YtpikidekdeglcaaAb19
import Derived.OrdersIn
namespace Go.Ab
open Go
noncomputable section

/-- a call that touches no block of S, and reads none of M -/
def CallSyn2 (C : Cx) (S M : List Nat) (g : FuncId) (as : List AT) (d : Option Nat) (s : ASt) (K : ASt → Prop) : Prop :=
  (∃ r, EXT C.P g as r ∧ K (s.put d r)) ∨
  ∃ (as2 : List AT) (l : List (Option Blk)) (R : AT → List (Option Blk) → Prop) (σ : List Nat) (b0 : Nat) (B : List Nat), AC C.P g as2 l R ∧ l.length = σ.length ∧ σ.Nodup ∧
    (∀ (j : Nat) (hj : j < l.length), ∃ b, s.h (tau σ b0 j) = some b ∧ bwk b = bren (tau σ b0) l[j] ∧ (∀ id ∈ brefs l[j], id < l.length) ∧ (∀ p, b = some p → ∀ x ∈ p.2, x.oldCaps)) ∧
    as.length = as2.length ∧ (∀ (i : Nat) (h1 : i < as.length) (h2 : i < as2.length), AtOk s.h (tau σ b0) B as[i] as2[i]) ∧ (∀ x ∈ as2, ∀ id ∈ x.refs, id < l.length) ∧
    (∀ id ∈ B, id ∉ σ) ∧ (∀ id ∈ S, id ∉ σ) ∧ (∀ id ∈ M, id ∉ σ ∧ id ∉ B) ∧
    ∀ r l', R r l' → (∀ j, l.length ≤ j → j < l'.length → s.h (tau σ b0 j) = none ∧ 16 ≤ tau σ b0 j) ∧ (B = [] ∨ (r.fresh ∧ ∀ b ∈ l', bfresh b)) ∧ K (ASt.put ⟨s.t, mergeL (tau σ b0) 0 l' s.h⟩ d (r.ren (tau σ b0)))

theorem CallSyn2.ok {C : Cx} {S M : List Nat} {g : FuncId} {as : List AT} {d : Option Nat} {s : ASt} {K : ASt → Prop} (hd : okDst C.N d) (h : CallSyn2 C S M g as d s K) : CallOk C g as d s K := by
  rcases h with ⟨r, he, hK⟩ | ⟨as2, l, R, σ, b0, B, h1, h2, h3, h4, h5, h6, h7, h8, _, _, h9⟩
  · intro Th base D w φ Im a cargs hr hb hl ha
    obtain ⟨v, hv, hrel⟩ := he w φ Im base s.h cargs hl ha
    refine .inl ⟨v, _, φ, Im, hv, hK, hr.put hd hrel, ?_⟩
    have : (s.put d r).h = s.h := by cases d <;> rfl
    rw [this]; exact Ext.refl
  · exact CallOk.of h1 σ b0 B h2 h3 h4 h5 h6 h7 h8 hd h9

theorem CallSyn2.mono {C : Cx} {S M S' M' : List Nat} {g : FuncId} {as : List AT} {d : Option Nat} {s : ASt} {K K' : ASt → Prop} (h : CallSyn2 C S M g as d s K) (hS : ∀ x ∈ S', x ∈ S) (hM : ∀ x ∈ M', x ∈ M) (hk : ∀ s, K s → K' s) : CallSyn2 C S' M' g as d s K' := by
  rcases h with ⟨r, he, hK⟩ | ⟨as2, l, R, σ, b0, B, h1, h2, h3, h4, h5, h6, h7, h8, h10, h11, h9⟩
  · exact .inl ⟨r, he, hk _ hK⟩
  · exact .inr ⟨as2, l, R, σ, b0, B, h1, h2, h3, h4, h5, h6, h7, h8, fun id hi => h10 id (hS id hi), fun id hi => h11 id (hM id hi), fun r l' hR => ⟨(h9 r l' hR).1, (h9 r l' hR).2.1, hk _ (h9 r l' hR).2.2⟩⟩

def callM (C : Cx) (S M : List Nat) (s : ASt) (d : Option Nat) (K : ASt → Prop) : Option AT → Option (List AT) → Prop
  | some (.c (.fn g caps)), some as => okDst C.N d ∧ CallSyn2 C S M g (as ++ caps.map AT.c) d s K
  | _, _ => False

def runEffM (C : Cx) (S M : List Nat) (d : Option Nat) (s : ASt) (K : ASt → Prop) : Eff → Prop
  | .val c x => c ∧ okDst C.N d ∧ K (s.put d x)
  | .put c id b (some x) => c ∧ okDst C.N d ∧ (∀ i ∈ S, i ≠ id) ∧ (∀ i ∈ M, i ≠ id) ∧ K (ASt.put { s with h := upd s.h id (some (some b)) } d x)
  | .put c id b none => c ∧ d = none ∧ (∀ i ∈ S, i ≠ id) ∧ (∀ i ∈ M, i ≠ id) ∧ K { s with h := upd s.h id (some (some b)) }
  | .alt .. => False
  | .bad => False

def wopM (C : Cx) (S M : List Nat) (d : Option Nat) (op : Op) (s : ASt) (K : ASt → Prop) : Prop :=
  (∀ id ∈ M, ∀ x ∈ op.operands, id ∉ orefs s x) ∧
  match op with
  | .call { callee := .value f, args := args, argTypes := _ } => callM C S M s d K (s.ev f) (evArgs s args.toList)
  | op => runEffM C S M d s K (eff C.P s (d.getD 0) op)

theorem runEffM_mono {C : Cx} {S M S' M' : List Nat} {d : Option Nat} {s : ASt} {K K' : ASt → Prop} {e : Eff} (h : runEffM C S M d s K e) (hS : ∀ x ∈ S', x ∈ S) (hM : ∀ x ∈ M', x ∈ M) (hk : ∀ s, K s → K' s) : runEffM C S' M' d s K' e := by
  cases e with
  | val c x => exact ⟨h.1, h.2.1, hk _ h.2.2⟩
  | put c id b x => cases x with
    | none => exact ⟨h.1, h.2.1, fun i hi => h.2.2.1 i (hS i hi), fun i hi => h.2.2.2.1 i (hM i hi), hk _ h.2.2.2.2⟩
    | some x => exact ⟨h.1, h.2.1, fun i hi => h.2.2.1 i (hS i hi), fun i hi => h.2.2.2.1 i (hM i hi), hk _ h.2.2.2.2⟩
  | alt c p x y => exact h.elim
  | bad => exact h

theorem runEffM_run {C : Cx} {S M : List Nat} {d : Option Nat} {s : ASt} {K : ASt → Prop} {e : Eff} (h : runEffM C S M d s K e) : runEff C d s K e := by
  cases e with
  | val c x => exact h
  | put c id b x => cases x with
    | none => exact ⟨h.1, h.2.1, h.2.2.2.2⟩
    | some x => exact ⟨h.1, h.2.1, h.2.2.2.2⟩
  | alt c p x y => exact h.elim
  | bad => exact h

theorem wopM_mono {C : Cx} {S M S' M' : List Nat} {d : Option Nat} {op : Op} {s : ASt} {K K' : ASt → Prop} (h : wopM C S M d op s K) (hS : ∀ x ∈ S', x ∈ S) (hM : ∀ x ∈ M', x ∈ M) (hk : ∀ s, K s → K' s) : wopM C S' M' d op s K' := by
  unfold wopM at *
  refine ⟨fun id hi => h.1 id (hM id hi), ?_⟩
  have h := h.2
  split at h
  · unfold callM at *
    split at h
    · exact ⟨h.1, h.2.mono hS hM hk⟩
    · exact h
  · exact runEffM_mono h hS hM hk

theorem wopM_wop {C : Cx} {S M : List Nat} {d : Option Nat} {op : Op} {s : ASt} {K : ASt → Prop} (h : wopM C S M d op s K) : wop C d op s K := by
  unfold wopM at h
  have h := h.2
  unfold wop
  split at h
  · rename_i f args ats
    simp only
    unfold callM at h
    unfold runCall
    split at h
    · rename_i g caps as hf has
      rw [hf, has]
      exact ⟨h.1, h.2.ok h.1⟩
    · exact h.elim
  · rename_i hne
    split
    · exact absurd rfl (hne _ _ _)
    · exact runEffM_run h

/-- what a guard's temporary says: a truth value, or that the guard itself was passed over -/
def gvOf : Option AT → Option (Option Bool)
  | some (.c (.s (.bool b))) => some (some b)
  | some (.tup []) => some none
  | _ => none

/-- an operation and its guard -/
def opG (C : Cx) (all : List Oper) (S M : List Nat) (o : Oper) (s : ASt) (K : ASt → Prop) : Prop :=
  match o.guard with
  | none => wopM C S M o.dst o.op s K
  | some (j, want) => ∃ t g, dstAt all j = some t ∧ gvOf (s.t t) = some g ∧ (g = some want → wopM C S M o.dst o.op s K) ∧ (g ≠ some want → okDst C.N o.dst ∧ K (s.del o.dst))

theorem opG_mono {C : Cx} {all : List Oper} {S M S' M' : List Nat} {o : Oper} {s : ASt} {K K' : ASt → Prop} (h : opG C all S M o s K) (hS : ∀ x ∈ S', x ∈ S) (hM : ∀ x ∈ M', x ∈ M) (hk : ∀ s, K s → K' s) : opG C all S' M' o s K' := by
  unfold opG at *
  split
  · rename_i hg
    rw [hg] at h
    exact wopM_mono h hS hM hk
  · rename_i j want hg
    rw [hg] at h
    obtain ⟨t, b, h1, h2, h3, h4⟩ := h
    exact ⟨t, b, h1, h2, fun e => wopM_mono (h3 e) hS hM hk, fun e => ⟨(h4 e).1, hk _ (h4 e).2⟩⟩

/-- does j come behind i? -/
def desc (ops : Array Oper) : Nat → Nat → Nat → Bool
  | 0, _, _ => false
  | n + 1, j, i => match ops[j]? with
    | some o => o.after.any fun e => Region.binds .any e && (e.on == i || desc ops n e.on i)
    | none => false

def atOp (ops : Array Oper) (j : Nat) (R : List (Nat × Nat)) : List Nat := (R.filter fun p => !desc ops ops.size j p.1).map (·.2)

/-- every order -/
def wany (C : Cx) (ops : Array Oper) (R M : List (Nat × Nat)) (K : ASt → Prop) : Nat → Array Bool → ASt → Prop
  | 0, listed, s => Region.ready .any ops listed = [] ∧ K s
  | fuel + 1, listed, s => (Region.ready .any ops listed = [] → K s) ∧
    ∀ j ∈ Region.ready .any ops listed, ∀ o, ops[j]? = some o → opG C ops.toList (atOp ops j R) (atOp ops j M) o s (wany C ops R M K fuel (listed.setIfInBounds j true))

section
variable {C : Cx} {Th : Nat → Prop} {base : Nat} {D : List Deferred} {w w' : World} {φ φ' : Nat → Option Nat} {Im Im' : Nat → Prop} {a : Act} {s s' : ASt}

theorem opG_sound {ops : Array Oper} {S M : List Nat} {o : Oper} {j : Nat} {K : ASt → Prop} {r : Option Nat} {Q : Exit → Act → World → Prop} {next : Act → World → Prop} (hr : RelS w φ Im Th base C.N D s a) (hb : base ≤ w.heap.size)
    (ho : ops[j]? = some o) (h : opG C ops.toList S M o s K) (hn : Goes C Th base D w φ Im s.h K next) : wpOpIn (Fw r) 0 C.P ops Q j next a w := by
  unfold wpOpIn
  rw [ho]
  simp only []
  unfold opG at h
  split at h
  · rename_i hg
    rw [if_pos (by simp [Region.wanted, hg])]
    exact wop_sound hr hb (wopM_wop h) hn
  · rename_i g want hg
    obtain ⟨t, b, ht, hbv, h1, h2⟩ := h
    have hy := yielded_of (tmps := a.tmps) ht
    have hy' : yielded ops a.tmps g = b := by
      have : ops.toList.toArray = ops := by simp
      rw [this] at hy
      rw [hy]
      unfold gvOf at hbv
      split at hbv
      · rename_i b0 e0
        cases hbv
        obtain ⟨hlit, hlt⟩ := hr.lit e0
        rw [getD_of_lt a.tmps undef hlt, hlit]
      · rename_i e0
        cases hbv
        have h1 := hr.tmps t _ e0
        cases hv : a.tmps[t]? with
        | none => rfl
        | some v =>
          have : a.tmps.getD t undef = v := by simp [hv]
          rw [this] at h1
          cases h1
          rfl
      · cases hbv
    by_cases e : b = some want
    · subst e
      rw [if_pos (by simp [Region.wanted, hg, hy'])]
      exact wop_sound hr hb (wopM_wop (h1 rfl)) hn
    · have e2 := e
      rw [if_neg (by simp only [Region.wanted, hg, hy']; intro hc; exact e (by simpa using hc))]
      refine ⟨about_true, ?_⟩
      obtain ⟨hd, hK⟩ := h2 e2
      exact hn _ _ _ _ _ hK (hr.del hd) (by
        have : (ASt.del s o.dst).h = s.h := by cases o.dst <;> rfl
        rw [this]; exact Ext.refl)

theorem wany_sound {ops : Array Oper} {R M : List (Nat × Nat)} {K : ASt → Prop} {r : Option Nat} {Q : Exit → Act → World → Prop} : ∀ (fuel : Nat) (listed : Array Bool) (w : World) (φ : Nat → Option Nat) (Im : Nat → Prop) (s : ASt) (a : Act), RelS w φ Im Th base C.N D s a → base ≤ w.heap.size →
    wany C ops R M K fuel listed s → Goes C Th base D w φ Im s.h K (Q .normal) → wpAnyIn (Fw r) 0 C.P .any ops Q fuel listed a w
  | 0, listed, w, φ, Im, s, a, hr, hb, h, hn => ⟨h.1, hn _ _ _ _ _ h.2 hr Ext.refl⟩
  | fuel + 1, listed, w, φ, Im, s, a, hr, hb, h, hn => by
    refine ⟨fun e => hn _ _ _ _ _ (h.1 e) hr Ext.refl, fun j hj => ?_⟩
    obtain ⟨_, o, ho, _⟩ := mem_ready.1 hj
    refine opG_sound hr hb ho (h.2 j hj o ho) ?_
    intro w' φ' Im' s' a' hK hr' hx
    exact wany_sound fuel _ w' φ' Im' s' a' hr' (Nat.le_trans hb hx.size) hK (fun w'' φ'' Im'' s'' a'' k1 k2 k3 => hn _ _ _ _ _ k1 k2 (hx.trans k3))

theorem RelC.drew {h : Heap} {n : Nat} {v : Value} {x : AV} (hx : RelC w φ Im base h v x) : RelC { w with drawn := n } φ Im base h v x := by
  have : Stp w φ Im (fun _ => False) h { w with drawn := n } φ Im h :=
    ⟨Nat.le_refl _, rfl, rfl, rfl, fun _ _ => rfl, fun _ _ _ => rfl, fun _ h => h, fun _ h => .inl h, fun _ h => .inl h, fun _ c _ _ h => ⟨c, h, rfl⟩,
     fun _ hid => ⟨hid, fun ty cs h => ⟨ty, cs, h, Nat.le_refl _, fun _ => rfl, fun _ hb => .inl hb⟩⟩⟩
  exact hx.mono this

theorem stp_drew {h : Heap} {n : Nat} : Stp w φ Im Th h { w with drawn := n } φ Im h :=
  ⟨Nat.le_refl _, rfl, rfl, rfl, fun _ _ => rfl, fun _ _ _ => rfl, fun _ h => h, fun _ h => .inl h, fun _ h => .inl h, fun _ c _ _ h => ⟨c, h, rfl⟩,
     fun _ hid => ⟨hid, fun ty cs h => ⟨ty, cs, h, Nat.le_refl _, fun _ => rfl, fun _ hb => .inl hb⟩⟩⟩

theorem RelS.drew {n : Nat} (hr : RelS w φ Im Th base C.N D s a) : RelS { w with drawn := n } φ Im Th base C.N D s a := by
  refine ⟨⟨fun id ty cs hid => ?_, hr.ok.inj, hr.ok.disj, hr.ok.lt, hr.ok.new, hr.ok.base_le⟩, hr.size, hr.defers, fun k x hk => (hr.tmps k x hk).mono (stp_drew (Th := Th))⟩
  rcases hr.ok.heap id ty cs hid with h | ⟨b, c, h1, h2, h3, h4⟩
  · exact .inl h
  · exact .inr ⟨b, c, h1, h2, h3, fun j hj => (h4 j hj).drew⟩

/-- **A REGION THAT DRAWS ITS ORDER** -/
theorem WP.any {id : Nat} {ops : Array Oper} {Q : Exit → ASt → Prop} (hm : C.P.follows .mixedOrders = true) (h : wany C ops [] [] (Q .normal) ops.size (Array.replicate ops.size false) s) : WP C (.region id ops true) Q s := by
  intro Th base D r w φ Im a hr hb _
  refine wpIn_region_any hm ?_
  refine wany_sound (Q := fun e a' w' => ∃ s' φ' Im', Q e s' ∧ RelS w' φ' Im' Th base C.N D s' a' ∧ Ext C.m0 w φ Im Th s.h w' φ' Im' s'.h) _ _ _ φ Im s a (hr.drew (n := w.drawn + 1)) hb h ?_
  intro w' φ' Im' s' a' k1 k2 k3
  exact ⟨s', φ', Im', k1, k2, Ext.trans stp_drew.ext k3⟩
end
end
end Go.Ab
