/- CALLS AS A FORMULA; WHAT AN OPERATION LOOKS AT. -/
import Derived.Test.YtpikidekdeglcaaAb18
namespace Go.Ab
open Go
noncomputable section

/-- a function of the library that the model carries out itself -/
def EXT (P : Program) (g : FuncId) (as : List AT) (r : AT) : Prop :=
  ∀ (w : World) (φ : Nat → Option Nat) (Im : Nat → Prop) (base : Nat) (h : Heap) (cargs : Array Value), cargs.size = as.length → (∀ (i : Nat) (hi : i < as.length), RelT w φ Im base h (cargs.getD i undef) as[i]) →
    ∃ v, (callFunc g cargs).run P w = .ok (.value v) w ∧ RelT w φ Im base h v r

def CallSyn (C : Cx) (S : List Nat) (g : FuncId) (as : List AT) (d : Option Nat) (s : ASt) (K : ASt → Prop) : Prop :=
  (∃ r, EXT C.P g as r ∧ K (s.put d r)) ∨
  ∃ (as2 : List AT) (l : List (Option Blk)) (R : AT → List (Option Blk) → Prop) (σ : List Nat) (b0 : Nat) (B : List Nat), AC C.P g as2 l R ∧ l.length = σ.length ∧ σ.Nodup ∧
    (∀ (j : Nat) (hj : j < l.length), ∃ b, s.h (tau σ b0 j) = some b ∧ bwk b = bren (tau σ b0) l[j] ∧ (∀ id ∈ brefs l[j], id < l.length) ∧ (∀ p, b = some p → ∀ x ∈ p.2, x.oldCaps)) ∧
    as.length = as2.length ∧ (∀ (i : Nat) (h1 : i < as.length) (h2 : i < as2.length), AtOk s.h (tau σ b0) B as[i] as2[i]) ∧ (∀ x ∈ as2, ∀ id ∈ x.refs, id < l.length) ∧
    (∀ id ∈ B, id ∉ σ) ∧ (∀ id ∈ S, id ∉ σ ∧ id ∉ B) ∧
    ∀ r l', R r l' → (∀ j, l.length ≤ j → j < l'.length → s.h (tau σ b0 j) = none ∧ 16 ≤ tau σ b0 j) ∧ (B = [] ∨ (r.fresh ∧ ∀ b ∈ l', bfresh b)) ∧ K (ASt.put ⟨s.t, mergeL (tau σ b0) 0 l' s.h⟩ d (r.ren (tau σ b0)))

theorem CallSyn.ok {C : Cx} {S : List Nat} {g : FuncId} {as : List AT} {d : Option Nat} {s : ASt} {K : ASt → Prop} (hd : okDst C.N d) (h : CallSyn C S g as d s K) : CallOk C g as d s K := by
  rcases h with ⟨r, he, hK⟩ | ⟨as2, l, R, σ, b0, B, h1, h2, h3, h4, h5, h6, h7, h8, _, h9⟩
  · intro Th base D w φ Im a cargs hr hb hl ha
    obtain ⟨v, hv, hrel⟩ := he w φ Im base s.h cargs hl ha
    refine .inl ⟨v, _, φ, Im, hv, hK, hr.put hd hrel, ?_⟩
    have : (s.put d r).h = s.h := by cases d <;> rfl
    rw [this]; exact Ext.refl
  · exact CallOk.of h1 σ b0 B h2 h3 h4 h5 h6 h7 h8 hd h9

theorem CallSyn.mono {C : Cx} {S : List Nat} {g : FuncId} {as : List AT} {d : Option Nat} {s : ASt} {K K' : ASt → Prop} (h : CallSyn C S g as d s K) (hk : ∀ s, K s → K' s) : CallSyn C S g as d s K' := by
  rcases h with ⟨r, he, hK⟩ | ⟨as2, l, R, σ, b0, B, h1, h2, h3, h4, h5, h6, h7, h8, h10, h9⟩
  · exact .inl ⟨r, he, hk _ hK⟩
  · exact .inr ⟨as2, l, R, σ, b0, B, h1, h2, h3, h4, h5, h6, h7, h8, h10, fun r l' hR => ⟨(h9 r l' hR).1, (h9 r l' hR).2.1, hk _ (h9 r l' hR).2.2⟩⟩

def callS (C : Cx) (S : List Nat) (s : ASt) (d : Option Nat) (K : ASt → Prop) : Option AT → Option (List AT) → Prop
  | some (.c (.fn g caps)), some as => okDst C.N d ∧ CallSyn C S g (as ++ caps.map AT.c) d s K
  | _, _ => False

/-- an operation, calls by contract alone -/
def wopS (C : Cx) (S : List Nat) (d : Option Nat) (op : Op) (s : ASt) (K : ASt → Prop) : Prop :=
  match op with
  | .call { callee := .value f, args := args, argTypes := _ } => callS C S s d K (s.ev f) (evArgs s args.toList)
  | op => runEff C d s K (eff C.P s (d.getD 0) op)

theorem runEff_mono {C : Cx} {d : Option Nat} {s : ASt} {K K' : ASt → Prop} {e : Eff} (h : runEff C d s K e) (hk : ∀ s, K s → K' s) : runEff C d s K' e := by
  cases e with
  | val c x => exact ⟨h.1, h.2.1, hk _ h.2.2⟩
  | put c id b x => cases x with
    | none => exact ⟨h.1, h.2.1, hk _ h.2.2⟩
    | some x => exact ⟨h.1, h.2.1, hk _ h.2.2⟩
  | alt c p x y => exact ⟨h.1, h.2.1, fun hp => hk _ (h.2.2.1 hp), hk _ h.2.2.2⟩
  | bad => exact h

theorem wopS_mono {C : Cx} {S : List Nat} {d : Option Nat} {op : Op} {s : ASt} {K K' : ASt → Prop} (h : wopS C S d op s K) (hk : ∀ s, K s → K' s) : wopS C S d op s K' := by
  unfold wopS at *
  split at h
  · unfold callS at *
    split at h
    · exact ⟨h.1, h.2.mono hk⟩
    · exact h
  · exact runEff_mono h hk

theorem wopS_wop {C : Cx} {S : List Nat} {d : Option Nat} {op : Op} {s : ASt} {K : ASt → Prop} (h : wopS C S d op s K) : wop C d op s K := by
  unfold wopS at h
  unfold wop
  split at h
  · rename_i f args ats
    simp only
    unfold callS at h
    unfold runCall
    split at h
    · rename_i g caps as hf has
      rw [hf, has]
      exact ⟨h.1, h.2.ok h.1⟩
    · exact h.elim
  · rename_i hne
    split
    · rename_i f args ats; exact absurd rfl (hne f args ats)
    · exact h

/-! ### what an operation looks at -/
def orefs (s : ASt) (x : Operand) : List Nat := match s.ev x with
  | some t => t.refs
  | none => []

theorem ev_congr {s s' : ASt} {x : Operand} (h : ∀ k, x = .tmp k → s'.t k = s.t k) : s'.ev x = s.ev x := by
  cases x with
  | tmp k => exact h k rfl
  | _ => rfl

theorem evParts_congr {s s' : ASt} : ∀ {l : List (Nat × Operand)}, (∀ p ∈ l, s'.ev p.2 = s.ev p.2) → evParts s' l = evParts s l
  | [], _ => rfl
  | p :: l, h => by
    simp only [evParts, h p (by simp), evParts_congr (l := l) (fun q hq => h q (List.mem_cons_of_mem _ hq))]

theorem evCaps_congr {s s' : ASt} : ∀ {l : List Operand}, (∀ p ∈ l, s'.ev p = s.ev p) → evCaps s' l = evCaps s l
  | [], _ => rfl
  | p :: l, h => by
    simp only [evCaps, h p (by simp), evCaps_congr (l := l) (fun q hq => h q (List.mem_cons_of_mem _ hq))]

theorem evArgs_congr {s s' : ASt} : ∀ {l : List Operand}, (∀ p ∈ l, s'.ev p = s.ev p) → evArgs s' l = evArgs s l
  | [], _ => rfl
  | p :: l, h => by
    simp only [evArgs, h p (by simp), evArgs_congr (l := l) (fun q hq => h q (List.mem_cons_of_mem _ hq))]

theorem evOpt_congr {s s' : ASt} {x : Option Operand} (h : ∀ y, x = some y → s'.ev y = s.ev y) : evOpt s' x = evOpt s x := by
  cases x with
  | none => rfl
  | some y => simp only [evOpt, h y rfl]

theorem effSlice_congr {P : Program} {h h' : Heap} {t : TypeId} {y l u : Option AT} (hc : ∀ z, y = some z → ∀ id ∈ z.refs, h' id = h id) : effSlice P h' t y l u = effSlice P h t y l u := by
  cases y with
  | none => rfl
  | some z =>
    have h1 := hc z rfl
    cases z with
    | agg cs => rfl
    | tup cs => rfl
    | c x =>
      cases x with
      | s v => cases v <;> rfl
      | ptr id st off =>
        have : ∀ st, Cur h' id st = Cur h id st := fun st => by simp only [Cur, h1 id (by simp [AT.refs, AV.refs])]
        simp only [effSlice, this]
      | msl E id st off len =>
        have : ∀ st, Cur h' id st = Cur h id st := fun st => by simp only [Cur, h1 id (by simp [AT.refs, AV.refs])]
        simp only [effSlice, this]
      | _ => rfl

/-- does it name a new block by its own place? -/
def usesSite : Op → Bool
  | .alloc .. | .box .. | .buildSlice .. => true
  | .call { callee := .builtin .append, .. } => true
  | _ => false

/-- THE SAME OPERANDS, AND THE BLOCKS THAT THEY REFER TO THE SAME: the same effect -/
theorem eff_congr {P : Program} {s s' : ASt} {d : Nat} {op : Op} (ht : ∀ x ∈ op.operands, s'.ev x = s.ev x) (hh : ∀ x ∈ op.operands, ∀ id ∈ orefs s x, s'.h id = s.h id) (hs : usesSite op = true → s'.h (site d) = s.h (site d)) :
    eff P s' d op = eff P s d op := by
  have cur : ∀ {id : Nat}, s'.h id = s.h id → ∀ st, Cur s'.h id st = Cur s.h id st := fun {id} e st => by simp only [Cur, e]
  have r1 : ∀ {x : Operand} {t : AT}, x ∈ op.operands → s.ev x = some t → ∀ id ∈ t.refs, s'.h id = s.h id := fun hx he id hid => hh _ hx id (by simp [orefs, he, hid])
  have one : ∀ x ∈ op.operands, ∀ (f f' : Option AT → Eff), (∀ t, s.ev x = some t → f' (some t) = f (some t)) → f' none = f none → f' (s'.ev x) = f (s.ev x) := by
    intro x hx f f' h1 h2
    rw [ht x hx]
    cases he : s.ev x with
    | none => exact h2
    | some t => exact h1 t he
  cases op <;> simp only [Op.operands] at ht r1 <;> simp only [eff]
  case move x => rw [ht x (by simp)]
  case assign x => rw [ht x (by simp)]
  case pick x y z => rw [ht x (by simp), ht y (by simp), ht z (by simp)]
  case alloc t => simp only [effAlloc, hs rfl]
  case box t x => rw [ht x (by simp)]; simp only [effBox, hs rfl]
  case build t ps => rw [evParts_congr (fun p hp => ht p.2 (by simp; exact ⟨p.1, by simpa using hp⟩))]
  case buildSlice t n ps =>
    rw [evParts_congr (fun p hp => ht p.2 (by simp; exact ⟨p.1, by simpa using hp⟩))]
    simp only [effBuildSlice, hs rfl]
  case load t x =>
    rw [ht x (by simp)]
    cases he : s.ev x with
    | none => rfl
    | some y =>
      unfold effLoad
      split <;> try rfl
      rename_i id st off e
      cases e
      rw [r1 (x := x) (by simp) he id (by simp [AT.refs, AV.refs])]
  case store t x y =>
    rw [ht x (by simp), ht y (by simp)]
    cases he : s.ev x with
    | none => rfl
    | some z =>
      unfold effStore
      split <;> try rfl
      rename_i id st off _ e _
      cases e
      rw [r1 (x := x) (by simp) he id (by simp [AT.refs, AV.refs])]
  case nilCheck x =>
    rw [ht x (by simp)]
    cases he : s.ev x with
    | none => rfl
    | some y =>
      unfold effNil
      split <;> try rfl
      rename_i id st off e
      cases e
      rw [cur (r1 (x := x) (by simp) he id (by simp [AT.refs, AV.refs]))]
  case binOp op t x y yt => rw [ht x (by simp), ht y (by simp)]
  case unOp op t x => rw [ht x (by simp)]
  case convert t u x => rw [ht x (by simp)]
  case makeFunc f fs cs =>
    rw [evCaps_congr (fun p hp => ht p (by simp; right; simpa using hp))]
  case slice t x lo hi mx =>
    cases mx with
    | some m => rfl
    | none =>
      simp only [eff]
      rw [ht x (by simp), evOpt_congr (x := lo) (fun y hy => ht y (by simp [hy])), evOpt_congr (x := hi) (fun y hy => ht y (by simp [hy]))]
      split <;> try rfl
      exact effSlice_congr (fun z hz => r1 (x := x) (by simp) hz)
  case fieldAddr t x f =>
    rw [ht x (by simp)]
    cases he : s.ev x with
    | none => rfl
    | some y =>
      unfold effFieldAddr
      split <;> try rfl
      rename_i e; cases e
      rw [cur (r1 (x := x) (by simp) he _ (by simp [AT.refs, AV.refs]))]
  case field t x f => rw [ht x (by simp)]
  case indexAddr t x i =>
    rw [ht x (by simp), ht i (by simp)]
    cases he : s.ev x with
    | none => rfl
    | some y =>
      unfold effIndexAddr
      split <;> try rfl
      · rename_i e _; cases e
        rw [cur (r1 (x := x) (by simp) he _ (by simp [AT.refs, AV.refs]))]
      · rename_i e _; cases e
        rw [cur (r1 (x := x) (by simp) he _ (by simp [AT.refs, AV.refs]))]
  case index t x i => rw [ht x (by simp), ht i (by simp)]
  case extract x k => rw [ht x (by simp)]
  case call c =>
    obtain ⟨callee, args, ats⟩ := c
    cases callee with
    | value f => rfl
    | invoke r m => rfl
    | builtin b =>
      simp only [Call.operands, Array.empty_append] at ht r1
      simp only [effBuiltin]
      split <;> try rfl
      · rename_i x t h1 h2
        have hm : x ∈ args := by have : x ∈ args.toList := by rw [h1]; simp
                                 simpa using this
        rw [ht x hm]
        cases he : s.ev x with
        | none => rfl
        | some y =>
          unfold effLen
          split <;> try rfl
          rename_i e; cases e
          rw [cur (r1 hm he _ (by simp [AT.refs, AV.refs]))]
      · rename_i x y h1
        have hm : ∀ z, z = x ∨ z = y → z ∈ args := fun z hz => by have : z ∈ args.toList := by rw [h1]; simp [hz]
                                                                  simpa using this
        rw [ht x (hm x (.inl rfl)), ht y (hm y (.inr rfl))]
      · rename_i x y h1
        have hm : ∀ z, z = x ∨ z = y → z ∈ args := fun z hz => by have : z ∈ args.toList := by rw [h1]; simp [hz]
                                                                  simpa using this
        rw [ht x (hm x (.inl rfl)), ht y (hm y (.inr rfl))]
      · rename_i x y t u h1 h2
        have hm : ∀ z, z = x ∨ z = y → z ∈ args := fun z hz => by have : z ∈ args.toList := by rw [h1]; simp [hz]
                                                                  simpa using this
        rw [ht x (hm x (.inl rfl)), ht y (hm y (.inr rfl))]
        have hsrc : ∀ E, srcOf s'.h E (s.ev y) = srcOf s.h E (s.ev y) := by
          intro E
          cases he : s.ev y with
          | none => rfl
          | some z =>
            unfold srcOf
            split <;> try rfl
            rename_i e; cases e
            rw [r1 (hm y (.inr rfl)) he _ (by simp [AT.refs, AV.refs])]
        unfold effAppend
        cases he : s.ev x with
        | none => rfl
        | some z =>
          split <;> try rfl
          · rename_i e; cases e
            rw [r1 (hm x (.inl rfl)) he _ (by simp [AT.refs, AV.refs])]
            simp only [hsrc]
          · simp only [hsrc, hs rfl]
end
end Go.Ab
