/- NAMES OF BLOCKS: what refers to what; other names; what may be forgotten. -/
import Derived.Test.YtpikidekdeglcaaAb13
namespace Go.Ab
open Go
noncomputable section

mutual
def AV.refs : AV → List Nat
  | .ptr id _ _ => [id]
  | .msl _ id _ _ _ => [id]
  | .fn _ caps => AV.refsL caps
  | _ => []
def AV.refsL : List AV → List Nat
  | [] => []
  | x :: l => x.refs ++ AV.refsL l
end

mutual
def AV.ren (ρ : Nat → Nat) : AV → AV
  | .s v => .s v
  | .sl fr xs => .sl fr xs
  | .ptr id st off => .ptr (ρ id) st off
  | .msl E id st off len => .msl E (ρ id) st off len
  | .ipt fr cs => .ipt fr cs
  | .fn f caps => .fn f (AV.renL ρ caps)
  | .junk => .junk
def AV.renL (ρ : Nat → Nat) : List AV → List AV
  | [] => []
  | x :: l => x.ren ρ :: AV.renL ρ l
end

/-- known less of: not that it is new; a nil slice is an empty one -/
def AV.wk : AV → AV
  | .sl _ xs => .sl false xs
  | .ipt _ cs => .ipt false cs
  | .s (.slice none 0 0) => .sl false []
  | x => x
/-- a nil slice is an empty one -/
def AV.nrm : AV → AV
  | .s (.slice none 0 0) => .sl true []
  | x => x

mutual
def AT.refs : AT → List Nat
  | .c x => x.refs
  | .agg cs => AV.refsL cs
  | .tup l => AT.refsL l
def AT.refsL : List AT → List Nat
  | [] => []
  | x :: l => x.refs ++ AT.refsL l
end
mutual
def AT.ren (ρ : Nat → Nat) : AT → AT
  | .c x => .c (x.ren ρ)
  | .agg cs => .agg (AV.renL ρ cs)
  | .tup l => .tup (AT.renL ρ l)
def AT.renL (ρ : Nat → Nat) : List AT → List AT
  | [] => []
  | x :: l => x.ren ρ :: AT.renL ρ l
end
mutual
def AT.wk : AT → AT
  | .c x => .c x.wk
  | .agg cs => .agg (cs.map AV.wk)
  | .tup l => .tup (AT.wkL l)
def AT.wkL : List AT → List AT
  | [] => []
  | x :: l => x.wk :: AT.wkL l
end
mutual
def AT.nrm : AT → AT
  | .c x => .c x.nrm
  | .agg cs => .agg (cs.map AV.nrm)
  | .tup l => .tup (AT.nrmL l)
def AT.nrmL : List AT → List AT
  | [] => []
  | x :: l => x.nrm :: AT.nrmL l
end

abbrev Blk := TypeId × List AV
def bren (ρ : Nat → Nat) (b : Option Blk) : Option Blk := b.map fun p => (p.1, AV.renL ρ p.2)
def bwk (b : Option Blk) : Option Blk := b.map fun p => (p.1, p.2.map AV.wk)
def brefs (b : Option Blk) : List Nat := match b with
  | some p => AV.refsL p.2
  | none => []

theorem renL_map (ρ : Nat → Nat) (l : List AV) : AV.renL ρ l = l.map (AV.ren ρ) := by
  induction l with
  | nil => rfl
  | cons x l ih => simp [AV.renL, ih]
theorem trenL_map (ρ : Nat → Nat) (l : List AT) : AT.renL ρ l = l.map (AT.ren ρ) := by
  induction l with
  | nil => rfl
  | cons x l ih => simp [AT.renL, ih]
theorem wkL_map (l : List AT) : AT.wkL l = l.map AT.wk := by
  induction l with
  | nil => rfl
  | cons x l ih => simp [AT.wkL, ih]
theorem nrmL_map (l : List AT) : AT.nrmL l = l.map AT.nrm := by
  induction l with
  | nil => rfl
  | cons x l ih => simp [AT.nrmL, ih]
theorem mem_refsL {l : List AV} {x : AV} (hx : x ∈ l) {id : Nat} (hi : id ∈ x.refs) : id ∈ AV.refsL l := by
  induction l with
  | nil => cases hx
  | cons y l ih =>
    simp only [AV.refsL, List.mem_append]
    rcases List.mem_cons.1 hx with rfl | h
    · exact .inl hi
    · exact .inr (ih h)
theorem mem_trefsL {l : List AT} {x : AT} (hx : x ∈ l) {id : Nat} (hi : id ∈ x.refs) : id ∈ AT.refsL l := by
  induction l with
  | nil => cases hx
  | cons y l ih =>
    simp only [AT.refsL, List.mem_append]
    rcases List.mem_cons.1 hx with rfl | h
    · exact .inl hi
    · exact .inr (ih h)

section
variable {w : World} {φ φ2 : Nat → Option Nat} {Im : Nat → Prop} {base base2 : Nat} {h h2 : Heap} {τ ι : Nat → Nat}

/-- what is asked of a name that turns -/
def RenOk (τ : Nat → Nat) (φ : Nat → Option Nat) (h : Heap) (φ2 : Nat → Option Nat) (h2 : Heap) (id : Nat) : Prop :=
  h2 id ≠ none ∧ ∀ ty2 cs2, h2 id = some (some (ty2, cs2)) → (∃ ty cs, h (τ id) = some (some (ty, cs)) ∧ cs.length = cs2.length) ∧ φ2 id = φ (τ id)

theorem RelC.unren {v : Value} {y : AV} (hy : RelC w φ Im base h v y) : ∀ {x : AV}, y = x.ren τ → (∀ id ∈ x.refs, RenOk τ φ h φ2 h2 id) → RelC w φ2 Im base h2 v x := by
  induction hy with
  | s hv => intro x e _; cases x <;> simp [AV.ren] at e; subst e; exact .s hv
  | sl hp => intro x e _; cases x <;> simp [AV.ren] at e; obtain ⟨rfl, rfl⟩ := e; exact .sl hp
  | ptr hid hv hst H =>
    intro x e hr; cases x <;> simp [AV.ren] at e
    obtain ⟨rfl, rfl, rfl⟩ := e
    obtain ⟨h1, h3⟩ := hr _ (List.Mem.head _)
    refine .ptr h1 hv (fun ty cs he => ?_) (fun ty cs he hl => ?_)
    · obtain ⟨⟨ty0, cs0, e0, l0⟩, _⟩ := h3 ty cs he; rw [← l0]; exact hst _ _ e0
    · obtain ⟨⟨ty0, cs0, e0, l0⟩, p0⟩ := h3 ty cs he
      obtain ⟨b, hb, hv⟩ := H _ _ e0 (by omega)
      exact ⟨b, p0.trans hb, hv⟩
  | msl hid hv hst H =>
    intro x e hr; cases x <;> simp [AV.ren] at e
    obtain ⟨rfl, rfl, rfl, rfl, rfl⟩ := e
    obtain ⟨h1, h3⟩ := hr _ (List.Mem.head _)
    refine .msl h1 hv (fun ty cs he => ?_) (fun ty cs he hl => ?_)
    · obtain ⟨⟨ty0, cs0, e0, l0⟩, _⟩ := h3 ty cs he; rw [← l0]; exact hst _ _ e0
    · obtain ⟨⟨ty0, cs0, e0, l0⟩, p0⟩ := h3 ty cs he
      rcases H _ _ e0 (by omega) with ⟨hn, rest⟩ | ⟨b, off', cap, c, T, hb, rest⟩
      · exact .inl ⟨p0.trans hn, rest⟩
      · exact .inr ⟨b, off', cap, c, T, p0.trans hb, rest⟩
  | ipt hO hc hp => intro x e _; cases x <;> simp [AV.ren] at e; obtain ⟨rfl, rfl⟩ := e; exact .ipt hO hc hp
  | fn hs hr ih =>
    intro x e hrf; cases x <;> simp [AV.ren] at e
    rename_i caps' 
    obtain ⟨rfl, e⟩ := e
    rw [renL_map] at e; subst e
    refine .fn (by simpa using hs) (fun i hi => ?_)
    exact ih i (by simpa using hi) (by simp) (fun id hid => hrf id (by simp only [AV.refs]; exact mem_refsL (by simp) hid))
  | junk hv => intro x e _; cases x <;> simp [AV.ren] at e; exact .junk hv

theorem RelT.unren {v : Value} {y : AT} (hy : RelT w φ Im base h v y) : ∀ {x : AT}, y = x.ren τ → (∀ id ∈ x.refs, RenOk τ φ h φ2 h2 id) → RelT w φ2 Im base h2 v x := by
  induction hy with
  | c hx => intro x e hr; cases x <;> simp [AT.ren] at e; subst e; exact .c (hx.unren rfl hr)
  | agg hs hr =>
    intro x e hrf; cases x <;> simp [AT.ren] at e
    rw [renL_map] at e; subst e
    refine .agg (by simpa using hs) (fun i hi => ?_)
    exact (hr i (by simpa using hi)).unren (by simp) (fun id hid => hrf id (by simp only [AT.refs]; exact mem_refsL (by simp) hid))
  | tup hs hr ih =>
    intro x e hrf; cases x <;> simp [AT.ren] at e
    rw [trenL_map] at e; subst e
    refine .tup (by simpa using hs) (fun i hi => ?_)
    exact ih i (by simpa using hi) (by simp) (fun id hid => hrf id (by simp only [AT.refs]; exact mem_trefsL (by simp) hid))

mutual
theorem AV.ren_ren : ∀ (x : AV), (∀ id ∈ x.refs, ι (τ id) = id) → (x.ren τ).ren ι = x
  | .s v, _ => rfl
  | .sl fr xs, _ => rfl
  | .ptr id st off, h => by simp [AV.ren, h id (by simp [AV.refs])]
  | .msl E id st off len, h => by simp [AV.ren, h id (by simp [AV.refs])]
  | .ipt fr cs, _ => rfl
  | .fn f caps, h => by simp only [AV.ren]; rw [AV.renL_renL caps (fun id hid => h id (by simpa [AV.refs] using hid))]
  | .junk, _ => rfl
theorem AV.renL_renL : ∀ (l : List AV), (∀ id ∈ AV.refsL l, ι (τ id) = id) → AV.renL ι (AV.renL τ l) = l
  | [], _ => rfl
  | x :: l, h => by
    simp only [AV.renL]
    rw [AV.ren_ren x (fun id hid => h id (by simp [AV.refsL, hid])), AV.renL_renL l (fun id hid => h id (by simp [AV.refsL, hid]))]
end
mutual
theorem AT.ren_ren : ∀ (x : AT), (∀ id ∈ x.refs, ι (τ id) = id) → (x.ren τ).ren ι = x
  | .c x, h => by simp only [AT.ren]; rw [AV.ren_ren x (fun id hid => h id (by simpa [AT.refs] using hid))]
  | .agg cs, h => by simp only [AT.ren]; rw [AV.renL_renL cs (fun id hid => h id (by simpa [AT.refs] using hid))]
  | .tup l, h => by simp only [AT.ren]; rw [AT.renL_renL l (fun id hid => h id (by simpa [AT.refs] using hid))]
theorem AT.renL_renL : ∀ (l : List AT), (∀ id ∈ AT.refsL l, ι (τ id) = id) → AT.renL ι (AT.renL τ l) = l
  | [], _ => rfl
  | x :: l, h => by
    simp only [AT.renL]
    rw [AT.ren_ren x (fun id hid => h id (by simp [AT.refsL, hid])), AT.renL_renL l (fun id hid => h id (by simp [AT.refsL, hid]))]
end

mutual
theorem AV.refs_ren : ∀ (x : AV), (x.ren τ).refs = x.refs.map τ
  | .s v => rfl
  | .sl fr xs => rfl
  | .ptr id st off => rfl
  | .msl E id st off len => rfl
  | .ipt fr cs => rfl
  | .fn f caps => by simp only [AV.ren, AV.refs]; exact AV.refsL_renL caps
  | .junk => rfl
theorem AV.refsL_renL : ∀ (l : List AV), AV.refsL (AV.renL τ l) = (AV.refsL l).map τ
  | [] => rfl
  | x :: l => by simp only [AV.renL, AV.refsL, List.map_append]; rw [AV.refs_ren x, AV.refsL_renL l]
end
mutual
theorem AT.refs_ren : ∀ (x : AT), (x.ren τ).refs = x.refs.map τ
  | .c x => by simp only [AT.ren, AT.refs]; exact AV.refs_ren x
  | .agg cs => by simp only [AT.ren, AT.refs]; exact AV.refsL_renL cs
  | .tup l => by simp only [AT.ren, AT.refs]; exact AT.refsL_renL l
theorem AT.refsL_renL : ∀ (l : List AT), AT.refsL (AT.renL τ l) = (AT.refsL l).map τ
  | [] => rfl
  | x :: l => by simp only [AT.renL, AT.refsL, List.map_append]; rw [AT.refs_ren x, AT.refsL_renL l]
end

/-- into other names, where there is a way back -/
theorem RelC.into {v : Value} {x : AV} (hx : RelC w φ Im base h v x) (hi : ∀ id ∈ x.refs, ι (τ id) = id) (hr : ∀ id ∈ x.refs, RenOk ι φ h φ2 h2 (τ id)) : RelC w φ2 Im base h2 v (x.ren τ) := by
  refine hx.unren (τ := ι) (AV.ren_ren x hi).symm (fun id hid => ?_)
  rw [AV.refs_ren] at hid
  obtain ⟨j, hj, rfl⟩ := List.mem_map.1 hid
  exact hr j hj
theorem RelT.into {v : Value} {x : AT} (hx : RelT w φ Im base h v x) (hi : ∀ id ∈ x.refs, ι (τ id) = id) (hr : ∀ id ∈ x.refs, RenOk ι φ h φ2 h2 (τ id)) : RelT w φ2 Im base h2 v (x.ren τ) := by
  refine hx.unren (τ := ι) (AT.ren_ren x hi).symm (fun id hid => ?_)
  rw [AT.refs_ren] at hid
  obtain ⟨j, hj, rfl⟩ := List.mem_map.1 hid
  exact hr j hj

theorem RelC.basele {v : Value} {x : AV} (hb : base2 ≤ base) (hx : RelC w φ Im base h v x) : RelC w φ Im base2 h v x := by
  induction hx with
  | s hv => exact .s hv
  | sl hp => exact .sl (hp.mono (fun _ _ => rfl) (fun b hb2 => ⟨hb2.1, fun e => Nat.le_trans hb (hb2.2 e)⟩))
  | ptr hid hv hst H => exact .ptr hid hv hst H
  | msl hid hv hst H => exact .msl hid hv hst H
  | ipt hO hc hp => exact .ipt ⟨hO.1, fun e => Nat.le_trans hb (hO.2 e)⟩ hc (fun j hj => (hp j hj).mono (fun _ _ => rfl) (fun b hb2 => ⟨hb2.1, fun e => Nat.le_trans hb (hb2.2 e)⟩))
  | fn hs _ ih => exact .fn hs ih
  | junk hv => exact .junk hv
theorem RelT.basele {v : Value} {x : AT} (hb : base2 ≤ base) (hx : RelT w φ Im base h v x) : RelT w φ Im base2 h v x := by
  induction hx with
  | c hx => exact .c (hx.basele hb)
  | agg hs hr => exact .agg hs (fun i hi => (hr i hi).basele hb)
  | tup hs _ ih => exact .tup hs ih

/-- captured cells: without what is new -/
def AV.capOk : AV → Bool
  | .s _ | .ptr .. | .msl .. => true
  | _ => false
def AV.oldCaps : AV → Prop
  | .fn _ caps => caps.all AV.capOk = true
  | _ => True
theorem RelC.capBase {v : Value} {x : AV} (hx : RelC w φ Im base h v x) (ho : x.capOk = true) : RelC w φ Im base2 h v x := by
  cases hx with
  | s hv => exact .s hv
  | ptr hid hv hst H => exact .ptr hid hv hst H
  | msl hid hv hst H => exact .msl hid hv hst H
  | _ => simp [AV.capOk] at ho

theorem RelC.toWk {v : Value} {x : AV} (hx : RelC w φ Im base h v x) (ho : x.oldCaps) : RelC w φ Im base2 h v x.wk := by
  cases hx with
  | s hv =>
    unfold AV.wk
    split
    · rename_i e; cases e
    · rename_i e; cases e
    · rename_i e; cases e; exact .sl .nil
    · exact .s hv
  | sl hp => exact .sl (hp.mono (fun _ _ => rfl) (fun b hb2 => ⟨hb2.1, fun e => by cases e⟩))
  | ptr hid hv hst H => exact .ptr hid hv hst H
  | msl hid hv hst H => exact .msl hid hv hst H
  | ipt hO hc hp => exact .ipt ⟨hO.1, fun e => by cases e⟩ hc (fun j hj => (hp j hj).mono (fun _ _ => rfl) (fun b hb2 => ⟨hb2.1, fun e => by cases e⟩))
  | fn hs hr =>
    exact .fn hs (fun i hi => (hr i hi).capBase (List.all_eq_true.1 ho _ (by simp)))
  | junk hv => exact .junk hv
end

end
end Go.Ab
