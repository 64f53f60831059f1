/- MORE THAT MAY BE FORGOTTEN; CALLS THAT BORROW. -/
import Derived.Test.YtpikidekdeglcaaAb34
set_option linter.all false
namespace Go.Ab
open Go
noncomputable section
section
variable {C : Cx} {s s' : ASt} {K : KK} {d : Option Nat}

/-- a nil slice is an empty one -/
theorem Sub.nilsl {k : Nat} (hk : s.t k = some (.c (.s (.slice none 0 0)))) : Sub C s ⟨upd s.t k (some (.c (.sl true []))), s.h⟩ := by
  intro Th base D w φ Im a hr
  refine ⟨φ, Im, ⟨hr.ok, hr.size, hr.defers, fun j x hx => ?_⟩, Ext.refl⟩
  by_cases ej : j = k
  · subst ej
    simp only [upd_same] at hx
    cases hx
    have := RelT.s_inv (hr.tmps _ _ hk)
    rw [this]
    exact .c (.sl .nil)
  · simp only [upd_ne _ _ ej] at hx
    exact hr.tmps j x hx

/-- a block is frozen, and one slice over it may be read from now on -/
theorem Sub.frz1 {k id E : Nat} {fr : Bool} {ty : TypeId} {cs : List AV} {off len st : Nat} {xs : List (List PV)} (ps : List PV) (hk : s.t k = some (.c (.msl E id st off len))) (hid : s.h id = some (some (ty, cs))) (hst : cs.length = st) (hcs : cs = ps.map (PV.up fr))
    (hE : 0 < E) (h16 : fr = true → 16 ≤ id) (hlen : xs.length = len) (hxE : ∀ x ∈ xs, x.length = E) (hc : (ps.drop off).take (len * E) = xs.flatten) :
    Sub C s ⟨upd s.t k (some (.c (.sl fr xs))), upd s.h id (some none)⟩ := by
  subst hst
  refine Sub.freeze hid hcs hE h16 (upd_same _ _ _) (fun j hj => .inl (upd_ne _ _ hj)) (fun j y hy => ?_)
  by_cases e : j = k
  · subst e
    simp only [upd_same] at hy
    cases hy
    exact ⟨_, hk, .c (.frz hlen hxE hc)⟩
  · simp only [upd_ne _ _ e] at hy
    exact ⟨_, hy, .same⟩

/-! ### calls that are lent what the caller may write -/
def borO (E off len : Nat) (xs : List (List PV)) (st : Nat) : Option (Option (TypeId × List AV)) → Prop
  | some (some (_, cs)) => cs.length = st ∧ xs.length = len ∧ 0 < E ∧ (∀ x ∈ xs, x.length = E) ∧ ∃ fr, (cs.drop off).take (len * E) = xs.flatten.map (PV.up fr)
  | _ => False
def arg1 (s : ASt) (τ : Nat → Nat) (B : List Nat) (n : Nat) : AT → AT → Prop
  | .c (.msl E id st off len), .c (.sl false xs) => B.contains id = true ∧ borO E off len xs st (s.h id)
  | x, y => x.wk = y.ren τ ∧ x.oldCaps ∧ ltAll n y.refs
def argB (s : ASt) (τ : Nat → Nat) (B : List Nat) (n : Nat) : List AT → List AT → Prop
  | [], [] => True
  | x :: l, y :: m => arg1 s τ B n x y ∧ argB s τ B n l m
  | _, _ => False
section
variable {τ : Nat → Nat} {B : List Nat} {n : Nat}
theorem argB_nil : argB s τ B n [] [] = True := rfl
theorem argB_cons {x y : AT} {l m : List AT} : argB s τ B n (x :: l) (y :: m) = (arg1 s τ B n x y ∧ argB s τ B n l m) := rfl
theorem arg1_bor {E id st off len : Nat} {xs : List (List PV)} : arg1 s τ B n (.c (.msl E id st off len)) (.c (.sl false xs)) = (B.contains id = true ∧ borO E off len xs st (s.h id)) := rfl
theorem arg1_msl {E id st off len E' id' st' off' len' : Nat} : arg1 s τ B n (.c (.msl E id st off len)) (.c (.msl E' id' st' off' len')) = ((AT.c (.msl E id st off len)).wk = (AT.c (.msl E' id' st' off' len')).ren τ ∧ AT.oldCaps (.c (.msl E id st off len)) ∧ ltAll n (AT.c (.msl E' id' st' off' len')).refs) := rfl
theorem arg1_s {v : Value} {y : AT} : arg1 s τ B n (.c (.s v)) y = ((AT.c (.s v)).wk = y.ren τ ∧ AT.oldCaps (.c (.s v)) ∧ ltAll n y.refs) := rfl
theorem arg1_sl {fr : Bool} {xs : List (List PV)} {y : AT} : arg1 s τ B n (.c (.sl fr xs)) y = ((AT.c (.sl fr xs)).wk = y.ren τ ∧ AT.oldCaps (.c (.sl fr xs)) ∧ ltAll n y.refs) := rfl
theorem arg1_ptr {id st off : Nat} {y : AT} : arg1 s τ B n (.c (.ptr id st off)) y = ((AT.c (.ptr id st off)).wk = y.ren τ ∧ AT.oldCaps (.c (.ptr id st off)) ∧ ltAll n y.refs) := rfl
theorem arg1_fn {f : FuncId} {caps : List AV} {y : AT} : arg1 s τ B n (.c (.fn f caps)) y = ((AT.c (.fn f caps)).wk = y.ren τ ∧ AT.oldCaps (.c (.fn f caps)) ∧ ltAll n y.refs) := rfl
theorem arg1_agg {cs : List AV} {y : AT} : arg1 s τ B n (.agg cs) y = ((AT.agg cs).wk = y.ren τ ∧ AT.oldCaps (.agg cs) ∧ ltAll n y.refs) := rfl
theorem borO_some {E off len st : Nat} {xs : List (List PV)} {ty : TypeId} {cs : List AV} : borO E off len xs st (some (some (ty, cs))) = (cs.length = st ∧ xs.length = len ∧ 0 < E ∧ (∀ x ∈ xs, x.length = E) ∧ ∃ fr, (cs.drop off).take (len * E) = xs.flatten.map (PV.up fr)) := rfl

theorem AvOk.any {h : Heap} {x y : AV} (hx : AvOk h τ [] x y) : AvOk h τ B x y := by
  cases hx with
  | plain e ho => exact .plain e ho
  | bor hB _ _ _ _ _ _ => cases hB
theorem arg1_spec {x y : AT} (h : arg1 s τ B n x y) : AtOk s.h τ B x y ∧ ∀ id ∈ y.refs, id < n := by
  unfold arg1 at h
  split at h
  · rename_i E id st off len xs
    obtain ⟨h1, h2⟩ := h
    unfold borO at h2
    split at h2
    · rename_i ty cs hh
      obtain ⟨g1, g2, g3, g4, fr, g5⟩ := h2
      exact ⟨.c (.bor (by simpa using h1) hh g1 g2 g3 g4 g5), fun id hid => by simp [AT.refs, AV.refs] at hid⟩
    · exact h2.elim
  · have := (argsR_spec (h := s.h) (τ := τ) (n := n) (as := [x]) (as2 := [y]) ⟨h.1, h.2.1, h.2.2, trivial⟩)
    have h2 := this.2.1 0 (by simp) (by simp)
    refine ⟨?_, fun id hid => this.2.2 y (by simp) id hid⟩
    simp only [List.getElem_cons_zero] at h2
    cases h2 with
    | c hx => exact .c hx.any
    | agg hl hx => exact .agg hl fun i i1 i2 => (hx i i1 i2).any
theorem argB_spec : ∀ {as as2 : List AT}, argB s τ B n as as2 → as.length = as2.length ∧ (∀ (i : Nat) (h1 : i < as.length) (h2 : i < as2.length), AtOk s.h τ B as[i] as2[i]) ∧ ∀ x ∈ as2, ∀ id ∈ x.refs, id < n
  | [], [], _ => ⟨rfl, fun i h1 => by simp at h1, fun x hx => by simp at hx⟩
  | [], _ :: _, h => h.elim
  | _ :: _, [], h => h.elim
  | x :: l, y :: m, h => by
    obtain ⟨h1, h2⟩ := h
    obtain ⟨k1, k2⟩ := arg1_spec h1
    obtain ⟨g1, g2, g3⟩ := argB_spec h2
    refine ⟨by simp [g1], fun i i1 i2 => ?_, fun z hz => ?_⟩
    · cases i with
      | zero => exact k1
      | succ i => simpa using g2 i (by simpa using i1) (by simpa using i2)
    · rcases List.mem_cons.1 hz with rfl | hz
      · exact k2
      · exact g3 z hz
end
theorem xok_B {g : FuncId} {as as2 : List AT} {l : List (Option Blk)} {R : AT → List (Option Blk) → Prop} (B σ : List Nat) (b0 : Nat) (h : AC C.P g as2 l R) (hl : l.length = σ.length) (hnd : σ.Nodup) (hb : blkIn s (tau σ b0) l.length 0 l)
    (ha : argB s (tau σ b0) B l.length as as2) (hB : ∀ id ∈ B, id ∉ σ) (hR : ∀ r l', R r l' → (r.fresh ∧ ∀ b ∈ l', bfresh b) ∧ (∀ j, l.length ≤ j → j < l'.length → s.h (tau σ b0 j) = none ∧ 16 ≤ tau σ b0 j) ∧ @xk (ASt.put ⟨s.t, mergeL (tau σ b0) 0 l' s.h⟩ d (r.ren (tau σ b0))) K)
    (hd : okDst C.N d := by (first | trivial | (show (_ : Nat) < _; decide))) : @xok C g as d s K := by
  obtain ⟨g1, g2, g3⟩ := argB_spec ha
  exact CallOk.of h σ b0 B hl hnd (fun j hj => by have := blkIn_spec hb j hj; simpa using this) g1 g2 g3 hB hd (fun r l' hr => ⟨(hR r l' hr).2.1, .inr (hR r l' hr).1, (hR r l' hr).2.2⟩)
theorem xokM_B {S M : List Nat} {g : FuncId} {as as2 : List AT} {l : List (Option Blk)} {R : AT → List (Option Blk) → Prop} (B σ : List Nat) (b0 : Nat) (h : AC C.P g as2 l R) (hl : l.length = σ.length) (hnd : σ.Nodup) (hb : blkIn s (tau σ b0) l.length 0 l)
    (ha : argB s (tau σ b0) B l.length as as2) (hB : ∀ id ∈ B, id ∉ σ) (hS : ∀ id ∈ S, id ∉ σ) (hM : ∀ id ∈ M, id ∉ σ ∧ id ∉ B) (hR : ∀ r l', R r l' → (r.fresh ∧ ∀ b ∈ l', bfresh b) ∧ (∀ j, l.length ≤ j → j < l'.length → s.h (tau σ b0 j) = none ∧ 16 ≤ tau σ b0 j) ∧ @xk (ASt.put ⟨s.t, mergeL (tau σ b0) 0 l' s.h⟩ d (r.ren (tau σ b0))) K) : @xokM C S M g as d s K := by
  obtain ⟨g1, g2, g3⟩ := argB_spec ha
  exact .inr ⟨as2, l, R, σ, b0, B, h, hl, hnd, (fun j hj => by have := blkIn_spec hb j hj; simpa using this), g1, g2, g3, hB, hS, hM, fun r l' hr => ⟨(hR r l' hr).2.1, .inr (hR r l' hr).1, (hR r l' hr).2.2⟩⟩
end
attribute [go_sem] argB_nil argB_cons arg1_bor arg1_msl arg1_s arg1_sl arg1_ptr arg1_fn arg1_agg borO_some
end
end Go.Ab
