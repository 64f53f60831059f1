/- CALLS THAT ARE HANDED BLOCKS, OR HAND SOME BACK. -/
import Derived.Test.YtpikidekdeglcaaAb33
namespace Go.Ab
open Go
noncomputable section

def argsR (τ : Nat → Nat) (n : Nat) : List AT → List AT → Prop
  | [], [] => True
  | x :: l, y :: m => x.wk = y.ren τ ∧ x.oldCaps ∧ ltAll n y.refs ∧ argsR τ n l m
  | _, _ => False
theorem argsR_nil {τ : Nat → Nat} {n : Nat} : argsR τ n [] [] = True := rfl
theorem argsR_cons {τ : Nat → Nat} {n : Nat} {x y : AT} {l m : List AT} : argsR τ n (x :: l) (y :: m) = (x.wk = y.ren τ ∧ x.oldCaps ∧ ltAll n y.refs ∧ argsR τ n l m) := rfl
theorem agg_of_wk {x : List AV} {y : AT} {τ : Nat → Nat} (h : (AT.agg x).wk = y.ren τ) : ∃ ys, y = .agg ys ∧ x.map AV.wk = ys.map (AV.ren τ) := by
  cases y with
  | c y => simp [AT.wk, AT.ren] at h
  | agg ys => exact ⟨ys, rfl, by simpa [AT.wk, AT.ren, renL_map] using h⟩
  | tup l => simp [AT.wk, AT.ren] at h
theorem argsR_spec {h : Heap} {τ : Nat → Nat} {n : Nat} : ∀ {as as2 : List AT}, argsR τ n as as2 → as.length = as2.length ∧ (∀ (i : Nat) (h1 : i < as.length) (h2 : i < as2.length), AtOk h τ [] as[i] as2[i]) ∧ ∀ x ∈ as2, ∀ id ∈ x.refs, id < n
  | [], [], _ => ⟨rfl, fun i h1 => by simp at h1, fun x hx => by simp at hx⟩
  | [], _ :: _, h => h.elim
  | _ :: _, [], h => h.elim
  | x :: l, y :: m, hh => by
    obtain ⟨h1, h2, h3, h4⟩ := hh
    obtain ⟨g1, g2, g3⟩ := argsR_spec (h := h) h4
    refine ⟨by simp [g1], fun i k1 k2 => ?_, fun z hz => ?_⟩
    · cases i with
      | zero =>
        simp only [List.getElem_cons_zero]
        cases x with
        | c x =>
          cases y with
          | c y => exact .c (.plain (by simpa [AT.wk, AT.ren] using h1) h2)
          | agg ys => simp [AT.wk, AT.ren] at h1
          | tup l => simp [AT.wk, AT.ren] at h1
        | agg cs =>
          obtain ⟨ys, rfl, he⟩ := agg_of_wk h1
          have hl : cs.length = ys.length := by simpa using congrArg List.length he
          refine .agg hl (fun i i1 i2 => .plain ?_ (h2 _ (by simp)))
          have := congrArg (fun l : List AV => l[i]?) he
          simpa [i1, i2] using this
        | tup l => exact h2.elim
      | succ i => simpa using g2 i (by simpa using k1) (by simpa using k2)
    · rcases List.mem_cons.1 hz with rfl | hz
      · exact ltAll_mem h3
      · exact g3 z hz

def oldAll : List AV → Prop
  | [] => True
  | x :: l => x.oldCaps ∧ oldAll l
theorem oldAll_nil : oldAll [] = True := rfl
theorem oldAll_cons {x : AV} {l : List AV} : oldAll (x :: l) = (x.oldCaps ∧ oldAll l) := rfl
theorem oldAll_mem : ∀ {l : List AV}, oldAll l → ∀ x ∈ l, x.oldCaps
  | y :: l, h, x, hx => by
    rcases List.mem_cons.1 hx with rfl | hx
    · exact h.1
    · exact oldAll_mem h.2 x hx
def bcells : Option Blk → List AV
  | some p => p.2
  | none => []
theorem bcells_some {p : Blk} : bcells (some p) = p.2 := rfl
theorem bcells_none : bcells none = [] := rfl
def bI (τ : Nat → Nat) (b : Option Blk) : Option (Option Blk) → Prop
  | some b' => bwk b' = bren τ b ∧ oldAll (bcells b')
  | none => False
theorem bI_some {τ : Nat → Nat} {b b' : Option Blk} : bI τ b (some b') = (bwk b' = bren τ b ∧ oldAll (bcells b')) := rfl
def blkIn (s : ASt) (τ : Nat → Nat) (n : Nat) : Nat → List (Option Blk) → Prop
  | _, [] => True
  | k, b :: l => bI τ b (s.h (τ k)) ∧ ltAll n (brefs b) ∧ blkIn s τ n (k + 1) l
theorem blkIn_nil {s : ASt} {τ : Nat → Nat} {n k : Nat} : blkIn s τ n k [] = True := rfl
theorem blkIn_cons {s : ASt} {τ : Nat → Nat} {n k : Nat} {b : Option Blk} {l : List (Option Blk)} : blkIn s τ n k (b :: l) = (bI τ b (s.h (τ k)) ∧ ltAll n (brefs b) ∧ blkIn s τ n (k + 1) l) := rfl
theorem blkIn_spec {s : ASt} {τ : Nat → Nat} {n : Nat} : ∀ {l : List (Option Blk)} {k : Nat}, blkIn s τ n k l → ∀ (j : Nat) (hj : j < l.length), ∃ b, s.h (τ (k + j)) = some b ∧ bwk b = bren τ l[j] ∧ (∀ id ∈ brefs l[j], id < n) ∧ ∀ p, b = some p → ∀ x ∈ p.2, x.oldCaps
  | b :: l, k, h, j, hj => by
    obtain ⟨h1, h2, h3⟩ := h
    cases j with
    | zero =>
      unfold bI at h1
      split at h1
      · rename_i b' e
        exact ⟨b', e, h1.1, ltAll_mem h2, fun p hp x hx => oldAll_mem h1.2 x (by rw [hp]; exact hx)⟩
      · exact h1.elim
    | succ j =>
      have := blkIn_spec h3 j (by simpa using hj)
      rw [show k + 1 + j = k + (j + 1) by omega] at this
      simpa using this

section
variable {C : Cx} {s : ASt} {K : KK} {d : Option Nat}
/-- a call; the new blocks get the numbers from b0 on -/
theorem xok_b {g : FuncId} {as as2 : List AT} {l : List (Option Blk)} {R : AT → List (Option Blk) → Prop} (σ : List Nat) (b0 : Nat) (h : AC C.P g as2 l R) (hl : l.length = σ.length) (hnd : σ.Nodup) (hb : blkIn s (tau σ b0) l.length 0 l)
    (ha : argsR (tau σ b0) l.length as as2) (hR : ∀ r l', R r l' → (∀ j, l.length ≤ j → j < l'.length → s.h (tau σ b0 j) = none ∧ 16 ≤ tau σ b0 j) ∧ @xk (ASt.put ⟨s.t, mergeL (tau σ b0) 0 l' s.h⟩ d (r.ren (tau σ b0))) K)
    (hd : okDst C.N d := by (first | trivial | (show (_ : Nat) < _; decide))) : @xok C g as d s K := by
  obtain ⟨g1, g2, g3⟩ := argsR_spec (h := s.h) ha
  exact CallOk.of h σ b0 [] hl hnd (fun j hj => by have := blkIn_spec hb j hj; simpa using this) g1 g2 g3 (fun id hid => by cases hid) hd (fun r l' hr => ⟨(hR r l' hr).1, .inl rfl, (hR r l' hr).2⟩)
theorem xokM_b {S M : List Nat} {g : FuncId} {as as2 : List AT} {l : List (Option Blk)} {R : AT → List (Option Blk) → Prop} (σ : List Nat) (b0 : Nat) (h : AC C.P g as2 l R) (hl : l.length = σ.length) (hnd : σ.Nodup) (hb : blkIn s (tau σ b0) l.length 0 l)
    (ha : argsR (tau σ b0) l.length as as2) (hS : ∀ id ∈ S, id ∉ σ) (hM : ∀ id ∈ M, id ∉ σ) (hR : ∀ r l', R r l' → (∀ j, l.length ≤ j → j < l'.length → s.h (tau σ b0 j) = none ∧ 16 ≤ tau σ b0 j) ∧ @xk (ASt.put ⟨s.t, mergeL (tau σ b0) 0 l' s.h⟩ d (r.ren (tau σ b0))) K) : @xokM C S M g as d s K := by
  obtain ⟨g1, g2, g3⟩ := argsR_spec (h := s.h) ha
  exact .inr ⟨as2, l, R, σ, b0, [], h, hl, hnd, (fun j hj => by have := blkIn_spec hb j hj; simpa using this), g1, g2, g3, (fun id hid => by cases hid), hS, (fun id hid => ⟨hM id hid, by simp⟩), fun r l' hr => ⟨(hR r l' hr).1, .inl rfl, (hR r l' hr).2⟩⟩
end
attribute [go_sem] argsR_nil argsR_cons oldAll_nil oldAll_cons bcells_some bcells_none bI_some blkIn_nil blkIn_cons
end
end Go.Ab
