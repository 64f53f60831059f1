/- THE END OF A FUNCTION THAT WAS HANDED BLOCKS, OR HANDS SOME BACK. -/
import Derived.Test.YtpikidekdeglcaaAb32
namespace Go.Ab
open Go
noncomputable section

def tauN (m0 : Nat) (news : List Nat) (j : Nat) : Nat := if j < m0 then j else news.getD (j - m0) 0
def ltAll (n : Nat) : List Nat → Prop
  | [] => True
  | i :: l => i < n ∧ ltAll n l
theorem ltAll_mem {n : Nat} : ∀ {l : List Nat}, ltAll n l → ∀ i ∈ l, i < n
  | j :: l, h, i, hi => by
    rcases List.mem_cons.1 hi with rfl | hi
    · exact h.1
    · exact ltAll_mem h.2 i hi
theorem ltAll_nil {n : Nat} : ltAll n [] = True := rfl
theorem ltAll_cons {n i : Nat} {l : List Nat} : ltAll n (i :: l) = (i < n ∧ ltAll n l) := rfl
def hO (τ : Nat → Nat) (b : Option Blk) : Option (Option Blk) → Prop
  | some b' => bnrm b' = bren τ b
  | none => False
theorem hO_some {τ : Nat → Nat} {b b' : Option Blk} : hO τ b (some b') = (bnrm b' = bren τ b) := rfl
def blksOk (s : ASt) (τ : Nat → Nat) (n : Nat) : Nat → List (Option Blk) → Prop
  | _, [] => True
  | k, b :: l => hO τ b (s.h (τ k)) ∧ ltAll n (brefs b) ∧ blksOk s τ n (k + 1) l
theorem blksOk_nil {s : ASt} {τ : Nat → Nat} {n k : Nat} : blksOk s τ n k [] = True := rfl
theorem blksOk_cons {s : ASt} {τ : Nat → Nat} {n k : Nat} {b : Option Blk} {l : List (Option Blk)} : blksOk s τ n k (b :: l) = (hO τ b (s.h (τ k)) ∧ ltAll n (brefs b) ∧ blksOk s τ n (k + 1) l) := rfl
theorem blksOk_spec {s : ASt} {τ : Nat → Nat} {n : Nat} : ∀ {l : List (Option Blk)} {k : Nat}, blksOk s τ n k l → ∀ (j : Nat) (hj : j < l.length), ∃ b, s.h (τ (k + j)) = some b ∧ bnrm b = bren τ l[j] ∧ ∀ id ∈ brefs l[j], id < n
  | b :: l, k, h, j, hj => by
    obtain ⟨h1, h2, h3⟩ := h
    cases j with
    | zero =>
      unfold hO at h1
      split at h1
      · rename_i b' e
        exact ⟨b', e, h1, ltAll_mem h2⟩
      · exact h1.elim
    | succ j =>
      have := blksOk_spec h3 j (by simpa using hj)
      rw [show k + 1 + j = k + (j + 1) by omega] at this
      simpa using this
def newsOk : List Nat → Prop
  | [] => True
  | i :: l => 16 ≤ i ∧ i ∉ l ∧ newsOk l
theorem newsOk_nil : newsOk [] = True := rfl
theorem newsOk_cons {i : Nat} {l : List Nat} : newsOk (i :: l) = (16 ≤ i ∧ i ∉ l ∧ newsOk l) := rfl
theorem newsOk_spec : ∀ {l : List Nat}, newsOk l → (∀ i ∈ l, 16 ≤ i) ∧ l.Nodup
  | [], _ => ⟨fun i hi => by simp at hi, List.nodup_nil⟩
  | i :: l, h => by
    obtain ⟨g1, g2⟩ := newsOk_spec h.2.2
    exact ⟨fun j hj => by
      rcases List.mem_cons.1 hj with rfl | hj
      · exact h.1
      · exact g1 j hj, List.nodup_cons.2 ⟨h.2.1, g2⟩⟩

section
variable {C : Cx} {s s' : ASt}
/-- **THE END OF A FUNCTION** -/
theorem xq_ret {rs : List ResultVar} {R : AT → List (Option Blk) → Prop} {m0 : Nat} (news : List Nat) (r : AT) (l' : List (Option Blk)) {c : Prop} {r0 : AT} (hsub : Sub C s s') (hm : C.m0 = m0) (hm16 : m0 ≤ 16) (hres : resOf C.P s' rs = some (c, r0)) (hc : c)
    (hr : r0.nrm = r.ren (tauN m0 news)) (hrefs : ltAll l'.length r.refs) (hlen : l'.length = m0 + news.length) (hb : blksOk s' (tauN m0 news) l'.length 0 l') (hn : newsOk news) (hR : R r l') : @xq .ret s ⟨RetK C rs R⟩ := by
  obtain ⟨n1, n2⟩ := newsOk_spec hn
  subst hm
  have hget : ∀ j (h1 : C.m0 ≤ j) (h2 : j < l'.length), tauN C.m0 news j = news[j - C.m0]'(by omega) := by
    intro j h1 h2
    unfold tauN
    rw [if_neg (by omega)]
    have : j - C.m0 < news.length := by omega
    simp [this]
  have hge : ∀ j, C.m0 ≤ j → j < l'.length → 16 ≤ tauN C.m0 news j := fun j h1 h2 => by
    rw [hget j h1 h2]
    exact n1 _ (List.getElem_mem _)
  have hlt : ∀ j, j < C.m0 → tauN C.m0 news j = j := fun j h1 => by simp [tauN, h1]
  refine ⟨s', c, r0, r, l', tauN C.m0 news, hsub, hres, hc, hr, ltAll_mem hrefs, by omega, fun j hj => ?_, hlt, hge, fun i j hi hj e => ?_, hR⟩
  · have := blksOk_spec hb j hj
    simpa using this
  · rcases Nat.lt_or_ge i C.m0 with h1 | h1 <;> rcases Nat.lt_or_ge j C.m0 with h2 | h2
    · rw [hlt i h1, hlt j h2] at e; exact e
    · rw [hlt i h1] at e; have := hge j h2 hj; omega
    · rw [hlt j h2] at e; have := hge i h1 hi; omega
    · rw [hget i h1 hi, hget j h2 hj] at e
      have := (List.getElem_inj n2).1 e
      omega
end
attribute [go_sem] ltAll_nil ltAll_cons hO_some blksOk_nil blksOk_cons newsOk_nil newsOk_cons
end
end Go.Ab
