/- YtpikidekdeglcaaL1: part of the proof; written by a program of mine. -/
import Derived.Test.YtpikidekdeglcaaH10
import Derived.Test.YtpikidekdeglcaaBr
import Derived.Test.YtpikidekdeglcaaRows
set_option linter.all false
set_option maxRecDepth 100000
namespace Go.Ab.Try
open Go Go.Proofs Go.Ab
noncomputable section
theorem wt_int {f : Nat} {l : List PV} (h : WT Try.prog (f + 1) 3 l) : ∃ n, l = [iP n] ∧ inI n := by
  have hu : Try.prog.underlying 3 = some (.int .i64) := by kernel_rfl
  simp only [WT, hu] at h
  obtain ⟨n, rfl, hw⟩ := h
  refine ⟨n, rfl, ?_⟩
  simp [Lit.wf, IntKind.min, IntKind.max, IntKind.bits, IntKind.signed] at hw
  unfold inI; omega
theorem wt_u64 {f : Nat} {l : List PV} (h : WT Try.prog (f + 1) 27 l) : ∃ n, l = [uP n] := by
  have hu : Try.prog.underlying 27 = some (.int .u64) := by kernel_rfl
  simp only [WT, hu] at h
  obtain ⟨n, rfl, hw⟩ := h
  exact ⟨n, rfl⟩
theorem wt_U {f : Nat} {l : List PV} (h : WT Try.prog (f + 2) 29 l) : ∃ u : U, l = u.pv := by
  have hu : Try.prog.underlying 29 = some (.array 4 27) := by kernel_rfl
  have hi : (itemsOf Try.prog 29).map (·.2) = [27, 27, 27, 27] := by kernel_rfl
  rw [WT, hu] at h
  simp only [hi, allWT] at h
  obtain ⟨p0, q0, rfl, h0, p1, q1, rfl, h1, p2, q2, rfl, h2, p3, q3, rfl, h3, rfl⟩ := h
  obtain ⟨a, rfl⟩ := wt_u64 h0
  obtain ⟨b, rfl⟩ := wt_u64 h1
  obtain ⟨c, rfl⟩ := wt_u64 h2
  obtain ⟨d, rfl⟩ := wt_u64 h3
  exact ⟨⟨a, b, c, d⟩, rfl⟩
theorem wt_rank {f : Nat} {l : List PV} (h : WT Try.prog (f + 3) 31 l) : ∃ r : RankV, l = r.pv ∧ inI r.dist := by
  have hu : Try.prog.underlying 31 = some (.struct (Try.prog.fieldsOf 31)) := by kernel_rfl
  have hi : (itemsOf Try.prog 31).map (·.2) = [3, 29] := by kernel_rfl
  rw [WT, hu] at h
  simp only [hi, allWT] at h
  obtain ⟨p0, q0, rfl, h0, p1, q1, rfl, h1, rfl⟩ := h
  obtain ⟨a, rfl, ha⟩ := wt_int h0
  obtain ⟨u, rfl⟩ := wt_U h1
  exact ⟨⟨a, u⟩, by simp [RankV.pv, U.pv], ha⟩
theorem wt_node {f : Nat} {l : List PV} (h : WT Try.prog (f + 4) 35 l) : ∃ n : NodeV, l = n.pv ∧ inI n.acct ∧ inI n.rank.dist := by
  have hu : Try.prog.underlying 35 = some (.struct (Try.prog.fieldsOf 35)) := by kernel_rfl
  have hi : (itemsOf Try.prog 35).map (·.2) = [3, 31] := by kernel_rfl
  rw [WT, hu] at h
  simp only [hi, allWT] at h
  obtain ⟨p0, q0, rfl, h0, p1, q1, rfl, h1, rfl⟩ := h
  obtain ⟨a, rfl, ha⟩ := wt_int h0
  obtain ⟨u, rfl, hu⟩ := wt_rank h1
  exact ⟨⟨a, u⟩, by simp [NodeV.pv, RankV.pv], ha, hu⟩
theorem wt_act {f : Nat} {l : List PV} (h : WT Try.prog (f + 5) 37 l) : ∃ a : ActV, l = a.pv ∧ ActOk a := by
  have hu : Try.prog.underlying 37 = some (.struct (Try.prog.fieldsOf 37)) := by kernel_rfl
  have hi : (itemsOf Try.prog 37).map (·.2) = [3, 35] := by kernel_rfl
  rw [WT, hu] at h
  simp only [hi, allWT] at h
  obtain ⟨p0, q0, rfl, h0, p1, q1, rfl, h1, rfl⟩ := h
  obtain ⟨a, rfl, ha⟩ := wt_int h0
  obtain ⟨u, rfl, h2, h3⟩ := wt_node h1
  exact ⟨⟨a, u⟩, by simp [ActV.pv], ⟨h2, h3⟩⟩
theorem wt_slice {f : Nat} {t e : TypeId} {l : List PV} (hu : Try.prog.underlying t = some (.slice e)) (h : WT Try.prog (f + 1) t l) : ∃ xs, l = [.sl xs] ∧ xs.length ≤ maxLen ∧ ∀ x ∈ xs, WT Try.prog f e x := by
  rw [WT, hu] at h; exact h
theorem lift_list {α : Type} {pv : α → List PV} {Q : α → Prop} : ∀ {xs : List (List PV)}, (∀ x ∈ xs, ∃ a, x = pv a ∧ Q a) → ∃ l : List α, xs = l.map pv ∧ ∀ a ∈ l, Q a
  | [], _ => ⟨[], rfl, fun a ha => by cases ha⟩
  | x :: xs, h => by
    obtain ⟨a, rfl, ha⟩ := h x (by simp)
    obtain ⟨l, rfl, hl⟩ := lift_list (fun x hx => h x (List.mem_cons_of_mem _ hx))
    exact ⟨a :: l, rfl, fun b hb => by
      rcases List.mem_cons.1 hb with rfl | hb
      · exact ha
      · exact hl b hb⟩
theorem wt_script {f : Nat} {l : List PV} (h : WT Try.prog (f + 7) 25 l) : ∃ (H : List NodeV) (L : List ActV), l = [.sl (H.map NodeV.pv), .sl (L.map ActV.pv)] ∧ (∀ n ∈ H, inI n.acct ∧ inI n.rank.dist) ∧ H.length ≤ maxLen ∧ ∀ a ∈ L, ActOk a := by
  have hu : Try.prog.underlying 25 = some (.struct (Try.prog.fieldsOf 25)) := by kernel_rfl
  have hi : (itemsOf Try.prog 25).map (·.2) = [22, 23] := by kernel_rfl
  rw [WT, hu] at h
  simp only [hi, allWT] at h
  obtain ⟨p0, q0, rfl, h0, p1, q1, rfl, h1, rfl⟩ := h
  obtain ⟨xs, rfl, hx1, hx⟩ := wt_slice (e := 35) (by kernel_rfl) h0
  obtain ⟨ys, rfl, hy1, hy⟩ := wt_slice (e := 37) (by kernel_rfl) h1
  obtain ⟨H, rfl, hH⟩ := lift_list (pv := NodeV.pv) (Q := fun n => inI n.acct ∧ inI n.rank.dist) (fun x hxx => wt_node (hx x hxx))
  obtain ⟨L, rfl, hL⟩ := lift_list (pv := ActV.pv) (Q := ActOk) (fun x hxx => wt_act (hy x hxx))
  exact ⟨H, L, rfl, hH, by simpa using hx1, hL⟩
end
end Go.Ab.Try
