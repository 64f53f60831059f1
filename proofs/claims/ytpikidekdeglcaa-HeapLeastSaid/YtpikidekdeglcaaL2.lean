/- HeapLeast: for every list of acts that the statement's domain admits, the program's HeapLeast returns, within the statement's bounds, true and nothing else. Its conditions are those of the given statement: there are no others. -/
import Derived.Test.YtpikidekdeglcaaL1
set_option linter.all false
set_option maxRecDepth 100000
namespace Go.Proofs.Ytpikidekdeglcaa
open Go.ChangeShapes Go.WideShapes Go.ChangeAt Go.RowKit
theorem Try.own : ownKnob Try.prog.godebug = none := by kernel_rfl
theorem Try.laidOut : laidOutB Try.prog = true := by kernel_rfl
theorem heapLeast_lifted (os : Os) (started : os.Started) (H : Type) (enc : TypeId × Value → H) :
    ReturnsInHanded {} Try.checked os 3 .any (Rows.heapLeastSpec.pre6 enc Try.prog Try.f3 Rows.heapLeastRow.domain false) (Rows.heapLeastSpec.post enc Try.prog Try.f3 false true false false) := by
  refine returnsInHanded_of_change (C := Try.checked) Try.own started (by kernel_rfl) Try.func3
    (ChangeSpec.witness6 (enc := enc) (C := Try.checked) false ⟨#[], #[.agg #[.slice none 0 0, .slice none 0 0]], []⟩ 8 (by kernel_rfl) (by kernel_rfl) (by kernel_rfl) (by kernel_rfl)) ?_
  intro W base args ds gs before hval0 hW hcnd _
  have hval : ∀ (j : Nat) t v, Try.f3.params[j]? = some t → args[j]? = some v → Value.okWide Try.prog W .any base t v := hval0
  have hW' := hW
  obtain ⟨p, q, hA0, hV, rfl, hfz, hnd⟩ := hW
  have hA : DataW.TrodAll enc Try.prog W 0 (fun _ => true) true Try.f3.params.toList args.toList ds p := hA0
  rw [Try.params3] at hA hval
  obtain ⟨v0, d0, rfl, rfl, h0⟩ := trodAll_one hA
  obtain ⟨rfl, rfl⟩ := trodVars_none hV
  have hk := hval 0 25 v0 rfl rfl
  obtain ⟨arr, rfl⟩ : ∃ arr, v0 = .agg arr := by
    have hu : Try.prog.underlying 25 = some (.struct (Try.prog.fieldsOf 25)) := by kernel_rfl
    rw [Value.okWide, hu] at hk
    obtain ⟨cs, rfl, _⟩ := hk
    exact ⟨cs, rfl⟩
  have h0' := h0
  obtain ⟨fuel, hf⟩ := h0
  obtain ⟨l, hl, hwt⟩ := Go.Ab.conv (P := Try.prog) 8 25 fuel _ _ (by kernel_rfl) hf
  obtain ⟨HH, LL, rfl, _, _, hLL⟩ := Go.Ab.Try.wt_script hwt
  have hrel := Go.Ab.rel_agg hl
  refine (Go.Ab.lawCalls (Go.Ab.Try.law13_HeapLeast HH LL hLL) hrel).mono fun e W' ⟨he, hb⟩ => ?_
  subst he
  simp only [List.append_nil] at hW'
  have hlt : ∀ x ∈ p, x.block < W.heap.size := fun x hx => hW'.lt x hx
  exact ⟨_, rfl, [d0], [], p, [], p, [], hW', trodAll_mk1 (shut_bool Try.underlying4 true),
    trodAll_mk1 (Below.trod Try.laidOut (by kernel_rfl) (of_decide_eq_true (by kernel_rfl)) h0' hb hlt), rfl, hb.frame _, fun h => by cases h⟩

theorem heapLeast_holds : Rows.HeapLeastSaid :=
  OpenClaim.holds_of_wide 3 Try.f3 rfl rfl rfl rfl rfl rfl rfl ⟨rfl, rfl, rfl, rfl, rfl⟩ rfl rfl rfl rfl rfl (by kernel_rfl) Try.func3 (by kernel_rfl)
    (of_decide_eq_true (by kernel_rfl)) (by unfold Func.isWrapper; first | (rw [if_pos (by decide +kernel)]; kernel_rfl) | (rw [if_neg (by decide +kernel)]; exact ⟨rfl, rfl⟩))
    (fun os started H enc _ => heapLeast_lifted os started H enc)
#print axioms heapLeast_holds
end Go.Proofs.Ytpikidekdeglcaa
