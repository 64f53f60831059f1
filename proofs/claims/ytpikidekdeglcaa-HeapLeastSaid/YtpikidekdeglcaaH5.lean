/- YtpikidekdeglcaaH5: part of the proof; written by a program of mine. -/
import Derived.Test.YtpikidekdeglcaaRws
import Derived.Test.YtpikidekdeglcaaH4
set_option linter.all false
namespace Go.Ab.Try
open Go Go.Proofs Go.Ab
noncomputable section
attribute [local irreducible] xs xo xk xe xcall xok xw xg xg0 xq xc xl xplan xpok x1 xf xf0 xl1 xl2 xh xcallM xokM xwM dstO opAt xnoM xrefs xs2 xpok' xplan0 xW xEff WP CallOk AC
theorem heap_rise (l : List NodeV) (i : Nat) (hl : l.length < 2 ^ 60) (hi : i < l.length) (hok : ∀ n ∈ l, okN n = true) :
    AC Try.prog 34 [.c (mslA l), .c (iA i)] [some (35, rowsA l)] (fun r l' => r = .c (iA (riseL l i).2) ∧ l' = [some (35, rowsA (riseL l i).1)]) := by
  refine AC.walkq [(1, [⟨0, false, false, []⟩, ⟨1, false, false, []⟩, ⟨2, false, false, []⟩, ⟨3, false, false, []⟩, ⟨4, false, false, []⟩, ⟨5, false, false, []⟩, ⟨6, false, false, []⟩, ⟨7, false, false, []⟩, ⟨8, false, false, []⟩, ⟨9, false, false, []⟩, ⟨10, false, false, []⟩, ⟨11, false, false, []⟩, ⟨12, false, false, []⟩, ⟨13, true, false, []⟩, ⟨14, false, false, []⟩, ⟨15, false, false, []⟩]), (2, [⟨0, false, false, []⟩, ⟨1, false, false, []⟩, ⟨6, false, false, []⟩, ⟨7, false, false, []⟩, ⟨8, false, false, []⟩, ⟨9, false, false, []⟩, ⟨10, false, false, []⟩, ⟨11, false, false, []⟩, ⟨12, false, false, []⟩, ⟨13, false, false, []⟩, ⟨14, false, false, []⟩, ⟨15, false, false, []⟩, ⟨16, false, false, []⟩, ⟨2, false, true, []⟩, ⟨3, false, true, [2]⟩, ⟨4, false, true, [2]⟩, ⟨5, false, true, [2]⟩, ⟨17, true, false, [2, 3, 4, 5]⟩, ⟨18, false, false, []⟩, ⟨19, true, false, []⟩])] mixed (rs := [.tmp 4]) Try.func34 rfl (by rfl) Try.ntmps34 rfl (by simp) (by simp) ?_; refine xs_intro ?_
  simp only [go_sem, Nat.reduceBEq, Nat.reduceLT, Nat.reduceAdd, Nat.reduceMul, Nat.reduceLeDiff, Nat.reduceEqDiff, reduceIte, Int.reduceSub, Int.reduceAdd, Int.reduceNeg, Int.reduceLT, Int.reduceLE, Int.reduceToNat, Int.reduceMul, Int.reduceNegSucc, Nat.reduceEqDiff, reduceCtorEq, mslA]
  refine xl_loop (α := List NodeV × Nat) (fun x => ls [(0, .c (.msl 6 0 (l.length * 6) 0 l.length)), (1, .c (iA x.2)), (4, .c (iA 0))] [(0, some (35, rowsA x.1))])
    (fun x => x.1.length = l.length ∧ (∀ n ∈ x.1, okN n = true) ∧ x.2 < l.length ∧ riseL x.1 x.2 = riseL l i) (fun x => x.2) (l, i)
    ⟨rfl, hok, hi, rfl⟩ (Sub.ls (by simp only [keepOk_eq, keepT_nil, keepT_cons, keepH_nil, keepH_cons, subIds_nil, subIds_cons, brefs_some, brefs_none, List.map_cons, List.map_nil, upd_lit, upd_lit_ne, Nat.reduceBEq, AT.refs, AV.refs, AV.refsL, AT.refsL, List.contains_cons, List.contains_nil, Bool.or_true, Bool.true_or, Bool.false_or, Bool.or_false, List.append_nil, List.nil_append, beq_self_eq_true, true_and, and_true, List.range_zero, List.all_nil, mkT_cons, mkH_cons, ls_eq, Int.cast_ofNat_Int, Int.reduceSub, and_self, List.all_cons, List.range, List.range.loop, U.cells, RankV.cells, NodeV.cells, uA, iA, Int.reduceNeg, rowsA_refs, hL_zero, getElem?_lit_zero, getElem?_lit_succ, Bool.and_self, Bool.true_and, nodesA, nodesA, getElem?_lit_zero, getElem?_lit_succ, hL_zero])) ?_
  rintro ⟨m, k⟩ ⟨hm, hmok, hk, hr⟩
  simp only at hm hmok hk hr
  have hkm : k < m.length := by omega
  have hn : m[k]? = some m[k] := List.getElem?_eq_getElem hkm
  have hnok := hmok m[k] (List.getElem_mem hkm)
  have hpm : par k < m.length := by unfold par; omega
  have hp : m[par k]? = some m[par k] := List.getElem?_eq_getElem hpm
  have hpok := hmok m[par k] (List.getElem_mem hpm)
  have hstop : riseL l i = (m, k) ∨ 0 < k ∧ belowN m[k] m[par k] = true := by
    by_cases h : 0 < k ∧ belowN m[k] m[par k] = true
    · exact .inr h
    · refine .inl ?_
      rw [← hr, riseL_stop (by rw [hn, hp]; exact h)]
  generalize m[k] = n at *
  generalize m[par k] = p at *
  have e1 := rowsA_at hn
  have e2 := rowsA_at hp
  have e3 := rowsA_splice (l := m) (i := k) p hkm
  have e4 := rowsA_splice (l := m.set k p) (i := par k) n (by simpa using hpm)
  have e5 : (m.set k p).length = m.length := List.length_set ..
  have e6 : ((m.set k p).set (par k) n).length = m.length := by simp
  have ek : ((k : Nat) : Int).toNat = k := rfl
  simp only [NodeV.cells, iA, uA] at e1 e2 e3 e4
  refine WP.ofq mixed (xs_intro (pls := [(1, [⟨0, false, false, []⟩, ⟨1, false, false, []⟩, ⟨2, false, false, []⟩, ⟨3, false, false, []⟩, ⟨4, false, false, []⟩, ⟨5, false, false, []⟩, ⟨6, false, false, []⟩, ⟨7, false, false, []⟩, ⟨8, false, false, []⟩, ⟨9, false, false, []⟩, ⟨10, false, false, []⟩, ⟨11, false, false, []⟩, ⟨12, false, false, []⟩, ⟨13, true, false, []⟩, ⟨14, false, false, []⟩, ⟨15, false, false, []⟩]), (2, [⟨0, false, false, []⟩, ⟨1, false, false, []⟩, ⟨6, false, false, []⟩, ⟨7, false, false, []⟩, ⟨8, false, false, []⟩, ⟨9, false, false, []⟩, ⟨10, false, false, []⟩, ⟨11, false, false, []⟩, ⟨12, false, false, []⟩, ⟨13, false, false, []⟩, ⟨14, false, false, []⟩, ⟨15, false, false, []⟩, ⟨16, false, false, []⟩, ⟨2, false, true, []⟩, ⟨3, false, true, [2]⟩, ⟨4, false, true, [2]⟩, ⟨5, false, true, [2]⟩, ⟨17, true, false, [2, 3, 4, 5]⟩, ⟨18, false, false, []⟩, ⟨19, true, false, []⟩])]) ?_)
  simp only [go_sem, Nat.reduceBEq, Nat.reduceLT, Nat.reduceAdd, Nat.reduceMul, Nat.reduceLeDiff, Nat.reduceEqDiff, reduceIte, Int.reduceSub, Int.reduceAdd, Int.reduceNeg, Int.reduceLT, Int.reduceLE, Int.reduceToNat, Int.reduceMul, Int.reduceNegSucc, Nat.reduceEqDiff, reduceCtorEq]
  refine And.intro (xpok_ok (by kernel_rfl)) ?_
  refine xf_split (fun g => ?_) (fun g => ?_)
  · have hk0 : 0 < k := by simpa using g
    have ex : IntKind.i64.wrap ((IntKind.i64.wrap ((k : Int) - 1)).tdiv 2) = ((par k : Nat) : Int) := by
      have e1 : IntKind.i64.wrap ((k : Int) - 1) = ((k - 1 : Nat) : Int) := by rw [IntWalk.i64_in _ (by omega)]; omega
      have e3 : ((k - 1 : Nat) : Int).tdiv 2 = (((k - 1) / 2 : Nat) : Int) := rfl
      rw [e1, e3]
      exact IntWalk.i64_in _ (by omega)
    repeat' (first | (refine xok_1 (C := ⟨Try.prog, _, _⟩) (heap_order n p) (by simp [U.cells, RankV.cells, NodeV.cells, uA, iA, go_sem, Nat.reduceBEq, Nat.reduceLT, Nat.reduceAdd, Nat.reduceMul, Nat.reduceLeDiff, Nat.reduceEqDiff, reduceIte, Int.reduceSub, Int.reduceAdd, Int.reduceNeg, Int.reduceLT, Int.reduceLE, Int.reduceToNat, Int.reduceMul, Int.reduceNegSucc, Nat.reduceEqDiff, reduceCtorEq, ex, e1, e2, e3, e4, e5, hm]) rfl ?_) | (refine xok_1 (C := ⟨Try.prog, _, _⟩) (heap_order n p) (by simp [U.cells, RankV.cells, NodeV.cells, uA, iA, go_sem, Nat.reduceBEq, Nat.reduceLT, Nat.reduceAdd, Nat.reduceMul, Nat.reduceLeDiff, Nat.reduceEqDiff, reduceIte, Int.reduceSub, Int.reduceAdd, Int.reduceNeg, Int.reduceLT, Int.reduceLE, Int.reduceToNat, Int.reduceMul, Int.reduceNegSucc, Nat.reduceEqDiff, reduceCtorEq, ex, e1, e2, e3, e4, e5, hm]) (by simp [U.cells, RankV.cells, NodeV.cells, uA, iA, go_sem, Nat.reduceBEq, Nat.reduceLT, Nat.reduceAdd, Nat.reduceMul, Nat.reduceLeDiff, Nat.reduceEqDiff, reduceIte, Int.reduceSub, Int.reduceAdd, Int.reduceNeg, Int.reduceLT, Int.reduceLE, Int.reduceToNat, Int.reduceMul, Int.reduceNegSucc, Nat.reduceEqDiff, reduceCtorEq, ex, e1, e2, e3, e4, e5, hm]) ?_) | (refine xokM_1 (C := ⟨Try.prog, _, _⟩) (heap_order n p) (by simp [U.cells, RankV.cells, NodeV.cells, uA, iA, go_sem, Nat.reduceBEq, Nat.reduceLT, Nat.reduceAdd, Nat.reduceMul, Nat.reduceLeDiff, Nat.reduceEqDiff, reduceIte, Int.reduceSub, Int.reduceAdd, Int.reduceNeg, Int.reduceLT, Int.reduceLE, Int.reduceToNat, Int.reduceMul, Int.reduceNegSucc, Nat.reduceEqDiff, reduceCtorEq, ex, e1, e2, e3, e4, e5, hm]) (by simp [U.cells, RankV.cells, NodeV.cells, uA, iA, go_sem, Nat.reduceBEq, Nat.reduceLT, Nat.reduceAdd, Nat.reduceMul, Nat.reduceLeDiff, Nat.reduceEqDiff, reduceIte, Int.reduceSub, Int.reduceAdd, Int.reduceNeg, Int.reduceLT, Int.reduceLE, Int.reduceToNat, Int.reduceMul, Int.reduceNegSucc, Nat.reduceEqDiff, reduceCtorEq, ex, e1, e2, e3, e4, e5, hm]) ?_) | (refine xg_split (fun g => ?_) (fun g => ?_)) | (refine xf_split (fun g => ?_) (fun g => ?_)) | (refine xc_split (fun g => ?_) (fun g => ?_)) | (refine And.intro (xpok_ok (by kernel_rfl)) ?_) | (simp only [go_sem, Nat.reduceBEq, Nat.reduceLT, Nat.reduceAdd, Nat.reduceMul, Nat.reduceLeDiff, Nat.reduceEqDiff, reduceIte, Int.reduceSub, Int.reduceAdd, Int.reduceNeg, Int.reduceLT, Int.reduceLE, Int.reduceToNat, Int.reduceMul, Int.reduceNegSucc, Nat.reduceEqDiff, reduceCtorEq, ex, e1, e2, e3, e4, e5, hm]) | (refine And.intro (by (first | omega | (simp; done) | (simp_all; done) | (simp at *; omega))) ?_))
    · refine xq_loop_next ((m.set k p).set (par k) n, par k) ⟨by simp only [e6]; exact hm, fun x hx => ?_, by omega, ?_⟩ (by show par k < k; unfold par; omega) (Sub.ls ?_)
      · rcases List.mem_or_eq_of_mem_set hx with h | rfl
        · rcases List.mem_or_eq_of_mem_set h with h | rfl
          · exact hmok x h
          · exact hpok
        · exact hnok
      · rw [← hr, riseL_step hk0 hn hp ((order_below hnok hpok).1 (by simpa using g))]
      · simp only [keepOk_eq, keepT_nil, keepT_cons, keepH_nil, keepH_cons, subIds_nil, subIds_cons, brefs_some, brefs_none, List.map_cons, List.map_nil, upd_lit, upd_lit_ne, Nat.reduceBEq, AT.refs, AV.refs, AV.refsL, AT.refsL, List.contains_cons, List.contains_nil, Bool.or_true, Bool.true_or, Bool.false_or, Bool.or_false, List.append_nil, List.nil_append, beq_self_eq_true, true_and, and_true, List.range_zero, List.all_nil, mkT_cons, mkH_cons, ls_eq, Int.cast_ofNat_Int, Int.reduceSub, and_self, List.all_cons, List.range, List.range.loop, U.cells, RankV.cells, NodeV.cells, uA, iA, Int.reduceNeg, rowsA_refs, hL_zero, getElem?_lit_zero, getElem?_lit_succ, Bool.and_self, Bool.true_and, nodesA]
    · refine xq_ret ([]) (.c (iA k)) ([some (35, rowsA m)]) Sub.refl rfl (by simp) (by simp only [go_sem, Nat.reduceBEq, Nat.reduceLT, Nat.reduceAdd, Nat.reduceMul, Nat.reduceLeDiff, Nat.reduceEqDiff, reduceIte, Int.reduceSub, Int.reduceAdd, Int.reduceNeg, Int.reduceLT, Int.reduceLE, Int.reduceToNat, Int.reduceMul, Int.reduceNegSucc, Nat.reduceEqDiff, reduceCtorEq]; rfl) (by simp) (by simp [AT.nrm, AV.nrm, AT.ren, AV.ren, AV.renL, AT.renL, AT.nrmL, tauN, go_sem, Nat.reduceBEq, Nat.reduceLT, Nat.reduceAdd, Nat.reduceMul, Nat.reduceLeDiff, Nat.reduceEqDiff, reduceIte, Int.reduceSub, Int.reduceAdd, Int.reduceNeg, Int.reduceLT, Int.reduceLE, Int.reduceToNat, Int.reduceMul, Int.reduceNegSucc, Nat.reduceEqDiff, reduceCtorEq]) (by simp [AT.refs, AV.refs, go_sem, Nat.reduceBEq, Nat.reduceLT, Nat.reduceAdd, Nat.reduceMul, Nat.reduceLeDiff, Nat.reduceEqDiff, reduceIte, Int.reduceSub, Int.reduceAdd, Int.reduceNeg, Int.reduceLT, Int.reduceLE, Int.reduceToNat, Int.reduceMul, Int.reduceNegSucc, Nat.reduceEqDiff, reduceCtorEq]) rfl (by simp [tauN, bnrm, bren, AV.renL, AV.ren, AV.nrm, brefs, AV.refsL, AV.refs, go_sem, Nat.reduceBEq, Nat.reduceLT, Nat.reduceAdd, Nat.reduceMul, Nat.reduceLeDiff, Nat.reduceEqDiff, reduceIte, Int.reduceSub, Int.reduceAdd, Int.reduceNeg, Int.reduceLT, Int.reduceLE, Int.reduceToNat, Int.reduceMul, Int.reduceNegSucc, Nat.reduceEqDiff, reduceCtorEq]) (by simp [newsOk]) ?_
      rcases hstop with h | h
      · exact ⟨by rw [h], by rw [h]⟩
      · have := (order_below hnok hpok).2 h.2
        simp at g; omega
  · simp only [go_sem, Nat.reduceBEq, Nat.reduceLT, Nat.reduceAdd, Nat.reduceMul, Nat.reduceLeDiff, Nat.reduceEqDiff, reduceIte, Int.reduceSub, Int.reduceAdd, Int.reduceNeg, Int.reduceLT, Int.reduceLE, Int.reduceToNat, Int.reduceMul, Int.reduceNegSucc, Nat.reduceEqDiff, reduceCtorEq]
    refine xq_ret ([]) (.c (iA k)) ([some (35, rowsA m)]) Sub.refl rfl (by simp) (by simp only [go_sem, Nat.reduceBEq, Nat.reduceLT, Nat.reduceAdd, Nat.reduceMul, Nat.reduceLeDiff, Nat.reduceEqDiff, reduceIte, Int.reduceSub, Int.reduceAdd, Int.reduceNeg, Int.reduceLT, Int.reduceLE, Int.reduceToNat, Int.reduceMul, Int.reduceNegSucc, Nat.reduceEqDiff, reduceCtorEq]; rfl) (by simp) (by simp [AT.nrm, AV.nrm, AT.ren, AV.ren, AV.renL, AT.renL, AT.nrmL, tauN, go_sem, Nat.reduceBEq, Nat.reduceLT, Nat.reduceAdd, Nat.reduceMul, Nat.reduceLeDiff, Nat.reduceEqDiff, reduceIte, Int.reduceSub, Int.reduceAdd, Int.reduceNeg, Int.reduceLT, Int.reduceLE, Int.reduceToNat, Int.reduceMul, Int.reduceNegSucc, Nat.reduceEqDiff, reduceCtorEq]) (by simp [AT.refs, AV.refs, go_sem, Nat.reduceBEq, Nat.reduceLT, Nat.reduceAdd, Nat.reduceMul, Nat.reduceLeDiff, Nat.reduceEqDiff, reduceIte, Int.reduceSub, Int.reduceAdd, Int.reduceNeg, Int.reduceLT, Int.reduceLE, Int.reduceToNat, Int.reduceMul, Int.reduceNegSucc, Nat.reduceEqDiff, reduceCtorEq]) rfl (by simp [tauN, bnrm, bren, AV.renL, AV.ren, AV.nrm, brefs, AV.refsL, AV.refs, go_sem, Nat.reduceBEq, Nat.reduceLT, Nat.reduceAdd, Nat.reduceMul, Nat.reduceLeDiff, Nat.reduceEqDiff, reduceIte, Int.reduceSub, Int.reduceAdd, Int.reduceNeg, Int.reduceLT, Int.reduceLE, Int.reduceToNat, Int.reduceMul, Int.reduceNegSucc, Nat.reduceEqDiff, reduceCtorEq]) (by simp [newsOk]) ?_
    rcases hstop with h | h
    · exact ⟨by rw [h], by rw [h]⟩
    · simp at g; omega
end
end Go.Ab.Try
