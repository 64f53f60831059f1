/- CALLS BY CONTRACTS, IN A WALK. -/
import Derived.Test.YtpikidekdeglcaaAb29
namespace Go.Ab
open Go
noncomputable section

mutual
theorem AV.ren_nil {τ : Nat → Nat} : ∀ (x : AV), x.refs = [] → x.ren τ = x
  | .s _, _ => rfl
  | .sl _ _, _ => rfl
  | .ptr _ _ _, h => by simp [AV.refs] at h
  | .msl _ _ _ _ _, h => by simp [AV.refs] at h
  | .ipt _ _, _ => rfl
  | .fn f caps, h => by simp only [AV.refs] at h; simp only [AV.ren]; rw [AV.renL_nil caps h]
  | .junk, _ => rfl
theorem AV.renL_nil {τ : Nat → Nat} : ∀ (l : List AV), AV.refsL l = [] → AV.renL τ l = l
  | [], _ => rfl
  | x :: l, h => by
    simp only [AV.refsL, List.append_eq_nil_iff] at h
    simp only [AV.renL]
    rw [AV.ren_nil x h.1, AV.renL_nil l h.2]
end
mutual
theorem AT.ren_nil {τ : Nat → Nat} : ∀ (x : AT), x.refs = [] → x.ren τ = x
  | .c x, h => by simp only [AT.refs] at h; simp only [AT.ren]; rw [AV.ren_nil x h]
  | .agg cs, h => by simp only [AT.refs] at h; simp only [AT.ren]; rw [AV.renL_nil cs h]
  | .tup l, h => by simp only [AT.refs] at h; simp only [AT.ren]; rw [AT.renL_nil l h]
theorem AT.renL_nil {τ : Nat → Nat} : ∀ (l : List AT), AT.refsL l = [] → AT.renL τ l = l
  | [], _ => rfl
  | x :: l, h => by
    simp only [AT.refsL, List.append_eq_nil_iff] at h
    simp only [AT.renL]
    rw [AT.ren_nil x h.1, AT.renL_nil l h.2]
end

def AT.oldCaps : AT → Prop
  | .c x => x.oldCaps
  | .agg cs => ∀ x ∈ cs, x.oldCaps
  | .tup _ => False
/-- arguments without memory that can be written -/
def argsOk : List AT → List AT → Prop
  | [], [] => True
  | x :: l, y :: m => x.wk = y ∧ x.oldCaps ∧ y.refs = [] ∧ argsOk l m
  | _, _ => False
theorem argsOk_nil : argsOk [] [] = True := rfl
theorem argsOk_cons {x y : AT} {l m : List AT} : argsOk (x :: l) (y :: m) = (x.wk = y ∧ x.oldCaps ∧ y.refs = [] ∧ argsOk l m) := rfl
theorem oldCaps_c {x : AV} : AT.oldCaps (.c x) = x.oldCaps := rfl
theorem oldCaps_s {v : Value} : AV.oldCaps (.s v) = True := rfl
theorem oldCaps_sl {fr : Bool} {xs : List (List PV)} : AV.oldCaps (.sl fr xs) = True := rfl
theorem oldCaps_agg {cs : List AV} : AT.oldCaps (.agg cs) = ∀ x ∈ cs, x.oldCaps := rfl

theorem argsOk_spec {h : Heap} {τ : Nat → Nat} : ∀ {as as2 : List AT}, argsOk as as2 → as.length = as2.length ∧ (∀ (i : Nat) (h1 : i < as.length) (h2 : i < as2.length), AtOk h τ [] as[i] as2[i]) ∧ ∀ x ∈ as2, x.refs = []
  | [], [], _ => ⟨rfl, fun i h1 => by simp at h1, fun x hx => by simp at hx⟩
  | [], _ :: _, h => h.elim
  | _ :: _, [], h => h.elim
  | x :: l, y :: m, h => by
    obtain ⟨h1, h2, h3, h4⟩ := h
    obtain ⟨g1, g2, g3⟩ := argsOk_spec (h := ‹Heap›) (τ := τ) h4
    refine ⟨by simp [g1], fun i k1 k2 => ?_, fun z hz => ?_⟩
    · cases i with
      | zero =>
        simp only [List.getElem_cons_zero]
        subst h1
        cases x with
        | c x => exact .c (.plain (by
            have := AV.ren_nil (τ := τ) x.wk (by simpa [AT.refs, AT.wk] using h3)
            exact this.symm) h2)
        | agg cs => exact .agg (by simp) (fun i i1 i2 => by
            simp only [List.getElem_map]
            refine .plain ?_ (h2 _ (by simp))
            have hr : (cs[i].wk).refs = [] := by
              have h5 : AV.refsL (cs.map AV.wk) = [] := by simpa [AT.refs, AT.wk] using h3
              have : ∀ z ∈ cs.map AV.wk, z.refs = [] := by
                intro z hz
                apply List.eq_nil_iff_forall_not_mem.2
                intro id hid
                have := mem_refsL hz hid
                rw [h5] at this; cases this
              exact this _ (List.mem_map.2 ⟨_, List.getElem_mem i1, rfl⟩)
            exact (AV.ren_nil _ hr).symm)
        | tup l => exact h2.elim
      | succ i => simpa using g2 i (by simpa using k1) (by simpa using k2)
    · rcases List.mem_cons.1 hz with rfl | hz
      · exact h3
      · exact g3 z hz

section
variable {C : Cx} {s : ASt} {K : KK} {d : Option Nat}

/-- a call that is handed no block, and hands none back -/
theorem xok_p {g : FuncId} {as as2 : List AT} {R : AT → List (Option Blk) → Prop} (h : AC C.P g as2 [] R) (ha : argsOk as as2) (hR : ∀ r l', R r l' → l' = [] ∧ r.refs = [] ∧ @xk (s.put d r) K) (hd : okDst C.N d := by (first | trivial | (show (_ : Nat) < _; decide))) : @xok C g as d s K := by
  obtain ⟨g1, g2, g3⟩ := argsOk_spec (h := s.h) (τ := tau [] 16) ha
  refine CallOk.of h [] 16 [] rfl List.nodup_nil (fun j hj => by simp at hj) g1 g2 (fun x hx id hid => by rw [g3 x hx] at hid; cases hid) (fun id hid => by cases hid) hd (fun r l' hr => ?_)
  obtain ⟨rfl, h2, h3⟩ := hR r l' hr
  refine ⟨fun j _ hj => by simp at hj, .inl rfl, ?_⟩
  rw [AT.ren_nil r h2]
  exact h3
theorem xok_1 {g : FuncId} {as as2 : List AT} {r : AT} (h : ACp C.P g as2 r) (ha : argsOk as as2) (hr : r.refs = []) (hk : @xk (s.put d r) K) (hd : okDst C.N d := by (first | trivial | (show (_ : Nat) < _; decide))) : @xok C g as d s K :=
  xok_p h ha (fun r' l' hR => by obtain ⟨rfl, rfl⟩ := hR; exact ⟨rfl, hr, hk⟩) hd
theorem xokM_p {S M : List Nat} {g : FuncId} {as as2 : List AT} {R : AT → List (Option Blk) → Prop} (h : AC C.P g as2 [] R) (ha : argsOk as as2) (hR : ∀ r l', R r l' → l' = [] ∧ r.refs = [] ∧ @xk (s.put d r) K) : @xokM C S M g as d s K := by
  obtain ⟨g1, g2, g3⟩ := argsOk_spec (h := s.h) (τ := tau [] 16) ha
  refine .inr ⟨as2, [], R, [], 16, [], h, rfl, List.nodup_nil, fun j hj => by simp at hj, g1, g2, (fun x hx id hid => by rw [g3 x hx] at hid; cases hid), (fun id hid => by cases hid), (fun id _ => by simp), (fun id _ => by simp), fun r l' hr => ?_⟩
  obtain ⟨rfl, h2, h3⟩ := hR r l' hr
  refine ⟨fun j _ hj => by simp at hj, .inl rfl, ?_⟩
  rw [AT.ren_nil r h2]
  exact h3
theorem xokM_1 {S M : List Nat} {g : FuncId} {as as2 : List AT} {r : AT} (h : ACp C.P g as2 r) (ha : argsOk as as2) (hr : r.refs = []) (hk : @xk (s.put d r) K) : @xokM C S M g as d s K :=
  xokM_p h ha fun r' l' hR => by obtain ⟨rfl, rfl⟩ := hR; exact ⟨rfl, hr, hk⟩
theorem xl_loop {α : Type} {c : Code} {q : Exit → ASt → Prop} (st : α → ASt) (inv : α → Prop) (μ : α → Nat) (x0 : α) (h0 : inv x0) (hs : Sub C s (st x0))
    (round : ∀ x, inv x → WP C c (LoopK C st inv μ x q) (st x)) : @xl C s ⟨.loop c⟩ ⟨q⟩ := WP.loop st inv μ x0 h0 hs round
end
end
end Go.Ab
