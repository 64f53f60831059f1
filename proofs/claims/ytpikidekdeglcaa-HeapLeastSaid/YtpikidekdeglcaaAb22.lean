/- TAKING AN OPERATION FIRST. -/
import Derived.Test.YtpikidekdeglcaaAb21
namespace Go.Ab
open Go
noncomputable section
section
variable {C : Cx} {ops : Array Oper} {s s' : ASt}

theorem made_hp {oi : Oper} {f : Fx} (hk : madeOp oi.op = true) (hg : oi.guard = none) (h : FxAt C ops oi f s) : f.hp ≠ none := by
  unfold FxAt at h
  rw [hg] at h
  have h : FxOp C oi.dst oi.op s f := h
  unfold FxOp at h
  split at h
  · rename_i c x he
    generalize oi.op = op at hk he
    cases op <;> simp only [madeOp, Bool.false_eq_true] at hk <;> simp only [eff] at he
    case alloc => unfold effAlloc at he; split at he <;> cases he
    case box => unfold effBox at he; split at he <;> cases he
    case buildSlice => unfold effBuildSlice at he; (repeat' split at he) <;> cases he
  · rw [h.2.2]; simp
  · exact h.elim

theorem app_t {f : Fx} {k : Nat} (h : f.d ≠ some k) : (f.app s).t k = s.t k := by
  unfold Fx.app
  cases hd : f.d with
  | none => rfl
  | some d => exact upd_ne _ _ (fun e => h (by rw [hd, e]))

theorem app_put {f : Fx} {d : Option Nat} {x : AT} (h : ∀ k, f.d = some k → d ≠ some k) : (f.app s).put d x = f.app (s.put d x) := by
  cases d with
  | none => rfl
  | some j =>
    cases hd : f.d with
    | none => simp [Fx.app, ASt.put, hd]
    | some k =>
      have : k ≠ j := fun e => h k hd (by rw [e])
      simp only [Fx.app, ASt.put, hd]
      rw [upd_comm _ _ _ this]

theorem app_del {f : Fx} {d : Option Nat} (h : ∀ k, f.d = some k → d ≠ some k) : (f.app s).del d = f.app (s.del d) := by
  cases d with
  | none => rfl
  | some j =>
    cases hd : f.d with
    | none => simp [Fx.app, ASt.del, hd]
    | some k =>
      have : k ≠ j := fun e => h k hd (by rw [e])
      simp only [Fx.app, ASt.del, hd]
      rw [upd_comm _ _ _ this]

theorem app_heap {f : Fx} {id : Nat} (h : ∀ p, f.hp = some p → p.1 ≠ id) : (f.app s).h id = s.h id := by
  unfold Fx.app
  cases hd : f.hp with
  | none => rfl
  | some p => exact upd_ne _ _ (fun e => h p hd e.symm)

theorem put_t {d : Option Nat} {x : AT} {k : Nat} (h : d ≠ some k) : (s.put d x).t k = s.t k := by
  cases d with
  | none => rfl
  | some j => exact upd_ne _ _ (fun e => h (by rw [e]))
theorem del_t {d : Option Nat} {k : Nat} (h : d ≠ some k) : (s.del d).t k = s.t k := by
  cases d with
  | none => rfl
  | some j => exact upd_ne _ _ (fun e => h (by rw [e]))
theorem put_h {d : Option Nat} {x : AT} : (s.put d x).h = s.h := by cases d <;> rfl
theorem del_h {d : Option Nat} : (s.del d).h = s.h := by cases d <;> rfl

/-- **ONE STEP OF ANOTHER OPERATION, AND WHAT WAS TAKEN FIRST MAY COME BEHIND IT** -/
theorem opG_first {oi oj : Oper} {f : Fx} {flag : Bool} {Ri Mx S M S' M' : List Nat} {K : ASt → Prop} (hk : lightOp oi.op = true ∨ madeOp oi.op = true) (hap : oi.apart ops oj = true)
    (hfl : flag = true ∨ lightOp oj.op = true ∨ False) (hRi : flag = true → ∀ id ∈ Ri, id ∈ S) (hMi : madeOp oi.op = true → site (oi.dst.getD 0) ∈ M ∧ flag = true)
    (hdi : madeOp oi.op = true → ∃ d, oi.dst = some d) (hmg : madeOp oi.op = true → oi.guard = none) (hdj : usesSite oj.op = true → ∃ d, oj.dst = some d)
    (hS : ∀ x ∈ S', x ∈ S) (hM : ∀ x ∈ M', x ∈ M)
    (hh : Held C ops oi f flag Ri Mx s) (h : opG C ops.toList S M oj (f.app s) K) : opG C ops.toList S' M' oj s (fun s' => Held C ops oi f flag Ri Mx s' ∧ K (f.app s')) := by
  obtain ⟨a1, a2, a3⟩ := Oper.apart_spec hap
  have hfd := hh.fx.d
  have hfp := hh.fx.hp hk
  rw [← hfd] at a1 a2
  have hne : ∀ k, f.d = some k → oj.dst ≠ some k := a2
  -- operands
  have hev : ∀ x ∈ oj.op.operands, (f.app s).ev x = s.ev x := fun x hx => ev_congr fun k e => app_t fun hd => (not_looks (a1 k hd)).1 x hx e
  have hor : ∀ x ∈ oj.op.operands, orefs (f.app s) x = orefs s x := fun x hx => orefs_congr (hev x hx)
  -- what it writes is in M
  have hmem : ∀ p, f.hp = some p → p.1 ∈ M ∧ flag = true ∧ madeOp oi.op = true := fun p hp => by
    obtain ⟨h1, h2⟩ := hfp p hp
    rw [h2]; exact ⟨(hMi h1).1, (hMi h1).2, h1⟩
  have ilook : ∀ k, k ∈ oi.looksAt ops → oj.dst ≠ some k := fun k hk hd => a3 k hd hk
  have hsite : usesSite oi.op = true → site (oi.dst.getD 0) ∈ M ∧ flag = true := fun hu => by
    rcases hk with hk | hk
    · rw [light_usesSite hk] at hu; cases hu
    · exact hMi hk
  -- the temporaries alone
  have nx1 : ∀ x, Held C ops oi f flag Ri Mx (s.put oj.dst x) := fun x => hh.next (fun k hk => put_t (ilook k hk)) (.inl fun id => by rw [put_h])
  have nx2 : Held C ops oi f flag Ri Mx (s.del oj.dst) := hh.next (fun k hk => del_t (ilook k hk)) (.inl fun id => by rw [del_h])
  have main : wopM C S M oj.dst oj.op (f.app s) K → wopM C S' M' oj.dst oj.op s (fun s' => Held C ops oi f flag Ri Mx s' ∧ K (f.app s')) := by
    intro hw
    unfold wopM at hw ⊢
    obtain ⟨hw1, hw2⟩ := hw
    refine ⟨fun id hid x hx => by rw [← hor x hx]; exact hw1 id (hM id hid) x hx, ?_⟩
    have effs : runEffM C S M oj.dst (f.app s) K (eff C.P (f.app s) (oj.dst.getD 0) oj.op) → runEffM C S' M' oj.dst s (fun s' => Held C ops oi f flag Ri Mx s' ∧ K (f.app s')) (eff C.P s (oj.dst.getD 0) oj.op) := by
      intro he
      have hpe : (eff C.P s (oj.dst.getD 0) oj.op).isPut ≠ none → flag = true := fun hp => by
        rcases hfl with h1 | h1 | h1
        · exact h1
        · exact absurd (light_isPut h1) hp
        · exact h1.elim
      rw [eff_congr (s := s) hev (fun x hx id hid => app_heap fun p hp e => hw1 p.1 (hmem p hp).1 x hx (by rw [hor x hx, e]; exact hid)) (fun hu => app_heap fun p hp e => by
        obtain ⟨h1, h2⟩ := hfp p hp
        obtain ⟨dj, hdj⟩ := hdj hu
        obtain ⟨di, hdi⟩ := hdi h1
        rw [e, hdi, hdj] at h2
        simp only [Option.getD_some] at h2
        have : di = dj := by have h3 : 16 * (dj + 1) = 16 * (di + 1) := h2; exact (Nat.add_right_cancel (Nat.eq_of_mul_eq_mul_left (by decide) h3)).symm
        exact hne di (by rw [hfd, hdi]) (by rw [hdj, this]))] at he
      cases hE : eff C.P s (oj.dst.getD 0) oj.op with
      | bad => rw [hE] at he; exact he.elim
      | alt c p x y => rw [hE] at he; exact he.elim
      | val c x =>
        rw [hE] at he
        refine ⟨he.1, he.2.1, nx1 x, ?_⟩
        rw [← app_put hne]; exact he.2.2
      | put c id b x =>
        rw [hE] at he
        have hf := hpe (by rw [hE]; simp [Eff.isPut])
        have nx : ∀ s2 : ASt, (∀ k, k ∈ oi.looksAt ops → s2.t k = s.t k) → s2.h = upd s.h id (some (some b)) → (∀ i ∈ S, i ≠ id) → (∀ i ∈ M, i ≠ id) → Held C ops oi f flag Ri Mx s2 := by
          intro s2 h1 h2 h3 h4
          refine hh.next h1 (.inr ⟨hf, fun i hi => ?_, fun hu => ?_⟩)
          · rw [h2, upd_ne _ _ (h3 i (hRi hf i hi))]
          · rw [h2, upd_ne _ _ (h4 _ (hsite hu).1)]
        have hcomm : (∀ i ∈ M, i ≠ id) → upd (f.app s).h id (some (some b)) = (f.app { s with h := upd s.h id (some (some b)) }).h := by
          intro h4
          simp only [Fx.app]
          cases hp : f.hp with
          | none => rfl
          | some p => simp only []; rw [upd_comm _ _ _ (h4 _ (hmem p hp).1)]
        cases x with
        | none =>
          obtain ⟨k1, k2, k3, k4, k5⟩ := he
          refine ⟨k1, k2, fun i hi => k3 i (hS i hi), fun i hi => k4 i (hM i hi), nx _ (fun _ _ => rfl) rfl k3 k4, ?_⟩
          rw [hcomm k4] at k5
          exact k5
        | some x =>
          obtain ⟨k1, k2, k3, k4, k5⟩ := he
          refine ⟨k1, k2, fun i hi => k3 i (hS i hi), fun i hi => k4 i (hM i hi), nx _ (fun k hk => put_t (ilook k hk)) put_h k3 k4, ?_⟩
          rw [hcomm k4] at k5
          rw [← app_put hne]
          exact k5
    split at hw2
    · rename_i f' args ats hop
      have e1 : (f.app s).ev f' = s.ev f' := hev f' (by rw [hop]; simp [Op.operands, Call.operands])
      have e2 : evArgs (f.app s) args.toList = evArgs s args.toList := evArgs_congr fun p hp => hev p (by rw [hop]; simp [Op.operands, Call.operands]; right; simpa using hp)
      rw [e1, e2] at hw2
      have hf : flag = true := by
        rcases hfl with h1 | h1 | h1
        · exact h1
        · rw [hop] at h1; simp [lightOp] at h1
        · exact h1.elim
      unfold callM at hw2 ⊢
      split at hw2
      · rename_i g caps as hfv hav
        refine ⟨hw2.1, ?_⟩
        rcases hw2.2 with ⟨r, he, hK⟩ | ⟨as2, l, R, σ, b0, B, h1, h2, h3, h4, h5, h6, h7, h8, h10, h11, h9⟩
        · refine .inl ⟨r, he, nx1 r, ?_⟩
          rw [← app_put hne]; exact hK
        · have hτ : ∀ j, j < l.length → tau σ b0 j ∈ σ := fun j hj => by rw [tau_lt (by omega)]; simp
          have hnp : ∀ p, f.hp = some p → ∀ j, j < l.length → p.1 ≠ tau σ b0 j := fun p hp j hj e => (h11 _ (hmem p hp).1).1 (e ▸ hτ j hj)
          refine .inr ⟨as2, l, R, σ, b0, B, h1, h2, h3, fun j hj => ?_, h5, fun i i1 i2 => (h6 i i1 i2).congr fun id hid => (app_heap fun p hp e => (h11 _ (hmem p hp).1).2 (e ▸ hid)).symm, h7, h8, fun id hid => h10 id (hS id hid), fun id hid => h11 id (hM id hid), fun r l' hR => ?_⟩
          · obtain ⟨b, b1, b2⟩ := h4 j hj
            rw [app_heap (fun p hp => hnp p hp j hj)] at b1
            exact ⟨b, b1, b2⟩
          · obtain ⟨n1, n2, n3⟩ := h9 r l' hR
            have hnew : ∀ j, l.length ≤ j → j < l'.length → (∀ p, f.hp = some p → p.1 ≠ tau σ b0 j) := fun j j1 j2 p hp e => by
              have := (n1 j j1 j2).1
              unfold Fx.app at this
              rw [hp] at this
              simp only [e, upd_same] at this
              cases this
            have hall : ∀ j, j < l'.length → (∀ p, f.hp = some p → p.1 ≠ tau σ b0 j) := fun j j2 p hp => by
              rcases Nat.lt_or_ge j l.length with h | h
              · exact hnp p hp j h
              · exact hnew j h j2 p hp
            have hnone : ∀ j, l.length ≤ j → j < l'.length → s.h (tau σ b0 j) = none := fun j j1 j2 => by
              have := (n1 j j1 j2).1
              rwa [app_heap (hnew j j1 j2)] at this
            refine ⟨fun j j1 j2 => ⟨hnone j j1 j2, (n1 j j1 j2).2⟩, n2, ?_, ?_⟩
            · refine hh.next (fun k hk => put_t (ilook k hk)) (.inr ⟨hf, fun id hid => ?_, fun hu => ?_⟩)
              · rw [put_h]
                refine mergeL_out _ _ _ fun j hj e => ?_
                rw [Nat.zero_add] at e
                rcases Nat.lt_or_ge j l.length with h | h
                · exact h10 id (hRi hf id hid) (e ▸ hτ j h)
                · exact hh.dom hf id hid (e ▸ hnone j h hj)
              · rw [put_h]
                refine mergeL_out _ _ _ fun j hj e => ?_
                rw [Nat.zero_add] at e
                rcases Nat.lt_or_ge j l.length with h | h
                · exact (h11 _ (hsite hu).1).1 (e ▸ hτ j h)
                · -- a new block at the operation's own place: it has been made before
                  cases hp : f.hp with
                  | none =>
                    rcases hk with hk | hk
                    · rw [light_usesSite hk] at hu; cases hu
                    · exact absurd hp (made_hp hk (hmg hk) hh.fx)
                  | some p =>
                    obtain ⟨_, q2⟩ := hfp p hp
                    exact hnew j h hj p hp (by rw [q2, e])
            · have e3 : (f.app s).t = (f.app ⟨s.t, mergeL (tau σ b0) 0 l' s.h⟩).t := rfl
              have e4 : mergeL (tau σ b0) 0 l' (f.app s).h = (f.app ⟨s.t, mergeL (tau σ b0) 0 l' s.h⟩).h := by
                simp only [Fx.app]
                cases hp : f.hp with
                | none => rfl
                | some p =>
                  simp only []
                  rw [mergeL_upd _ _ fun j hj e => ?_]
                  rw [Nat.zero_add] at e
                  exact hall j hj p hp e.symm
              rw [e3, e4] at n3
              rw [← app_put hne]
              exact n3
      · exact hw2.elim
    · exact effs hw2
  unfold opG at h ⊢
  split
  · rename_i hg
    rw [hg] at h
    exact main h
  · rename_i g want hg
    rw [hg] at h
    obtain ⟨t, b, h1, h2, h3, h4⟩ := h
    refine ⟨t, b, h1, ?_, fun e => main (h3 e), fun e => ⟨(h4 e).1, nx2, ?_⟩⟩
    · rw [← h2]
      exact (congrArg gvOf (app_t fun hd => (not_looks (a1 t hd)).2 g want t hg h1 rfl)).symm
    · rw [← app_del hne]; exact (h4 e).2
end
end
end Go.Ab
