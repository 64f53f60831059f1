/- CONTROL; WHAT MAY BE FORGOTTEN. -/
import Derived.Test.YtpikidekdeglcaaAb12
import Derived.LoopNIn
namespace Go.Ab
open Go
noncomputable section

def SeqK (wb : ASt → Prop) (Q : Exit → ASt → Prop) : Exit → ASt → Prop
  | .normal, s => wb s
  | e, s => Q e s
def BlkK (id : Nat) (Q : Exit → ASt → Prop) : Exit → ASt → Prop
  | .exit id', s => if id' = id then Q .normal s else Q (.exit id') s
  | e, s => Q e s
def ScpK (Q : Exit → ASt → Prop) : Exit → ASt → Prop
  | .goto _, _ => False
  | e, s => Q e s

def wpc (C : Cx) : Code → (Exit → ASt → Prop) → ASt → Prop
  | .skip, Q, s => Q .normal s
  | .label _, Q, s => Q .normal s
  | .ret, Q, s => Q .ret s
  | .exit id, Q, s => Q (.exit id) s
  | .goto l, Q, s => Q (.goto l) s
  | .seq x y, Q, s => wpc C x (SeqK (wpc C y Q) Q) s
  | .block id c, Q, s => wpc C c (BlkK id Q) s
  | .scope c, Q, s => wpc C c (ScpK Q) s
  | .cond c x y, Q, s => match s.ev c with
    | some (.c (.s (.bool t))) => (t = true → wpc C x Q s) ∧ (t = false → wpc C y Q s)
    | _ => False
  | .region id ops d, Q, s => match d with
    | false => wops C ops.toList ops.toList s (Q .normal)
    | true => WP C (.region id ops true) Q s
  | .loop c, Q, s => WP C (.loop c) Q s
  | .rangeFunc g ps x c, Q, s => WP C (.rangeFunc g ps x c) Q s
  | .refuse _, _, _ => False

section
variable {C : Cx} {Th : Nat → Prop} {base : Nat} {D : List Deferred} {w w' : World} {φ φ' : Nat → Option Nat} {Im Im' : Nat → Prop} {a : Act} {s s' : ASt} {Q Q' : Exit → ASt → Prop}

theorem stepR_scope {P : Program} {b : Frame} {a : Act} {k : List Item} {cs : List Frame} {w : World} {c : Code} : step P (lone (b.atR a (.code (.scope c) :: k)) cs w) = .next (lone (b.atR a (.code c :: .inScope c :: k)) cs w) :=
  step_lone_go (by simp [stepG, stepG.exec, Frame.atR])
theorem stepR_inScope {P : Program} {b : Frame} {a : Act} {k : List Item} {cs : List Frame} {w : World} {c : Code} : step P (lone (b.atR a (.inScope c :: k)) cs w) = .next (lone (b.atR a k) cs w) :=
  step_lone_go (by simp [stepG, stepG.exec, Frame.atR])

theorem exitTo_scope (c : Code) (id : Nat) (k : List Item) : exitTo id (.inScope c :: k) = exitTo id k := by simp [exitTo]

theorem wpIn_scope {F : Fence} {n : Nat} {P : Program} {Q : Exit → Act → World → Prop} {a : Act} {w : World} {c : Code} (h : c.wpIn F n P (Exit.noGoto Q) a w) : (Code.scope c).wpIn F n P Q a w := by
  intro b k cs hro hb hr
  have h0 : (lone (b.atR a (.code (.scope c) :: k)) cs w).fenced P F := fenced_calm hb hr rfl
  obtain ⟨e, a₁, w₁, hq, harr⟩ := h b (.inScope c :: k) cs hro hb hr
  cases e with
  | normal => exact ⟨.normal, a₁, w₁, hq, .head h0 stepR_scope (StepsIn.trans harr (.one (fenced_calm hb hr rfl) stepR_inScope))⟩
  | exit id =>
    exact ⟨_, a₁, w₁, hq, fun k' hk => .head h0 stepR_scope (harr.1 k' (by rw [exitTo_scope]; exact hk)),
      fun hr' hk => let ⟨k₁, h1, h2⟩ := harr.2 hr' (by rw [exitTo_scope]; exact hk); ⟨k₁, h1, .head h0 stepR_scope h2⟩⟩
  | goto l => exact hq.elim
  | ret => exact ⟨_, a₁, w₁, hq, .of_steps (.one h0 stepR_scope) harr⟩
  | panic ch => exact ⟨_, a₁, w₁, hq, .of_steps (.one h0 stepR_scope) harr⟩
  | outgrown => exact ⟨_, a₁, w₁, hq, .of_steps (.one h0 stepR_scope) harr⟩

theorem WP.mono {c : Code} (h : WP C c Q s) (hq : ∀ e s, Q e s → Q' e s) : WP C c Q' s :=
  fun Th base D r w φ Im a hr hb hd => wpIn_mono (h Th base D r w φ Im a hr hb hd) fun _ _ _ ⟨s', φ', Im', k1, k2, k3⟩ => ⟨s', φ', Im', hq _ _ k1, k2, k3⟩

theorem WP.seq {x y : Code} (h : WP C x (SeqK (WP C y Q) Q) s) : WP C (.seq x y) Q s := by
  intro Th base D r w φ Im a hr hb hd
  refine wpIn_seq (wpIn_mono (h Th base D r w φ Im a hr hb hd) ?_)
  rintro e a' w' ⟨s', φ', Im', k1, k2, k3⟩
  cases e with
  | normal =>
    refine wpIn_mono (k1 Th base D r w' φ' Im' a' k2 (Nat.le_trans hb k3.size) (hd.of hr.ok k3.all)) ?_
    rintro e a'' w'' ⟨s'', φ'', Im'', g1, g2, g3⟩
    exact ⟨s'', φ'', Im'', g1, g2, k3.trans g3⟩
  | _ => exact ⟨s', φ', Im', k1, k2, k3⟩

theorem WP.block {id : Nat} {c : Code} (h : WP C c (BlkK id Q) s) : WP C (.block id c) Q s := by
  intro Th base D r w φ Im a hr hb hd
  refine wpIn_block (wpIn_mono (h Th base D r w φ Im a hr hb hd) ?_)
  rintro e a' w' ⟨s', φ', Im', k1, k2, k3⟩
  cases e with
  | exit id' =>
    simp only [Exit.inBlock, BlkK] at k1 ⊢
    split at k1
    · rename_i e; rw [if_pos e]; exact ⟨s', φ', Im', k1, k2, k3⟩
    · rename_i e; rw [if_neg e]; exact ⟨s', φ', Im', k1, k2, k3⟩
  | _ => exact ⟨s', φ', Im', k1, k2, k3⟩

theorem WP.scope {c : Code} (h : WP C c (ScpK Q) s) : WP C (.scope c) Q s := by
  intro Th base D r w φ Im a hr hb hd
  refine wpIn_scope (wpIn_mono (h Th base D r w φ Im a hr hb hd) ?_)
  rintro e a' w' ⟨s', φ', Im', k1, k2, k3⟩
  cases e with
  | goto l => exact k1.elim
  | _ => exact ⟨s', φ', Im', k1, k2, k3⟩

theorem WP.cond {c : Operand} {x y : Code} {t : Bool} (hc : s.ev c = some (.c (.s (.bool t)))) (h1 : t = true → WP C x Q s) (h2 : t = false → WP C y Q s) : WP C (.cond c x y) Q s := by
  intro Th base D r w φ Im a hr hb hd
  have := RelT.s_inv (rel_ev hr hc)
  refine wpIn_cond this ?_
  cases t with
  | true => exact h1 rfl Th base D r w φ Im a hr hb hd
  | false => exact h2 rfl Th base D r w φ Im a hr hb hd

/-- **WHAT 'wpc' SAYS IS SO** -/
theorem WP.of {c : Code} : ∀ {Q : Exit → ASt → Prop} {s : ASt}, wpc C c Q s → WP C c Q s := by
  induction c with
  | skip => exact fun h Th base D r w φ Im a hr hb _ => wpIn_skip ⟨_, φ, Im, h, hr, Ext.refl⟩
  | label l => exact fun h Th base D r w φ Im a hr hb _ => wpIn_label ⟨_, φ, Im, h, hr, Ext.refl⟩
  | ret => exact fun h Th base D r w φ Im a hr hb _ => wpIn_ret ⟨_, φ, Im, h, hr, Ext.refl⟩
  | exit id => exact fun h Th base D r w φ Im a hr hb _ => wpIn_exit ⟨_, φ, Im, h, hr, Ext.refl⟩
  | goto l => exact fun h Th base D r w φ Im a hr hb _ => wpIn_goto ⟨_, φ, Im, h, hr, Ext.refl⟩
  | seq x y ihx ihy =>
    intro Q s h
    exact .seq (WP.mono (ihx h) fun e s hq => by cases e <;> first | exact ihy hq | exact hq)
  | block id c ih => exact fun h => .block (ih h)
  | scope c ih => exact fun h => .scope (ih h)
  | cond c x y ihx ihy =>
    intro Q s h
    unfold wpc at h
    split at h
    · rename_i t ht; exact .cond ht (fun e => ihx (h.1 e)) (fun e => ihy (h.2 e))
    · exact h.elim
  | region id ops d =>
    intro Q s h
    cases d with
    | true => exact h
    | false =>
      intro Th base D r w φ Im a hr hb hd
      refine wpIn_region_list ?_
      have := wops_sound (r := r) (Q := fun e a' w' => ∃ s' φ' Im', Q e s' ∧ RelS w' φ' Im' Th base C.N D s' a' ∧ Ext C.m0 w φ Im Th s.h w' φ' Im' s'.h) ops.toList w φ Im s a hr hb h (fun w' φ' Im' s' a' k1 k2 k3 => ⟨s', φ', Im', k1, k2, k3⟩)
      simpa using this
  | loop c ih => exact fun h => h
  | rangeFunc g ps x c ih1 ih2 => exact fun h => h
  | refuse why => exact fun h => h.elim

/-! ### forgetting -/
def Sub (C : Cx) (s s' : ASt) : Prop :=
  ∀ (Th : Nat → Prop) (base : Nat) (D : List Deferred) (w : World) (φ : Nat → Option Nat) (Im : Nat → Prop) (a : Act), RelS w φ Im Th base C.N D s a →
    ∃ φ' Im', RelS w φ' Im' Th base C.N D s' a ∧ Ext C.m0 w φ Im Th s.h w φ' Im' s'.h

theorem Sub.refl : Sub C s s := fun _ _ _ _ φ Im _ hr => ⟨φ, Im, hr, Ext.refl⟩
theorem Sub.trans {s1 s2 s3 : ASt} (h1 : Sub C s1 s2) (h2 : Sub C s2 s3) : Sub C s1 s3 := fun Th base D w φ Im a hr => by
  obtain ⟨φ1, Im1, r1, e1⟩ := h1 Th base D w φ Im a hr
  obtain ⟨φ2, Im2, r2, e2⟩ := h2 Th base D w φ1 Im1 a r1
  exact ⟨φ2, Im2, r2, e1.trans e2⟩

theorem WP.sub {c : Code} (hs : Sub C s s') (h : WP C c Q s') : WP C c Q s := by
  intro Th base D r w φ Im a hr hb hd
  obtain ⟨φ', Im', r1, e1⟩ := hs Th base D w φ Im a hr
  refine wpIn_mono (h Th base D r w φ' Im' a r1 hb hd) ?_
  rintro e a' w' ⟨s'', φ'', Im'', k1, k2, k3⟩
  exact ⟨s'', φ'', Im'', k1, k2, e1.trans k3⟩

theorem CallOk.sub {g : FuncId} {as as' : List AT} {d : Option Nat} {K : ASt → Prop} (hs : ∀ (Th : Nat → Prop) (base : Nat) (D : List Deferred) (w : World) (φ : Nat → Option Nat) (Im : Nat → Prop) (a : Act), RelS w φ Im Th base C.N D s a →
    ∃ φ' Im', RelS w φ' Im' Th base C.N D s' a ∧ Ext C.m0 w φ Im Th s.h w φ' Im' s'.h ∧ ∀ (v : Array Value), v.size = as.length → (∀ (i : Nat) (hi : i < as.length), RelT w φ Im base s.h (v.getD i undef) as[i]) →
      v.size = as'.length ∧ ∀ (i : Nat) (hi : i < as'.length), RelT w φ' Im' base s'.h (v.getD i undef) as'[i]) (h : CallOk C g as' d s' K) : CallOk C g as d s K := by
  intro Th base D w φ Im a cargs hr hb hl ha
  obtain ⟨φ', Im', r1, e1, hargs⟩ := hs Th base D w φ Im a hr
  obtain ⟨l1, a1⟩ := hargs cargs hl ha
  rcases h Th base D w φ' Im' a cargs r1 hb l1 a1 with ⟨v, s2, φ2, Im2, k1, k2, k3, k4⟩ | ⟨k1, k2⟩
  · exact .inl ⟨v, s2, φ2, Im2, k1, k2, k3, e1.trans k4⟩
  · refine .inr ⟨k1, CallsIn.mono k2 ?_⟩
    rintro e w' ⟨v, s2, φ2, Im2, h1, h2, h3, h4⟩
    exact ⟨v, s2, φ2, Im2, h1, h2, h3, e1.trans h4⟩

/-! ### loops -/
def LoopK {α : Type} (C : Cx) (st : α → ASt) (inv : α → Prop) (μ : α → Nat) (x : α) (Q : Exit → ASt → Prop) : Exit → ASt → Prop
  | .normal, s' => ∃ x', inv x' ∧ μ x' < μ x ∧ Sub C s' (st x')
  | e, s' => Q e s'

theorem WP.loop {α : Type} {c : Code} (st : α → ASt) (inv : α → Prop) (μ : α → Nat) (x0 : α) (h0 : inv x0) (hs : Sub C s (st x0))
    (round : ∀ x, inv x → WP C c (LoopK C st inv μ x Q) (st x)) : WP C (.loop c) Q s := by
  refine WP.sub hs ?_
  intro Th base D r w0 φ0 Im0 a0 hr0 hb0 hd0
  have key : ∀ m x w φ Im a, μ x < m → inv x → RelS w φ Im Th base C.N D (st x) a → base ≤ w.heap.size → Ext C.m0 w0 φ0 Im0 Th (st x0).h w φ Im (st x).h →
      Code.roundsIn (Fw r) 0 C.P c (fun e a' w' => ∃ s' φ' Im', Q e s' ∧ RelS w' φ' Im' Th base C.N D s' a' ∧ Ext C.m0 w0 φ0 Im0 Th (st x0).h w' φ' Im' s'.h) m a w := by
    intro m
    induction m with
    | zero => intro x w φ Im a hm; omega
    | succ m ih =>
      intro x w φ Im a hm hi hr hb hx
      rw [roundsIn_succ]
      refine wpIn_mono (round x hi Th base D r w φ Im a hr hb (hd0.of hr0.ok hx.all)) ?_
      rintro e a' w' ⟨s', φ', Im', k1, k2, k3⟩
      cases e with
      | normal =>
        obtain ⟨x', i1, i2, i3⟩ := k1
        obtain ⟨φ'', Im'', r1, e1⟩ := i3 Th base D w' φ' Im' a' k2
        exact ih x' w' φ'' Im'' a' (by omega) i1 r1 (Nat.le_trans hb k3.size) ((hx.trans k3).trans e1)
      | _ => exact ⟨s', φ', Im', k1, k2, hx.trans k3⟩
  exact wpIn_loop_rounds (μ x0 + 1) (key _ x0 w0 φ0 Im0 a0 (by omega) h0 hr0 hb0 Ext.refl)
end
end
end Go.Ab
