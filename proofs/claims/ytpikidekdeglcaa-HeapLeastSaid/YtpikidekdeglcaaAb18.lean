/- WHAT MAY BE FORGOTTEN, AND FROZEN. -/
import Derived.Test.YtpikidekdeglcaaAb17
namespace Go.Ab
open Go
noncomputable section

def mkT : List (Nat × AT) → Nat → Option AT
  | [] => fun _ => none
  | p :: l => upd (mkT l) p.1 (some p.2)
def mkH : List (Nat × Option Blk) → Heap
  | [] => fun _ => none
  | p :: l => upd (mkH l) p.1 (some p.2)

theorem mkT_mem {k : Nat} {x : AT} : ∀ (l : List (Nat × AT)), mkT l k = some x → (k, x) ∈ l
  | [], h => by cases h
  | (k', y) :: l, h => by
    simp only [mkT] at h
    by_cases e : k = k'
    · subst e; rw [upd_same] at h; cases h; simp
    · rw [upd_ne _ _ e] at h; exact List.mem_cons_of_mem _ (mkT_mem l h)
theorem mkH_mem {k : Nat} {b : Option Blk} : ∀ (l : List (Nat × Option Blk)), mkH l k = some b → (k, b) ∈ l
  | [], h => by cases h
  | (k', y) :: l, h => by
    simp only [mkH] at h
    by_cases e : k = k'
    · subst e; rw [upd_same] at h; cases h; simp
    · rw [upd_ne _ _ e] at h; exact List.mem_cons_of_mem _ (mkH_mem l h)
theorem mkH_dom {k : Nat} {b : Option Blk} : ∀ (l : List (Nat × Option Blk)), (k, b) ∈ l → mkH l k ≠ none
  | [], h => by cases h
  | (k', y) :: l, h => by
    simp only [mkH]
    by_cases e : k = k'
    · subst e; rw [upd_same]; simp
    · rw [upd_ne _ _ e]
      rcases List.mem_cons.1 h with h1 | h1
      · cases h1; exact absurd rfl e
      · exact mkH_dom l h1

section
variable {C : Cx} {Th : Nat → Prop} {base N : Nat} {D : List Deferred} {w w' : World} {φ φ' : Nat → Option Nat} {Im Im' : Nat → Prop} {a : Act} {s s' : ASt}

theorem AV.ren_id : ∀ x : AV, x.ren (fun i => i) = x := by
  intro x
  have := AV.ren_ren (τ := fun i => i) (ι := fun i => i) x (fun _ _ => rfl)
  have key : (∀ x : AV, x.ren (fun i => i) = x) := by
    intro x
    exact AV.rec (motive_1 := fun x => x.ren (fun i => i) = x) (motive_2 := fun l => AV.renL (fun i => i) l = l)
      (fun _ => rfl) (fun _ _ => rfl) (fun _ _ _ => rfl) (fun _ _ _ _ _ => rfl) (fun _ _ => rfl) (fun _ _ ih => by simp only [AV.ren]; rw [ih]) rfl rfl (fun _ _ h1 h2 => by simp only [AV.renL]; rw [h1, h2]) x
  exact key x
theorem AT.ren_id : ∀ x : AT, x.ren (fun i => i) = x := by
  intro x
  have hL : ∀ l : List AV, AV.renL (fun i => i) l = l := fun l => by
    rw [renL_map]; conv => rhs; rw [← List.map_id l]
    exact List.map_congr_left (fun y _ => AV.ren_id y)
  exact AT.rec (motive_1 := fun x => x.ren (fun i => i) = x) (motive_2 := fun l => AT.renL (fun i => i) l = l)
    (fun y => by simp only [AT.ren, AV.ren_id]) (fun cs => by simp only [AT.ren, hL]) (fun l ih => by simp only [AT.ren, ih]) rfl (fun _ _ h1 h2 => by simp only [AT.renL, h1, h2]) x

theorem RelC.down' {h : Heap} {v : Value} {fr : Bool} {p : PV} (hx : RelC w φ Im base h v (p.up fr)) : RelP w (fun b => Im b ∧ (fr = true → base ≤ b)) v p := by
  cases p with
  | one u => cases hx with | s hv => exact .one hv
  | sl xs => cases hx with | sl hp => exact hp

/-- to where less is known: some temporaries, some blocks, the rest forgotten -/
theorem Sub.keep (lt : List (Nat × AT)) (lh : List (Nat × Option Blk)) (ht : ∀ p ∈ lt, s.t p.1 = some p.2 ∧ ∀ id ∈ p.2.refs, id ∈ lh.map (·.1)) (hh : ∀ p ∈ lh, s.h p.1 = some p.2 ∧ ∀ id ∈ brefs p.2, id ∈ lh.map (·.1))
    (hm : ∀ id, id < C.m0 → s.h id ≠ none → id ∈ lh.map (·.1)) : Sub C s ⟨mkT lt, mkH lh⟩ := by
  intro Th base D w φ Im a hr
  have hdom : ∀ id, id ∈ lh.map (·.1) → mkH lh id ≠ none := by
    intro id hid
    obtain ⟨p, hp, rfl⟩ := List.mem_map.1 hid
    exact mkH_dom lh (k := p.1) (b := p.2) hp
  have hval : ∀ id b, mkH lh id = some b → s.h id = some b := fun id b hb => (hh _ (mkH_mem lh hb)).1
  have hren : ∀ id, id ∈ lh.map (·.1) → RenOk (fun i => i) φ s.h φ (mkH lh) id := fun id hid =>
    ⟨hdom id hid, fun ty cs he => ⟨⟨ty, cs, hval _ _ he, rfl⟩, rfl⟩⟩
  have hlive : ∀ id, Live (mkH lh) id → Live s.h id := fun id ⟨ty, cs, h1⟩ => ⟨ty, cs, hval _ _ h1⟩
  refine ⟨φ, Im, ⟨⟨fun id ty cs hid => ?_, fun i j b hi hj => hr.ok.inj i j b (hlive i hi) (hlive j hj), fun b ⟨id, hl, hb⟩ => hr.ok.disj b ⟨id, hlive id hl, hb⟩, hr.ok.lt, fun id b h16 hl hb => hr.ok.new id b h16 (hlive id hl) hb, hr.ok.base_le⟩,
    hr.size, hr.defers, fun k x hx => ?_⟩, ⟨Nat.le_refl _, rfl, rfl, rfl, fun _ _ => rfl, fun _ _ _ => rfl, fun _ h => h, fun b ⟨id, hl, hb⟩ => .inl ⟨id, hlive id hl, hb⟩, fun _ h => .inl h, fun b c T fr h => ⟨c, h, rfl⟩, fun id hid hne => ⟨hdom id (hm id hid hne), fun ty cs he => ⟨ty, cs, hval _ _ he, Nat.le_refl _, fun _ => rfl, fun _ hb => .inl hb⟩⟩⟩⟩
  · have h1 := hh _ (mkH_mem lh hid)
    rcases hr.ok.heap id ty cs h1.1 with h2 | ⟨b, c, g1, g2, g3, g4⟩
    · exact .inl h2
    · exact .inr ⟨b, c, g1, g2, g3, fun j hj => (g4 j hj).unren (AV.ren_id _).symm (fun id hid => hren id (h1.2 id (by simp only [brefs]; exact mem_refsL (by simp) hid)))⟩
  · have h1 := ht _ (mkT_mem lt hx)
    exact (hr.tmps k x h1.1).unren (AT.ren_id _).symm (fun id hid => hren id (h1.2 id hid))

/-- a nil slice in a temporary may be taken for a row to come -/
theorem Sub.row {k id : Nat} {E : Nat} {e : TypeId} (hk : s.t k = some (.c (.s (.slice none 0 0)))) (hid : s.h id = none) :
    Sub C s ⟨upd s.t k (some (.c (.msl E id 0 0 0))), upd s.h id (some (some (e, [])))⟩ := by
  intro Th base D w φ Im a hr
  obtain ⟨n1, n2⟩ := nil_step hr.ok hid e
  refine ⟨upd φ id none, Im, ⟨n2, hr.size, hr.defers, fun j x hx => ?_⟩, n1.ext⟩
  by_cases ej : j = k
  · subst ej
    simp only [upd_same] at hx
    cases hx
    have := RelT.s_inv (hr.tmps _ _ hk)
    exact .c (.msl (by simp [upd_same]) (by rw [this]; rfl) (fun _ _ _ => Nat.zero_le _) (fun ty' cs' he _ => .inl ⟨upd_same _ _ _, rfl, rfl, this⟩))
  · simp only [upd_ne _ _ ej] at hx
    exact (hr.tmps j x hx).mono n1

/-! ### freezing: nobody writes a block any more -/
/-- an element that may be read from now on -/
inductive FrzV (id st E : Nat) (fr : Bool) (ps : List PV) : AV → AV → Prop
  | same {x : AV} : FrzV id st E fr ps x x
  | frz {off len : Nat} {xs : List (List PV)} (hlen : xs.length = len) (hE : ∀ x ∈ xs, x.length = E) (hc : (ps.drop off).take (len * E) = xs.flatten) : FrzV id st E fr ps (.msl E id st off len) (.sl fr xs)
inductive FrzT (id st E : Nat) (fr : Bool) (ps : List PV) : AT → AT → Prop
  | c {x y : AV} (h : FrzV id st E fr ps x y) : FrzT id st E fr ps (.c x) (.c y)
  | agg {xs ys : List AV} (hl : xs.length = ys.length) (h : ∀ (i : Nat) (h1 : i < xs.length) (h2 : i < ys.length), FrzV id st E fr ps xs[i] ys[i]) : FrzT id st E fr ps (.agg xs) (.agg ys)
  | same {x : AT} : FrzT id st E fr ps x x

theorem Sub.freeze {id E : Nat} {fr : Bool} {ty : TypeId} {cs : List AV} {ps : List PV} (hid : s.h id = some (some (ty, cs))) (hcs : cs = ps.map (PV.up fr)) (hE : 0 < E) (h16 : fr = true → 16 ≤ id)
    (hh' : s'.h id = some none) (hh : ∀ j, j ≠ id → s'.h j = s.h j ∨ ∃ ty cs0 cs1, s.h j = some (some (ty, cs0)) ∧ s'.h j = some (some (ty, cs1)) ∧ cs0.length = cs1.length ∧ ∀ (i : Nat) (h1 : i < cs0.length) (h2 : i < cs1.length), FrzV id cs.length E fr ps cs0[i] cs1[i])
    (ht : ∀ k y, s'.t k = some y → ∃ x, s.t k = some x ∧ FrzT id cs.length E fr ps x y) : Sub C s s' := by
  intro Th base D w φ Im a hr
  obtain ⟨I2, hI2⟩ : ∃ I2 : Nat → Prop, I2 = fun b => Im b ∨ φ id = some b := ⟨_, rfl⟩
  have hlid : Live s.h id := ⟨ty, cs, hid⟩
  have hlive : ∀ j, Live s'.h j → j ≠ id ∧ Live s.h j := by
    rintro j ⟨ty1, cs1, h1⟩
    have hne : j ≠ id := fun e => by rw [e, hh'] at h1; cases h1
    refine ⟨hne, ?_⟩
    rcases hh j hne with h2 | ⟨ty2, cs0, cs2, h2, h3, _⟩
    · exact ⟨ty1, cs1, by rw [← h2]; exact h1⟩
    · exact ⟨ty2, cs0, h2⟩
  have hstp : Stp w φ Im Th s.h w φ I2 s'.h := by
    refine ⟨Nat.le_refl _, rfl, rfl, rfl, fun _ _ => rfl, fun _ _ _ => rfl, fun b hb => by rw [hI2]; exact .inl hb, fun b ⟨j, hj, hb⟩ => .inl ⟨j, (hlive j hj).2, hb⟩, fun b hb => ?_, fun b c T f h => ⟨c, h, rfl⟩, fun j hj => ?_⟩
    · rw [hI2] at hb
      rcases hb with h1 | h1
      · exact .inl h1
      · exact .inr (.inl ⟨id, hlid, h1⟩)
    · by_cases e : j = id
      · subst e; exact ⟨by rw [hh']; simp, fun ty1 cs1 h1 => by rw [hh'] at h1; cases h1⟩
      · rcases hh j e with h2 | ⟨ty2, cs0, cs2, h2, h3, h4, _⟩
        · exact ⟨by rw [h2]; exact hj, fun ty1 cs1 h1 => ⟨ty1, cs1, by rw [← h2]; exact h1, Nat.le_refl _, fun _ => rfl, fun _ hb => .inl hb⟩⟩
        · exact ⟨by rw [h3]; simp, fun ty1 cs1 h1 => by rw [h3] at h1; cases h1; exact ⟨_, _, h2, by omega, fun _ => rfl, fun _ hb => .inl hb⟩⟩
  have hfrz : ∀ {v : Value} {x y : AV}, RelC w φ Im base s.h v x → FrzV id cs.length E fr ps x y → RelC w φ I2 base s'.h v y := by
    intro v x y hx hxy
    cases hxy with
    | same => exact hx.mono hstp
    | @frz off len xs hlen hE' hc =>
      have hb := borrow (fr := fr) (xs := xs) hr.ok hx hid rfl hlen hE hE' (by rw [hcs, ← List.map_drop, ← List.map_take, hc])
      -- the cells themselves are new, where they are said to be
      have hkey : RelP w (fun b => I2 b ∧ (fr = true → base ≤ b)) v (.sl xs) := by
        cases hx with
        | msl hid' hv hst' H =>
          rcases H ty cs hid rfl with ⟨_, h0, hl0, hve⟩ | ⟨b, off', cap, c, T, hφ, hve, hw, ho, hcap, hlc, hmax⟩
          · subst hve; subst hl0
            have : xs = [] := List.eq_nil_of_length_eq_zero hlen
            subst this; exact .nil
          · subst hve
            rcases Nat.eq_zero_or_pos len with h0 | hpos
            · subst h0
              have : xs = [] := List.eq_nil_of_length_eq_zero hlen
              subst this; exact .nil
            · obtain rfl := ho (by omega)
              obtain ⟨c2, hw2, hl2, hcell, hrr⟩ := own_cells hr.ok hid hφ
              have hfl := flat_len hE'
              have hle : off' + len * E ≤ cs.length := by
                have := congrArg List.length hc
                simp only [List.length_take, List.length_drop, hfl, hlen] at this
                have h3 := Nat.mul_pos hpos hE
                have h4 : cs.length = ps.length := by rw [hcs]; simp
                omega
              have hcells : ∀ (i j : Nat) (hi : i < xs.length) (hj : j < xs[i].length), ∃ hk : off' + i * E + j < cs.length, cs[off' + i * E + j] = (xs[i][j]).up fr := by
                intro i j hi hj
                have hj' : j < E := by rw [← hE' xs[i] (by simp)]; exact hj
                have hb : i * E + j < len * E := by
                  have : (i + 1) * E ≤ len * E := Nat.mul_le_mul_right _ (by omega)
                  rw [Nat.add_mul, Nat.one_mul] at this; omega
                have hk : off' + i * E + j < cs.length := by omega
                refine ⟨hk, ?_⟩
                have h1 := congrArg (fun l : List PV => l[i * E + j]?) hc
                simp only [List.getElem?_take, List.getElem?_drop, hb, if_true, flat_get hE' i j hi hj] at h1
                rw [← Nat.add_assoc] at h1
                have h5 : cs[off' + i * E + j]? = some ((xs[i][j]).up fr) := by rw [hcs, List.getElem?_map, h1]; rfl
                rw [List.getElem?_eq_getElem hk] at h5
                exact Option.some.inj h5
              have := RelP.sl (w := w) (O := fun b => I2 b ∧ (fr = true → base ≤ b)) (xs := xs) (E := E) (b := b) (off := off') (cap := cap) (f := fun i j => c2.getD (off' + i * E + j) undef)
                ⟨by rw [hI2]; exact .inr hφ, fun e => hr.ok.new id b (h16 e) hlid hφ⟩ (by omega) (fun i hi => hE' _ (by simp))
                (fun i j hi hj => by
                  obtain ⟨hk, _⟩ := hcells i j hi (by rw [hE' _ (by simp)]; exact hj)
                  exact hcell _ hk)
                (fun i j hi hj => by
                  obtain ⟨hk, he⟩ := hcells i j hi hj
                  have h6 := hrr _ hk
                  rw [he] at h6
                  exact h6.down'.mono (fun _ _ => rfl) (fun b hb => ⟨by rw [hI2]; exact .inl hb.1, hb.2⟩))
              rw [hlen] at this
              exact this
      exact .sl hkey
  refine ⟨φ, I2, ⟨⟨fun j tyj csj hj => ?_, fun i j b hi hj => hr.ok.inj i j b (hlive i hi).2 (hlive j hj).2, fun b ⟨j, hj, hb⟩ => ?_, fun b hb => ?_, fun j b h16' hj hb => hr.ok.new j b h16' (hlive j hj).2 hb, hr.ok.base_le⟩, hr.size, (let ⟨ms, h1, h2⟩ := hr.defers; ⟨ms, h1, h2.of hr.ok hstp.all hstp.pi'⟩), fun k y hy => ?_⟩, hstp.ext⟩
  · obtain ⟨hne, _⟩ := hlive j ⟨tyj, csj, hj⟩
    rcases hh j hne with h2 | ⟨ty2, cs0, cs2, h2, h3, h4, h5⟩
    · rw [h2] at hj
      rcases hr.ok.heap j tyj csj hj with g | ⟨b, c, g1, g2, g3, g4⟩
      · exact .inl g
      · exact .inr ⟨b, c, g1, g2, g3, fun k hk => (g4 k hk).mono hstp⟩
    · rw [h3] at hj; cases hj
      rcases hr.ok.heap j _ cs0 h2 with ⟨g1, g2⟩ | ⟨b, c, g1, g2, g3, g4⟩
      · exact .inl ⟨g1, List.eq_nil_of_length_eq_zero (by rw [← h4, g2]; rfl)⟩
      · exact .inr ⟨b, c, g1, g2, by omega, fun k hk => hfrz (g4 k (by omega)) (h5 k (by omega) hk)⟩
  · have hd := hr.ok.disj b ⟨j, (hlive j hj).2, hb⟩
    refine ⟨?_, hd.2⟩
    rw [hI2]
    rintro (h1 | h1)
    · exact hd.1 h1
    · exact (hlive j hj).1 (hr.ok.inj _ _ b (hlive j hj).2 hlid hb h1)
  · rw [hI2] at hb
    rcases hb with (h1 | h1) | h1
    · exact hr.ok.lt b (.inl h1)
    · rcases hr.ok.heap id ty cs hid with ⟨g1, _⟩ | ⟨b', c, g1, g2, _⟩
      · rw [h1] at g1; cases g1
      · rw [h1] at g1; cases g1; exact (Array.getElem?_eq_some_iff.1 g2).1
    · exact hr.ok.lt b (.inr h1)
  · obtain ⟨x, hx, hxy⟩ := ht k y hy
    have h1 := hr.tmps k x hx
    cases hxy with
    | c hv => exact .c (hfrz h1.c_inv hv)
    | agg hl hv =>
      obtain ⟨arr, harr, hs, hra⟩ := h1.agg_inv
      rw [harr]
      exact .agg (by omega) (fun i hi => hfrz (hra i (by omega)) (hv i (by omega) hi))
    | same => exact h1.mono hstp
end
end
end Go.Ab
