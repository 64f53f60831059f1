/- A CALL BY ITS CONTRACT: the proof. -/
import Derived.Test.YtpikidekdeglcaaAb16
namespace Go.Ab
open Go
noncomputable section
section
variable {C : Cx} {Th : Nat → Prop} {base : Nat} {D : List Deferred} {w w' : World} {φ φ' : Nat → Option Nat} {Im Im' : Nat → Prop} {a : Act} {s s' : ASt}

theorem tau_lt {σ : List Nat} {b0 j : Nat} (hj : j < σ.length) : tau σ b0 j = σ[j] := by simp [tau, List.getElem?_eq_getElem hj]
theorem tau_ge {σ : List Nat} {b0 j : Nat} (hj : σ.length ≤ j) : tau σ b0 j = b0 + (j - σ.length) := by simp [tau, List.getElem?_eq_none hj]

theorem AV.wk_len (cs : List AV) : (cs.map AV.wk).length = cs.length := by simp

theorem CallOk.of {g : FuncId} {as as2 : List AT} {d : Option Nat} {K : ASt → Prop} {l : List (Option Blk)} {R : AT → List (Option Blk) → Prop} (hAC : AC C.P g as2 l R) (σ : List Nat) (b0 : Nat) (B : List Nat)
    (hl : l.length = σ.length) (hnd : σ.Nodup)
    (hσ : ∀ (j : Nat) (hj : j < l.length), ∃ b, s.h (tau σ b0 j) = some b ∧ bwk b = bren (tau σ b0) l[j] ∧ (∀ id ∈ brefs l[j], id < l.length) ∧ (∀ p, b = some p → ∀ x ∈ p.2, x.oldCaps))
    (hlen : as.length = as2.length) (hargs : ∀ (i : Nat) (h1 : i < as.length) (h2 : i < as2.length), AtOk s.h (tau σ b0) B as[i] as2[i]) (hrefs : ∀ x ∈ as2, ∀ id ∈ x.refs, id < l.length)
    (hB : ∀ id ∈ B, id ∉ σ) (hd : okDst C.N d)
    (hK : ∀ r l', R r l' → (∀ j, l.length ≤ j → j < l'.length → s.h (tau σ b0 j) = none ∧ 16 ≤ tau σ b0 j) ∧ (B = [] ∨ (r.fresh ∧ ∀ b ∈ l', bfresh b)) ∧ K (ASt.put ⟨s.t, mergeL (tau σ b0) 0 l' s.h⟩ d (r.ren (tau σ b0)))) :
    CallOk C g as d s K := by
  obtain ⟨hrun, h16, hcall⟩ := hAC
  intro Th base D w φ Im a cargs hr hb hcl hca
  refine .inr ⟨hrun _ _, ?_⟩
  have hτ : ∀ j (hj : j < l.length), tau σ b0 j = σ[j]'(by omega) := fun j hj => tau_lt (by omega)
  have hτinj : ∀ i j, i < l.length → j < l.length → tau σ b0 i = tau σ b0 j → i = j := by
    intro i j hi hj e
    rw [hτ i hi, hτ j hj] at e
    exact (List.getElem_inj hnd).1 e
  obtain ⟨φc, hφc⟩ : ∃ φc : Nat → Option Nat, φc = fun j => φ (tau σ b0 j) := ⟨_, rfl⟩
  obtain ⟨BB, hBB⟩ : ∃ BB : Nat → Prop, BB = fun b => ∃ id ∈ B, Live s.h id ∧ φ id = some b := ⟨_, rfl⟩
  obtain ⟨Ic, hIc⟩ : ∃ Ic : Nat → Prop, Ic = fun b => Im b ∨ BB b := ⟨_, rfl⟩
  obtain ⟨Tc, hTc⟩ : ∃ Tc : Nat → Prop, Tc = fun b => Th b ∨ ∃ id, id ∉ σ ∧ Live s.h id ∧ φ id = some b := ⟨_, rfl⟩
  have ownlt : ∀ id b, Live s.h id → φ id = some b → b < w.heap.size := by
    rintro id b ⟨ty, cs, hid⟩ hb
    rcases hr.ok.heap id ty cs hid with ⟨hn, _⟩ | ⟨b', c, hb', hw, _⟩
    · rw [hn] at hb; cases hb
    · rw [hb] at hb'; cases hb'; exact (Array.getElem?_eq_some_iff.1 hw).1
  -- the callee's blocks, seen by the caller
  have hblk : ∀ j ty cs, hL l j = some (some (ty, cs)) → ∃ (hj : j < l.length) (cs0 : List AV), s.h (tau σ b0 j) = some (some (ty, cs0)) ∧ cs0.map AV.wk = AV.renL (tau σ b0) cs ∧ (∀ id ∈ AV.refsL cs, id < l.length) ∧ ∀ x ∈ cs0, x.oldCaps := by
    intro j ty cs hj
    have hlt : j < l.length := by
      rcases Nat.lt_or_ge j l.length with h1 | h1
      · exact h1
      · simp [hL, List.getElem?_eq_none h1] at hj
    obtain ⟨b, hb1, hb2, hb3, hb4⟩ := hσ j hlt
    simp only [hL, List.getElem?_eq_getElem hlt, Option.some.injEq] at hj
    rw [hj] at hb2 hb3
    cases b with
    | none => simp [bwk, bren] at hb2
    | some p =>
      obtain ⟨ty0, cs0⟩ := p
      simp only [bwk, bren, Option.map_some, Option.some.injEq, Prod.mk.injEq] at hb2
      obtain ⟨rfl, hcs⟩ := hb2
      exact ⟨hlt, cs0, hb1, hcs, hb3, hb4 _ rfl⟩
  have hren : ∀ id, id < l.length → RenOk (tau σ b0) φ s.h φc (hL l) id := by
    intro id hid
    refine ⟨by simp [hL, hid], fun ty2 cs2 he => ⟨?_, by rw [hφc]⟩⟩
    obtain ⟨_, cs0, h1, h2, _⟩ := hblk id ty2 cs2 he
    refine ⟨ty2, cs0, h1, ?_⟩
    have := congrArg List.length h2
    simpa [renL_map] using this
  have hlivec : ∀ j, Live (hL l) j → j < l.length ∧ Live s.h (tau σ b0 j) := by
    rintro j ⟨ty, cs, hj⟩
    obtain ⟨hlt, cs0, h1, _⟩ := hblk j ty cs hj
    exact ⟨hlt, ty, cs0, h1⟩
  have hownc : ∀ b, Own φc (hL l) b → ∃ j, j < l.length ∧ Live s.h (tau σ b0 j) ∧ φ (tau σ b0 j) = some b := by
    rintro b ⟨j, hj, hb⟩
    obtain ⟨h1, h2⟩ := hlivec j hj
    rw [hφc] at hb
    exact ⟨j, h1, h2, hb⟩
  have hmemσ : ∀ j, j < l.length → tau σ b0 j ∈ σ := fun j hj => by rw [hτ j hj]; simp
  have hokc : Ok w φc Ic Tc w.heap.size (hL l) := by
    refine ⟨fun j ty cs hj => ?_, fun i j b hi hj hbi hbj => ?_, fun b hb => ?_, fun b hb => ?_, fun j b h16' hl' _ => ?_, Nat.le_refl _⟩
    · obtain ⟨hlt, cs0, h1, h2, h3, h4⟩ := hblk j ty cs hj
      have hlen0 : cs0.length = cs.length := by have := congrArg List.length h2; simpa [renL_map] using this
      rcases hr.ok.heap _ _ _ h1 with ⟨g1, g2⟩ | ⟨b, c, g1, g2, g3, g4⟩
      · refine .inl ⟨by rw [hφc]; exact g1, ?_⟩
        subst g2; exact List.eq_nil_of_length_eq_zero (by simpa using hlen0.symm)
      · refine .inr ⟨b, c, by rw [hφc]; exact g1, g2, by omega, fun k hk => ?_⟩
        have g5 := (g4 k (by omega)).toWk (base2 := w.heap.size) (h4 _ (by simp))
        have e : (cs0[k]'(by omega)).wk = (cs[k]).ren (tau σ b0) := by
          have := congrArg (fun l : List AV => l[k]?) h2
          simpa [renL_map, hk, show k < cs0.length by omega] using this
        rw [e] at g5
        have g6 := g5.unren rfl (fun id hid => hren id (h3 id (mem_refsL (by simp) hid)))
        exact g6.pim (fun b hb => by rw [hIc]; exact .inl hb)
    · obtain ⟨li, ti⟩ := hlivec i hi
      obtain ⟨lj, tj⟩ := hlivec j hj
      rw [hφc] at hbi hbj
      exact hτinj i j li lj (hr.ok.inj _ _ b ti tj hbi hbj)
    · obtain ⟨j, hj, hlj, hφj⟩ := hownc b hb
      have hdis := hr.ok.disj b ⟨_, hlj, hφj⟩
      refine ⟨?_, ?_⟩
      · rw [hIc, hBB]
        rintro (hi | ⟨id, hid, hli, hφi⟩)
        · exact hdis.1 hi
        · have := hr.ok.inj _ _ b hli hlj hφi hφj
          exact hB id hid (this ▸ hmemσ j hj)
      · rw [hTc]
        rintro (ht | ⟨id, hid, hli, hφi⟩)
        · exact hdis.2 ht
        · have := hr.ok.inj _ _ b hli hlj hφi hφj
          exact hid (this ▸ hmemσ j hj)
    · rw [hIc, hTc, hBB] at hb
      rcases hb with (hi | ⟨id, _, hli, hφi⟩) | (ht | ⟨id, _, hli, hφi⟩)
      · exact hr.ok.lt b (.inl hi)
      · exact ownlt id b hli hφi
      · exact hr.ok.lt b (.inr ht)
      · exact ownlt id b hli hφi
    · have := (hlivec j hl').1; omega
  have hac : ∀ (i : Nat) (hi : i < as2.length), RelT w φc Ic w.heap.size (hL l) (cargs.getD i undef) as2[i] := by
    intro i hi
    have h1 := hca i (by omega)
    have h2 := hargs i (by omega) hi
    have h3 := hrefs _ (List.getElem_mem hi)
    generalize as[i] = x at h1 h2
    generalize as2[i] = y at h2 h3
    generalize cargs.getD i undef = v at h1
    have one : ∀ {v : Value} {x y : AV}, RelC w φ Im base s.h v x → AvOk s.h (tau σ b0) B x y → (∀ id ∈ y.refs, id < l.length) → RelC w φc Ic w.heap.size (hL l) v y := by
      intro v x y hx hxy hy
      cases hxy with
      | plain e ho =>
        have g5 := hx.toWk (base2 := w.heap.size) ho
        rw [e] at g5
        exact (g5.unren rfl (fun id hid => hren id (hy id hid))).pim (fun b hb => by rw [hIc]; exact .inl hb)
      | @bor E id st off len xs ty cs fr hBi hh hst hlen' hE0 hE hc =>
        have := borrow hr.ok hx hh hst hlen' hE0 hE hc
        refine .sl (this.mono (fun _ _ => rfl) (fun b hb => ⟨?_, fun e => by cases e⟩))
        rw [hIc, hBB]
        rcases hb with h1 | h1
        · exact .inl h1
        · exact .inr ⟨id, hBi, ⟨ty, cs, hh⟩, h1⟩
    cases h2 with
    | c hx => exact .c (one h1.c_inv hx h3)
    | agg hl2 hx =>
      obtain ⟨arr, rfl, hs, hra⟩ := h1.agg_inv
      exact .agg (by omega) (fun k hk => one (hra k (by omega)) (hx k (by omega) hk) (fun id hid => h3 id (by simp only [AT.refs]; exact mem_refsL (by simp) hid)))
  refine CallsIn.mono (hcall w φc Ic Tc cargs hokc (by omega) hac) ?_
  rintro e w' ⟨v, r, l', φ', I', rfl, hR, hml, hok', hrel', hx, hnew⟩
  obtain ⟨hfr, hfresh, hKK⟩ := hK r l' hR
  -- names of all the callee's blocks
  have hinj : ∀ i j, i < l'.length → j < l'.length → tau σ b0 i = tau σ b0 j → i = j := by
    intro i j hi hj e
    rcases Nat.lt_or_ge i l.length with h1 | h1 <;> rcases Nat.lt_or_ge j l.length with h2 | h2
    · exact hτinj i j h1 h2 e
    · obtain ⟨b, hb, _⟩ := hσ i h1
      rw [e, (hfr j h2 hj).1] at hb; cases hb
    · obtain ⟨b, hb, _⟩ := hσ j h2
      rw [← e, (hfr i h1 hi).1] at hb; cases hb
    · rw [tau_ge (by omega), tau_ge (by omega)] at e; omega
  obtain ⟨H, hH⟩ : ∃ H, H = mergeL (tau σ b0) 0 l' s.h := ⟨_, rfl⟩
  have hHin : ∀ j (hj : j < l'.length), H (tau σ b0 j) = some (bren (tau σ b0) l'[j]) := fun j hj => by
    have := mergeL_in (τ := tau σ b0) (h := s.h) l' 0 j hj (fun i hi i' hi' e => hinj i i' hi hi' (by simpa using e))
    rw [hH]; simpa using this
  have hHout : ∀ id, (∀ j, j < l'.length → tau σ b0 j ≠ id) → H id = s.h id := fun id hn => by
    rw [hH]; exact mergeL_out l' 0 id (fun j hj => by simpa using hn j hj)
  obtain ⟨Φ, hΦin, hΦout⟩ : ∃ Φ : Nat → Option Nat, (∀ j, j < l'.length → Φ (tau σ b0 j) = φ' j) ∧ (∀ id, (∀ j, j < l'.length → tau σ b0 j ≠ id) → Φ id = φ id) := by
    refine ⟨fun id => @dite _ (∃ j, j < l'.length ∧ tau σ b0 j = id) (Classical.propDecidable _) (fun hex => φ' (Classical.choose hex)) (fun _ => φ id), fun j hj => ?_, fun id hn => ?_⟩
    · have hex : ∃ i, i < l'.length ∧ tau σ b0 i = tau σ b0 j := ⟨j, hj, rfl⟩
      have := Classical.choose_spec hex
      exact (dif_pos hex).trans (by rw [hinj _ _ this.1 hj this.2])
    · exact dif_neg (by rintro ⟨j, hj, e⟩; exact hn j hj e)
  obtain ⟨ι, hι⟩ : ∃ ι : Nat → Nat, ∀ j, j < l'.length → ι (tau σ b0 j) = j := by
    refine ⟨fun id => @dite _ (∃ j, j < l'.length ∧ tau σ b0 j = id) (Classical.propDecidable _) (fun hex => Classical.choose hex) (fun _ => 0), fun j hj => ?_⟩
    have hex : ∃ i, i < l'.length ∧ tau σ b0 i = tau σ b0 j := ⟨j, hj, rfl⟩
    have := Classical.choose_spec hex
    exact (dif_pos hex).trans (hinj _ _ this.1 hj this.2)
  have hcase : ∀ id, (∃ j, j < l'.length ∧ tau σ b0 j = id) ∨ (∀ j, j < l'.length → tau σ b0 j ≠ id) := by
    intro id
    by_cases hex : ∃ j, j < l'.length ∧ tau σ b0 j = id
    · exact .inl hex
    · exact .inr (fun j hj e => hex ⟨j, hj, e⟩)
  have hdom : ∀ {j}, hL l' j ≠ none → j < l'.length := fun {j} hj => by
    rcases Nat.lt_or_ge j l'.length with h1 | h1
    · exact h1
    · exact absurd (by simp [hL, List.getElem?_eq_none h1]) hj
  have hliveH : ∀ j, j < l'.length → Live H (tau σ b0 j) → Live (hL l') j := by
    rintro j hj ⟨ty, cs, h1⟩
    rw [hHin j hj] at h1
    cases hb : l'[j] with
    | none => rw [hb] at h1; simp [bren] at h1
    | some p => exact ⟨p.1, p.2, by simp [hL, hj, hb]⟩
  have hback : ∀ id, id < l'.length → RenOk ι φ' (hL l') Φ H (tau σ b0 id) := by
    intro id hid
    refine ⟨by rw [hHin id hid]; simp, fun ty2 cs2 he => ⟨?_, by rw [hι id hid]; exact hΦin id hid⟩⟩
    rw [hHin id hid] at he
    rw [hι id hid]
    cases hb : l'[id] with
    | none => rw [hb] at he; simp [bren] at he
    | some p =>
      rw [hb] at he
      simp only [bren, Option.map_some, Option.some.injEq, Prod.mk.injEq] at he
      refine ⟨p.1, p.2, by simp [hL, hid, hb], ?_⟩
      rw [← he.2]; simp [renL_map]
  -- what the caller may read behind the call
  obtain ⟨I2, hI2⟩ : ∃ I2 : Nat → Prop, I2 = fun b => I' b ∧ ¬ BB b := ⟨_, rfl⟩
  have hBBlt : ∀ b, BB b → b < w.heap.size := by
    intro b hb; rw [hBB] at hb; obtain ⟨id, _, h1, h2⟩ := hb; exact ownlt id b h1 h2
  have hBnil : B = [] → ∀ b, ¬ BB b := by
    rintro rfl b hb; rw [hBB] at hb; obtain ⟨id, hid, _⟩ := hb; cases hid
  have toI2 : ∀ {v : Value} {x : AV}, (B = [] ∨ x.fresh) → RelC w' φ' I' w.heap.size (hL l') v x → RelC w' φ' I2 w.heap.size (hL l') v x := by
    intro v x hf hx1
    rcases hf with h0 | hf
    · exact hx1.pim (fun b hb => by rw [hI2]; exact ⟨hb, hBnil h0 b⟩)
    · exact hx1.fresher hf (fun b hb hge => by rw [hI2]; exact ⟨hb, fun h => by have := hBBlt b h; omega⟩)
  have toI2T : (B = [] ∨ r.fresh) → RelT w' φ' I2 w.heap.size (hL l') v r := by
    intro hf
    rcases hf with h0 | hf
    · have : ∀ {v : Value} {x : AT}, RelT w' φ' I' w.heap.size (hL l') v x → RelT w' φ' I2 w.heap.size (hL l') v x := by
        intro v x hx1
        induction hx1 with
        | c hx => exact .c (toI2 (.inl h0) hx)
        | agg hs hr => exact .agg hs (fun i hi => toI2 (.inl h0) (hr i hi))
        | tup hs _ ih => exact .tup hs ih
      exact this hrel'
    · exact hrel'.fresher hf (fun b hb hge => by rw [hI2]; exact ⟨hb, fun h => by have := hBBlt b h; omega⟩)
  have hIsub : ∀ b, Im b → I2 b := by
    intro b hb
    rw [hI2]
    refine ⟨hx.pi b (by rw [hIc]; exact .inl hb), ?_⟩
    rw [hBB]; rintro ⟨id, _, h1, h2⟩
    exact (hr.ok.disj b ⟨id, h1, h2⟩).1 hb
  have hI2' : ∀ b, I2 b → Im b ∨ Own φc (hL l) b ∨ w.heap.size ≤ b := by
    intro b hb
    rw [hI2] at hb
    rcases hx.pi' b hb.1 with h1 | h1 | h1
    · rw [hIc] at h1
      rcases h1 with h2 | h2
      · exact .inl h2
      · exact absurd h2 hb.2
    · exact .inr (.inl h1)
    · exact .inr (.inr h1)
  have hkeep : ∀ id b, (∀ j, j < l'.length → tau σ b0 j ≠ id) → Live s.h id → φ id = some b → w'.heap[b]? = w.heap[b]? := by
    intro id b hn hli hφi
    refine hx.same b (.inr ?_)
    rw [hTc]
    exact .inr ⟨id, fun hm => by
      obtain ⟨j, hj, rfl⟩ := List.getElem_of_mem hm
      exact hn j (by omega) (by rw [tau_lt hj]), hli, hφi⟩
  have hstp : Stp w φ Im Th s.h w' Φ I2 H := by
    refine ⟨hx.size, hx.os, hx.tape, hx.output, fun b hb => hx.same b (hb.imp (fun h => by rw [hIc]; exact .inl h) (fun h => by rw [hTc]; exact .inl h)), fun b hlt hn => hx.all b hlt (fun ho => by obtain ⟨j, _, h1, h2⟩ := hownc b ho; exact hn ⟨_, h1, h2⟩), hIsub, fun b hb => ?_, fun b hb => ?_, hx.cells, fun id hid => ?_⟩
    · obtain ⟨id, hli, hφi⟩ := hb
      rcases hcase id with ⟨j, hj, rfl⟩ | hn
      · rw [hΦin j hj] at hφi
        rcases hx.own b ⟨j, hliveH j hj hli, hφi⟩ with h1 | h1
        · obtain ⟨k, _, h2, h3⟩ := hownc b h1
          exact .inl ⟨_, h2, h3⟩
        · exact .inr h1
      · rw [hΦout id hn] at hφi
        obtain ⟨ty, cs, h1⟩ := hli
        rw [hHout id hn] at h1
        exact .inl ⟨id, ⟨ty, cs, h1⟩, hφi⟩
    · rcases hI2' b hb with h1 | h1 | h1
      · exact .inl h1
      · obtain ⟨k, _, h2, h3⟩ := hownc b h1
        exact .inr (.inl ⟨_, h2, h3⟩)
      · exact .inr (.inr h1)
    · rcases hcase id with ⟨j, hj, rfl⟩ | hn
      · refine ⟨by rw [hHin j hj]; simp, fun ty' cs' he => ?_⟩
        rcases Nat.lt_or_ge j l.length with h1 | h1
        · obtain ⟨⟨ty2, cs2, e2, l2⟩, p2⟩ := (hback j hj).2 ty' cs' he
          rw [hι j hj] at e2
          obtain ⟨ty3, cs3, e3, l3, p3, q3⟩ := (hx.ids j h1 (by simp [hL, h1])).2 ty2 cs2 e2
          obtain ⟨_, cs0, e4, l4, _⟩ := hblk j ty3 cs3 e3
          have l5 : cs0.length = cs3.length := by have := congrArg List.length l4; simpa [renL_map] using this
          refine ⟨ty3, cs0, e4, by omega, fun e => ?_, fun b hb => ?_⟩
          · rw [hΦin j hj, p3 (by omega), hφc]
          · rw [hΦin j hj] at hb
            have := q3 b hb
            rw [hφc] at this; exact this
        · exact absurd (hfr j h1 hj).1 hid
      · refine ⟨by rw [hHout id hn]; exact hid, fun ty' cs' he => ?_⟩
        rw [hHout id hn] at he
        exact ⟨ty', cs', he, Nat.le_refl _, fun _ => hΦout id hn, fun b hb => by rw [hΦout id hn] at hb; exact .inl hb⟩
  have hownC : ∀ j b, j < l'.length → Live (hL l') j → φ' j = some b → (∃ k, k < l.length ∧ Live s.h (tau σ b0 k) ∧ φ (tau σ b0 k) = some b) ∨ w.heap.size ≤ b := by
    intro j b hj hlj hφj
    rcases hx.own b ⟨j, hlj, hφj⟩ with h1 | h1
    · exact .inl (hownc b h1)
    · exact .inr h1
  have hokH : Ok w' Φ I2 Th base H := by
    refine ⟨fun id ty cs hid => ?_, fun i j b hi hj hbi hbj => ?_, fun b hb => ?_, fun b hb => ?_, fun id b h16' hli hφi => ?_, Nat.le_trans hb hx.size⟩
    · rcases hcase id with ⟨j, hj, rfl⟩ | hn
      · have hid0 := hid
        rw [hHin j hj] at hid
        cases hbj : l'[j] with
        | none => rw [hbj] at hid; simp [bren] at hid
        | some p =>
          rw [hbj] at hid
          simp only [bren, Option.map_some, Option.some.injEq, Prod.mk.injEq] at hid
          obtain ⟨rfl, rfl⟩ := hid
          rcases hok'.heap j p.1 p.2 (by simp [hL, hj, hbj]) with ⟨g1, g2⟩ | ⟨b, c, g1, g2, g3, g4⟩
          · exact .inl ⟨by rw [hΦin j hj]; exact g1, by rw [g2]; rfl⟩
          · refine .inr ⟨b, c, by rw [hΦin j hj]; exact g1, g2, by rw [renL_map]; simpa using g3, fun k hk => ?_⟩
            have hk' : k < p.2.length := by rw [renL_map] at hk; simpa using hk
            have hfx : B = [] ∨ (p.2[k]).fresh := by
              rcases hfresh with h0 | h0
              · exact .inl h0
              · exact .inr (h0.2 l'[j] (by simp) p (by rw [hbj]) _ (by simp))
            have g5 := toI2 hfx (g4 k hk')
            have g6 := (g5.basele (base2 := base) hb).into (τ := tau σ b0) (ι := ι) (φ2 := Φ) (h2 := H) (fun id hid => hι id (hdom (g5.dom id hid))) (fun id hid => hback id (hdom (g5.dom id hid)))
            simpa [renL_map] using g6
      · rw [hHout id hn] at hid
        rcases hr.ok.heap id ty cs hid with ⟨g1, g2⟩ | ⟨b, c, g1, g2, g3, g4⟩
        · exact .inl ⟨by rw [hΦout id hn]; exact g1, g2⟩
        · exact .inr ⟨b, c, by rw [hΦout id hn]; exact g1, (hkeep id b hn ⟨ty, cs, hid⟩ g1).trans g2, g3, fun k hk => (g4 k hk).mono hstp⟩
    · rcases hcase i with ⟨i', hi', rfl⟩ | hni <;> rcases hcase j with ⟨j', hj', rfl⟩ | hnj
      · rw [hΦin _ hi'] at hbi; rw [hΦin _ hj'] at hbj
        rw [hok'.inj i' j' b (hliveH _ hi' hi) (hliveH _ hj' hj) hbi hbj]
      · exfalso
        rw [hΦin _ hi'] at hbi; rw [hΦout _ hnj] at hbj
        obtain ⟨ty, cs, h1⟩ := hj
        rw [hHout _ hnj] at h1
        rcases hownC i' b hi' (hliveH _ hi' hi) hbi with ⟨k, hk, hlk, hφk⟩ | hge
        · exact hnj k (by omega) (hr.ok.inj _ _ b hlk ⟨ty, cs, h1⟩ hφk hbj)
        · have := ownlt j b ⟨ty, cs, h1⟩ hbj; omega
      · exfalso
        rw [hΦin _ hj'] at hbj; rw [hΦout _ hni] at hbi
        obtain ⟨ty, cs, h1⟩ := hi
        rw [hHout _ hni] at h1
        rcases hownC j' b hj' (hliveH _ hj' hj) hbj with ⟨k, hk, hlk, hφk⟩ | hge
        · exact hni k (by omega) (hr.ok.inj _ _ b hlk ⟨ty, cs, h1⟩ hφk hbi)
        · have := ownlt i b ⟨ty, cs, h1⟩ hbi; omega
      · rw [hΦout _ hni] at hbi; rw [hΦout _ hnj] at hbj
        obtain ⟨ty, cs, h1⟩ := hi
        obtain ⟨ty2, cs2, h2⟩ := hj
        rw [hHout _ hni] at h1; rw [hHout _ hnj] at h2
        exact hr.ok.inj _ _ b ⟨ty, cs, h1⟩ ⟨ty2, cs2, h2⟩ hbi hbj
    · obtain ⟨id, hli, hφi⟩ := hb
      rcases hcase id with ⟨j, hj, rfl⟩ | hn
      · rw [hΦin j hj] at hφi
        have := hok'.disj b ⟨j, hliveH j hj hli, hφi⟩
        exact ⟨fun h => this.1 (by rw [hI2] at h; exact h.1), fun h => this.2 (by rw [hTc]; exact .inl h)⟩
      · rw [hΦout id hn] at hφi
        obtain ⟨ty, cs, h1⟩ := hli
        rw [hHout id hn] at h1
        have hd0 := hr.ok.disj b ⟨id, ⟨ty, cs, h1⟩, hφi⟩
        refine ⟨fun h => ?_, hd0.2⟩
        rcases hI2' b h with g1 | g1 | g1
        · exact hd0.1 g1
        · obtain ⟨k, hk, h2, h3⟩ := hownc b g1
          exact hn k (by omega) (hr.ok.inj _ _ b h2 ⟨ty, cs, h1⟩ h3 hφi)
        · have := ownlt id b ⟨ty, cs, h1⟩ hφi; omega
    · rcases hb with h1 | h1
      · exact hok'.lt b (.inl (by rw [hI2] at h1; exact h1.1))
      · exact Nat.lt_of_lt_of_le (hr.ok.lt b (.inr h1)) hx.size
    · rcases hcase id with ⟨j, hj, rfl⟩ | hn
      · rw [hΦin j hj] at hφi
        rcases Nat.lt_or_ge j l.length with h1 | h1
        · obtain ⟨ty, cs, hjl⟩ := hliveH j hj hli
          obtain ⟨ty3, cs3, e3, l3, p3, q3⟩ := (hx.ids j h1 (by simp [hL, h1])).2 ty cs hjl
          rcases q3 b hφi with g1 | g1
          · rw [hφc] at g1
            obtain ⟨_, cs0, e4, _⟩ := hblk j ty3 cs3 e3
            exact hr.ok.new _ _ h16' ⟨ty3, cs0, e4⟩ g1
          · exact Nat.le_trans hb g1
        · exact Nat.le_trans hb (hnew j b h1 (hliveH j hj hli) hφi)
      · rw [hΦout id hn] at hφi
        obtain ⟨ty, cs, h1⟩ := hli
        rw [hHout id hn] at h1
        exact hr.ok.new _ _ h16' ⟨ty, cs, h1⟩ hφi
  have hfin : RelT w' Φ I2 base H v (r.ren (tau σ b0)) := by
    have g5 := toI2T (hfresh.imp id (fun h => h.1))
    exact (g5.basele (base2 := base) hb).into (τ := tau σ b0) (ι := ι) (φ2 := Φ) (h2 := H) (fun id hid => hι id (hdom (g5.dom id hid))) (fun id hid => hback id (hdom (g5.dom id hid)))
  have hr2 : RelS w' Φ I2 Th base C.N D ⟨s.t, H⟩ a := ⟨hokH, hr.size, (let ⟨ms, h1, h2⟩ := hr.defers; ⟨ms, h1, h2.of hr.ok hstp.all hstp.pi'⟩), fun k x hk => (hr.tmps k x hk).mono hstp⟩
  have hr3 := hr2.put hd hfin
  refine ⟨v, _, Φ, I2, rfl, hKK, ?_, ?_⟩
  · rw [hH] at hr3; exact hr3
  · have : (ASt.put ⟨s.t, mergeL (tau σ b0) 0 l' s.h⟩ d (r.ren (tau σ b0))).h = H := by rw [hH]; cases d <;> rfl
    rw [this]
    exact hstp.ext
end
end
end Go.Ab
