/- THE MACHINE DOES WHAT 'eff' SAYS: all of it. -/
import Derived.Test.YtpikidekdeglcaaAb10
namespace Go.Ab
open Go

section
variable {P : Program} {w w' : World} {φ : Nat → Option Nat} {Im Th : Nat → Prop} {base N : Nat} {D : List Deferred} {s : ASt} {a : Act}

theorem rel_evParts (hr : RelS w φ Im Th base N D s a) : ∀ (l : List (Nat × Operand)) (parts : List (Nat × AT)), evParts s l = some parts →
    (l.map fun (i, x) => (i, a.eval x)).length = parts.length ∧ ∀ (j : Nat) (hj : j < parts.length), ((l.map fun (i, x) => (i, a.eval x)).getD j (0, undef)).1 = parts[j].1 ∧ RelT w φ Im base s.h ((l.map fun (i, x) => (i, a.eval x)).getD j (0, undef)).2 parts[j].2
  | [], parts, he => by cases he; exact ⟨rfl, fun j hj => by simp at hj⟩
  | (i, x) :: r, parts, he => by
    unfold evParts at he
    split at he
    · rename_i t l' hx hl
      cases he
      obtain ⟨h1, h2⟩ := rel_evParts hr r l' hl
      refine ⟨by simpa using h1, fun j hj => ?_⟩
      cases j with
      | zero => exact ⟨rfl, rel_ev hr hx⟩
      | succ j => exact h2 j (by simpa using hj)
    · cases he

theorem rel_evCaps (hr : RelS w φ Im Th base N D s a) : ∀ (l : List Operand) (caps : List AV), evCaps s l = some caps →
    (l.map a.eval).length = caps.length ∧ ∀ (j : Nat) (hj : j < caps.length), RelC w φ Im base s.h ((l.map a.eval).getD j undef) caps[j]
  | [], caps, he => by cases he; exact ⟨rfl, fun j hj => by simp at hj⟩
  | x :: r, caps, he => by
    unfold evCaps at he
    split at he
    · rename_i v l' hx hl
      cases he
      obtain ⟨h1, h2⟩ := rel_evCaps hr r l' hl
      refine ⟨by simpa using h1, fun j hj => ?_⟩
      cases j with
      | zero => exact (rel_ev hr hx).c_inv
      | succ j => exact h2 j (by simpa using hj)
    · cases he

theorem rel_evOpt (hr : RelS w φ Im Th base N D s a) {x : Option Operand} {t : Option AT} (he : evOpt s x = some t) : OptRel w φ Im base s.h (x.map a.eval) t := by
  unfold evOpt at he
  split at he
  · cases he; exact trivial
  · split at he
    · rename_i y t' hx; cases he; exact rel_ev hr hx
    · cases he

theorem run_v {r : Sem Value} {v : Value} (h : r.run P w = .ok v w') : (do pure (Next.value (← r)) : Sem Next).run P w = .ok (.value v) w' := by
  simp [h]

/-- **AN OPERATION THAT ONLY READS** -/
theorem eff_val (hr : RelS w φ Im Th base N D s a) {o : Oper} {d : Nat} {c : Prop} {x : AT} (he : eff P s d o.op = .val c x) (hc : c) :
    ∃ v, (execOp a.eval o).run P w = .ok (.value v) w ∧ RelT w φ Im base s.h v x := by
  have ev : ∀ (y : Operand) (t : AT), s.ev y = some t → RelT w φ Im base s.h (a.eval y) t := fun y t hy => rel_ev hr hy
  obtain ⟨dst, op, type, pos, after, guard⟩ := o
  simp only at he
  unfold execOp
  simp only
  cases op <;> simp only [eff] at he <;> try cases he
  case move y => exact ⟨_, rfl, val_move (ev y) he⟩
  case assign y => exact ⟨_, rfl, val_move (ev y) he⟩
  case pick y1 y2 y3 =>
    unfold effPick at he
    split at he
    · rename_i ht
      have := RelT.s_inv (ev y1 _ ht)
      exact ⟨_, by simp [this, asBool], val_move (ev y2) he⟩
    · rename_i ht
      have := RelT.s_inv (ev y1 _ ht)
      exact ⟨_, by simp [this, asBool], val_move (ev y3) he⟩
    · cases he
  case alloc t => unfold effAlloc at he; split at he <;> cases he
  case box t y => unfold effBox at he; split at he <;> cases he
  case build t ps =>
    unfold effBuild at he
    split at he
    · rename_i parts hp
      split at he <;> cases he
      rename_i out ho
      obtain ⟨h1, h2⟩ := rel_evParts hr _ _ hp
      obtain ⟨u, h3, h4⟩ := rel_build (P := P) h1 h2 ho
      refine ⟨u, run_v ?_, h4⟩
      rw [← h3]
      congr 2
      apply Array.ext'
      simp
    · cases he
  case buildSlice t n ps => unfold effBuildSlice at he; split at he <;> (try split at he) <;> cases he
  case load t y => obtain ⟨v, h1, h2⟩ := val_load (P := P) hr.ok (ev y) he hc; exact ⟨v, run_v h1, h2⟩
  case store t y z => unfold effStore at he; split at he <;> (try split at he) <;> (try split at he) <;> cases he
  case nilCheck y =>
    obtain ⟨h1, h2⟩ := val_nil (ev y) he hc
    refine ⟨_, ?_, h1⟩
    rcases h2 with ⟨b, hb⟩ | ⟨f, cc, hb⟩ <;> simp [hb]
  case binOp op t y z yt => obtain ⟨v, h1, h2⟩ := val_bin (P := P) (w := w) y z (ev y) (ev z) he hc; exact ⟨v, run_v h1, h2⟩
  case unOp op t y => obtain ⟨v, h1, h2⟩ := val_un (P := P) (ev y) he; exact ⟨v, run_v h1, h2⟩
  case convert t u y => obtain ⟨v, h1, h2⟩ := val_conv (P := P) (ev y) he hc; exact ⟨v, run_v h1, h2⟩
  case makeFunc f first caps =>
    split at he
    · rename_i h0
      have hf : first = #[] := by apply Array.ext'; simp at h0; simp [h0]
      subst hf
      unfold effFunc at he
      split at he <;> cases he
      rename_i f' caps' hcaps
      obtain ⟨h1, h2⟩ := rel_evCaps hr _ _ hcaps
      refine ⟨.func (.func f') #[] (caps.map a.eval), by simp [Instr.makeFunc], .c (.fn (by simpa using h1) (fun i hi => ?_))⟩
      have := h2 i hi
      have hlt : i < caps.size := by simp at h1; omega
      simpa [hlt] using this
    · cases he
  case slice t y lo hi mx =>
    cases mx with
    | some m => cases he
    | none =>
      simp only [eff] at he
      split at he
      · rename_i l u hl hu
        obtain ⟨v, h1, h2⟩ := val_slice (P := P) hr.ok (ev y) (rel_evOpt hr hl) (rel_evOpt hr hu) he hc
        exact ⟨v, run_v h1, h2⟩
      · cases he
  case fieldAddr t y f => obtain ⟨v, h1, h2⟩ := val_fieldAddr (P := P) (ev y) he hc; exact ⟨v, run_v h1, h2⟩
  case field t y f => obtain ⟨v, h1, h2⟩ := val_field (P := P) (ev y) he hc; exact ⟨v, run_v h1, h2⟩
  case indexAddr t y i => obtain ⟨v, h1, h2⟩ := val_indexAddr (P := P) (ev y) (ev i) he hc; exact ⟨v, run_v h1, h2⟩
  case index t y i => obtain ⟨v, h1, h2⟩ := val_index (P := P) (ev y) (ev i) he hc; exact ⟨v, run_v h1, h2⟩
  case extract y k =>
    unfold effExtract at he
    split at he
    · rename_i l hl
      split at he <;> cases he
      rename_i hx
      obtain ⟨u, h1, h2⟩ := run_extract (P := P) (ev y _ hl) hx
      exact ⟨u, run_v h1, h2⟩
    · cases he
  case call cl =>
    obtain ⟨callee, args, ats⟩ := cl
    cases callee with
    | value f => cases he
    | invoke r m => cases he
    | builtin b =>
      simp only at he
      unfold effBuiltin at he
      have e1 : ∀ (l : List Operand), args.toList = l → args = l.toArray := fun l h => by apply Array.ext'; simpa using h
      have e2 : ∀ (l : List TypeId), ats.toList = l → ats = l.toArray := fun l h => by apply Array.ext'; simpa using h
      split at he
      · rename_i y t h1 h2
        have := e1 _ h1; have := e2 _ h2; subst_vars
        obtain ⟨v, h3, h4⟩ := val_len (P := P) (ty := type) (ev y) he hc
        exact ⟨v, by simp [resolve, invoke, builtin, h3], h4⟩
      · rename_i y z h1 
        have := e1 _ h1; subst_vars
        obtain ⟨v, h3, h4⟩ := val_minmax (P := P) (ts := ats) (ty := type) (ev y) (ev z) he
        simp only [if_true] at h3
        exact ⟨v, by simp [resolve, invoke, builtin, h3], h4⟩
      · rename_i y z h1
        have := e1 _ h1; subst_vars
        obtain ⟨v, h3, h4⟩ := val_minmax (P := P) (ts := ats) (ty := type) (ev y) (ev z) he
        simp only [Bool.false_eq_true, if_false] at h3
        exact ⟨v, by simp [resolve, invoke, builtin, h3], h4⟩
      · unfold effAppend at he
        split at he
        · split at he
          · split at he <;> cases he
          · cases he
        · split at he
          · split at he <;> cases he
          · cases he
        · cases he
      · cases he

/-- one of two outcomes -/
theorem eff_alt (hr : RelS w φ Im Th base N D s a) {o : Oper} {d : Nat} {c p : Prop} {x y : AT} (he : eff P s d o.op = .alt c p x y) (hc : c) :
    ∃ v, (execOp a.eval o).run P w = .ok (.value v) w ∧ ((p ∧ RelT w φ Im base s.h v x) ∨ RelT w φ Im base s.h v y) := by
  have ev : ∀ (y : Operand) (t : AT), s.ev y = some t → RelT w φ Im base s.h (a.eval y) t := fun y t hy => rel_ev hr hy
  have e0 : ∀ z, effMove z ≠ .alt c p x y := fun z e => by unfold effMove at e; split at e <;> cases e
  obtain ⟨dst, op, type, pos, after, guard⟩ := o
  simp only at he
  unfold execOp
  simp only
  cases op <;> simp only [eff] at he <;> try cases he
  case binOp op t y z yt =>
    rcases alt_bin (P := P) (w := w) y z (ev y) (ev z) he hc with ⟨h0, v, h1, h2⟩ | ⟨v, h1, h2⟩
    · exact ⟨v, run_v h1, .inl ⟨h0, h2⟩⟩
    · exact ⟨v, run_v h1, .inr h2⟩
  case move y => exact absurd he (e0 _)
  case assign y => exact absurd he (e0 _)
  case pick => unfold effPick at he; split at he <;> first | exact absurd he (e0 _) | cases he
  case build => unfold effBuild at he; (repeat' split at he) <;> cases he
  case load => unfold effLoad at he; (repeat' split at he) <;> cases he
  case store => unfold effStore at he; (repeat' split at he) <;> cases he
  case alloc => unfold effAlloc at he; (repeat' split at he) <;> cases he
  case box => unfold effBox at he; (repeat' split at he) <;> cases he
  case buildSlice => unfold effBuildSlice at he; (repeat' split at he) <;> cases he
  case nilCheck => unfold effNil at he; (repeat' split at he) <;> cases he
  case unOp => unfold effUn at he; (repeat' split at he) <;> cases he
  case convert => unfold effConv at he; (repeat' split at he) <;> cases he
  case makeFunc => unfold effFunc at he; (repeat' split at he) <;> cases he
  case slice t x lo hi mx =>
    cases mx with
    | some m => cases he
    | none => simp only [eff] at he; unfold effSlice at he; (repeat' split at he) <;> cases he
  case fieldAddr => unfold effFieldAddr at he; (repeat' split at he) <;> cases he
  case field => unfold effField at he; (repeat' split at he) <;> cases he
  case indexAddr => unfold effIndexAddr at he; (repeat' split at he) <;> cases he
  case index => unfold effIndex at he; (repeat' split at he) <;> cases he
  case extract => unfold effExtract at he; (repeat' split at he) <;> cases he
  case call cc =>
    obtain ⟨callee, args, ats⟩ := cc
    cases callee with
    | value f => cases he
    | invoke r m => cases he
    | builtin b =>
      simp only [eff] at he
      unfold effBuiltin at he
      (repeat' split at he) <;> try cases he
      all_goals first
        | (unfold effLen at he; (repeat' split at he) <;> cases he)
        | (unfold effMinMax at he; (repeat' split at he) <;> cases he)
        | (unfold effAppend at he; (repeat' split at he) <;> cases he)

/-- what is asked of an operation that writes or makes -/
def PutOk (P : Program) (w : World) (φ : Nat → Option Nat) (Im Th : Nat → Prop) (base : Nat) (h : Heap) (r : Sem Next) (id : Nat) (b : TypeId × List AV) (x : Option AT) : Prop :=
  ∃ w' φ', Stp w φ Im Th h w' φ' Im (upd h id (some (some b))) ∧ Ok w' φ' Im Th base (upd h id (some (some b))) ∧
    match x with
    | none => r.run P w = .ok .skip w'
    | some x => ∃ v, r.run P w = .ok (.value v) w' ∧ RelT w' φ' Im base (upd h id (some (some b))) v x

theorem upd_upd {α : Type} (f : Nat → α) (k : Nat) (u v : α) : upd (upd f k u) k v = upd f k v := by
  funext j; by_cases e : j = k
  · subst e; rw [upd_same, upd_same]
  · rw [upd_ne _ _ e, upd_ne _ _ e, upd_ne _ _ e]

/-- the second operand of an append -/
theorem src_spec (hok : Ok w φ Im Th base s.h) {E : Nat} (hE : 0 < E) {x : Option AT} {u : Value} (hx : ∀ t, x = some t → RelT w φ Im base s.h u t) {c : Prop} {m : Nat} {xs : List AV} (he : srcOf s.h E x = some (c, m, xs)) (hc : c) :
    ∃ news, Src P w E u m news ∧ xs.length = m * E ∧ news.length = xs.length ∧ ∀ (j : Nat) (hj : j < xs.length), RelC w φ Im base s.h (news.getD j undef) xs[j] := by
  unfold srcOf at he
  split at he
  · -- a slice that is read
    rename_i fr ys
    cases he
    have hv := (hx _ rfl).c_inv
    cases hv.sl_inv with
    | @nil bs cap => exact ⟨[], src_none _ _ rfl, by simp, by simp, fun j hj => by simp at hj⟩
    | @sl _ E' b off cap f hO hcap hE' hcell hrel =>
      have hfl : ys.flatten.length = ys.length * E := by
        clear hcell hrel hE' hcap hv hx
        induction ys with
        | nil => simp
        | cons y ys ih =>
          simp only [List.flatten_cons, List.length_append, List.length_cons, Nat.add_mul, Nat.one_mul]
          rw [hc y (by simp), ih (fun z hz => hc z (by simp [hz]))]
          omega
      rcases Nat.eq_zero_or_pos ys.length with h0 | hpos
      · have : ys = [] := List.eq_nil_of_length_eq_zero h0
        subst this
        exact ⟨[], src_none _ _ rfl, by simp, by simp, fun j hj => by simp at hj⟩
      have hEE : E' = E := by rw [← hE' 0 hpos]; exact hc _ (by simp)
      subst hEE
      have hget : ∀ j, (hj : j < ys.length * E') → ∃ (hi : j / E' < ys.length) (hk : j % E' < (ys[j / E']).length), ys.flatten[j]'(by omega) = ys[j / E'][j % E'] := by
        intro j hj
        have hi : j / E' < ys.length := by rw [Nat.div_lt_iff_lt_mul hE]; exact hj
        refine ⟨hi, by rw [hE' _ hi]; exact Nat.mod_lt _ hE, ?_⟩
        clear hx hv hcell hrel hcap hpos hO
        induction ys generalizing j with
        | nil => simp at hi
        | cons y ys ih =>
          have hy : y.length = E' := hc y (by simp)
          by_cases hlt : j < E'
          · have d0 : j / E' = 0 := Nat.div_eq_of_lt hlt
            have m0 : j % E' = j := Nat.mod_eq_of_lt hlt
            simp [List.flatten_cons, List.getElem_append, hy, hlt, d0, m0]
          · obtain ⟨k, rfl⟩ : ∃ k, j = k + E' := ⟨j - E', by omega⟩
            have d1 : (k + E') / E' = k / E' + 1 := Nat.add_div_right k hE
            have m1 : (k + E') % E' = k % E' := Nat.add_mod_right k E'
            have hk : k < ys.length * E' := by simp [Nat.add_mul] at hj; omega
            have := ih (fun i hi => hE' (i + 1) (by simpa using hi)) (fun z hz => hc z (by simp [hz])) (by
              clear ih
              have : (y :: ys).flatten.length = (y :: ys).length * E' := hfl
              simp only [List.flatten_cons, List.length_append, List.length_cons, Nat.add_mul, Nat.one_mul, hy] at this
              omega) k hk (by rw [Nat.div_lt_iff_lt_mul hE]; exact hk)
            simp only [List.flatten_cons, d1, m1, List.getElem_cons_succ]
            rw [List.getElem_append_right (by omega)]
            simp only [hy, Nat.add_sub_cancel]
            exact this
      refine ⟨(List.range (ys.length * E')).map (fun j => f (j / E') (j % E')), src_slice (by simp) (fun j hj => ?_) (fun v hv' => ?_), by rw [List.length_map, hfl], by rw [List.length_map (f := PV.up fr), hfl]; simp, fun j hj => ?_⟩
      · have hj' : j < ys.length * E' := by simpa using hj
        obtain ⟨hi, hk, _⟩ := hget j hj'
        rw [hE' _ hi] at hk
        have := hcell (j / E') (j % E') hi hk
        rw [show off + j / E' * E' + j % E' = off + j by rw [Nat.add_assoc, Nat.mul_comm, Nat.div_add_mod]] at this
        rw [this]
        simp [hj']
      · simp only [List.mem_map, List.mem_range] at hv'
        obtain ⟨j, hj', rfl⟩ := hv'
        obtain ⟨hi, hk, _⟩ := hget j hj'
        exact (hrel _ _ hi hk).oneCell
      · have hj' : j < ys.length * E' := by rw [List.length_map, hfl] at hj; exact hj
        obtain ⟨hi, hk, he⟩ := hget j hj'
        have := hrel _ _ hi hk
        rw [List.getElem_map, he]
        have := this.up (w := w) (φ := φ) (Im := Im) (base := base) (h := s.h) (fr := fr) (fun _ => Iff.rfl)
        simpa [hj'] using this
  · cases he
    have e1 := RelT.s_inv (hx _ rfl); subst e1
    exact ⟨[], src_none _ _ rfl, by simp, by simp, fun j hj => by simp at hj⟩
  · rename_i b
    cases he
    have e1 := RelT.s_inv (hx _ rfl); subst e1; subst hc
    refine ⟨_, src_string, by simp, by simp, fun j hj => ?_⟩
    have hj' : j < b.data.toList.length := by simpa using hj
    rw [List.getElem_map]
    have hj2 : j < b.data.size := by simpa using hj'
    have e2 : (List.map (fun x => Value.int IntKind.u8 ↑x.toNat) b.data.toList).getD j undef = Value.int IntKind.u8 ↑(b.data.toList[j]).toNat := by
      rw [List.getD_eq_getElem?_getD, List.getElem?_eq_getElem (by simpa using hj2)]
      simp
    rw [e2]
    exact .s rfl
  · rename_i E' id st off len
    split at he
    · rename_i ty cs hb
      cases he
      obtain ⟨hst, rfl, hle⟩ := hc
      have hv := (hx _ rfl).c_inv
      have hlen : ((cs.drop off).take (m * E')).length = m * E' := by simp; omega
      cases hv with
      | msl hid hv hst' H =>
        rcases H ty cs hb hst with ⟨_, h0, hl0, hve⟩ | ⟨b, off', cap, c, T, hφ, hve, hw, ho, hcap, hlc, hmax⟩
        · subst hve; subst hl0
          exact ⟨[], src_none _ _ rfl, by simp, by simp, fun j hj => by simp at hj⟩
        · subst hve
          rcases Nat.eq_zero_or_pos m with h0 | hpos
          · subst h0
            exact ⟨[], src_none _ _ rfl, by simp, by simp, fun j hj => by simp at hj⟩
          obtain rfl := ho (by omega)
          obtain ⟨c2, hw2, hl2, hcell, hr⟩ := own_cells hok hb hφ
          refine ⟨(List.range (m * E')).map (fun j => c2.getD (off' + j) undef), src_slice (by simp) (fun j hj => ?_) (fun v hv' => ?_), hlen, by simp; omega, fun j hj => ?_⟩
          · have hj' : j < m * E' := by simpa using hj
            rw [hcell (off' + j) (by omega)]
            simp [hj']
          · simp only [List.mem_map, List.mem_range] at hv'
            obtain ⟨j, hj', rfl⟩ := hv'
            exact (hr (off' + j) (by omega)).oneCell
          · have hj' : j < m * E' := by omega
            rw [List.getElem_take, List.getElem_drop]
            have := hr (off' + j) (by omega)
            simpa [hj'] using this
    · cases he
  · cases he

theorem not_int {xt : TypeId} (h : ∃ xi, tiOf P xt = some xi ∧ ∀ k, xi.k ≠ .int k) : ∃ dx, P.underlying xt = some dx ∧ ∀ k, dx ≠ .int k := by
  obtain ⟨xi, hxi, hk⟩ := h
  obtain ⟨info, d, z, g1, g2, g3, g4, g5, g6, g7, g8⟩ := tiOf_spec hxi
  refine ⟨d, g2, fun k e => ?_⟩
  subst e
  exact hk k (by rw [← g7]; rfl)

/-- **AN OPERATION THAT WRITES OR MAKES** -/
theorem eff_put (hr : RelS w φ Im Th base N D s a) {o : Oper} {d : Nat} {c : Prop} {id : Nat} {b : TypeId × List AV} {x : Option AT} (he : eff P s d o.op = .put c id b x) (hc : c) :
    PutOk P w φ Im Th base s.h (execOp a.eval o) id b x := by
  have ev : ∀ (y : Operand) (t : AT), s.ev y = some t → RelT w φ Im base s.h (a.eval y) t := fun y t hy => rel_ev hr hy
  obtain ⟨dst, op, type, pos, after, guard⟩ := o
  simp only at he
  unfold execOp
  simp only
  cases op <;> simp only [eff] at he <;> try cases he
  case move y => unfold effMove at he; split at he <;> cases he
  case assign y => unfold effMove at he; split at he <;> cases he
  case pick y1 y2 y3 => unfold effPick at he; split at he <;> (try (unfold effMove at he; split at he)) <;> cases he
  case alloc t =>
    unfold effAlloc at he
    split at he <;> cases he
    rename_i i hi
    obtain ⟨v, w', φ', h1, h2, h3, h4⟩ := step_alloc hr.ok hc hi
    exact ⟨w', φ', h2, h3, v, run_v h1, .c h4⟩
  case box t y =>
    unfold effBox at he
    split at he <;> cases he
    rename_i x hx
    obtain ⟨v, w', φ', h1, h2, h3, h4⟩ := step_box (P := P) (t := t) hr.ok hc.1 (ev y _ hx) hc.2
    exact ⟨w', φ', h2, h3, v, run_v h1, .c h4⟩
  case build t ps => unfold effBuild at he; split at he <;> (try split at he) <;> cases he
  case buildSlice t n ps =>
    unfold effBuildSlice at he
    split at he
    · rename_i parts hp
      split at he <;> cases he
      rename_i e ie hs
      obtain ⟨i, hi, hk, hie⟩ := slE_spec hs
      obtain ⟨h1, h2⟩ := rel_evParts hr _ _ hp
      obtain ⟨c1, c2, c3, c4, c5, c6⟩ := hc
      have hpl : parts.length = n := by have := congrArg List.length c5; simpa using this
      have hn0 : 0 < ie.size := c3
      have hmax : n ≤ maxLen := by
        have : n ≤ n * ie.size := Nat.le_mul_of_pos_right n hn0
        simp only [maxLen]; omega
      obtain ⟨v, w', φ', g1, g2, g3, g4⟩ := step_buildSlice (P := P) (Th := Th) hr.ok c1 hi hk hie c4 c2 c3 hmax (parts.map (·.2)) (by simpa using hpl) (ps.toList.map fun (i, x) => (i, a.eval x)) (by rw [h1, hpl])
        (fun j hj => by
          have h3 := h2 j (by omega)
          refine ⟨?_, by simpa using h3.2⟩
          rw [h3.1]
          have := congrArg (fun l : List Nat => l[j]?) c5
          simp [hj, show j < parts.length by omega] at this
          exact this) c6
      refine ⟨w', φ', g2, g3, v, run_v ?_, .c g4⟩
      rw [← g1]
      congr 2
      apply Array.ext'
      simp
    · cases he
  case load t y => unfold effLoad at he; split at he <;> (try split at he) <;> (try split at he) <;> cases he
  case store t y z =>
    unfold effStore at he
    split at he
    · rename_i id' st off x1 hy hz
      split at he
      · rename_i i hi
        split at he
        · rename_i ty cs hb
          cases he
          obtain ⟨w', φ', h1, h2, h3⟩ := step_store (P := P) hr.ok (ev y _ hy).c_inv hb hc.1 hi (ev z _ hz) hc.2.1 hc.2.2.1 hc.2.2.2
          exact ⟨w', φ', h2, h3, by simp [h1]⟩
        · cases he
      · cases he
    · cases he
  case nilCheck y => unfold effNil at he; split at he <;> cases he
  case binOp op t y z yt => unfold effBin at he; split at he <;> (try split at he) <;> cases he
  case unOp op t y => unfold effUn at he; split at he <;> (try split at he) <;> cases he
  case convert t u y => unfold effConv at he; split at he <;> (try split at he) <;> cases he
  case makeFunc f first caps => split at he <;> (try (unfold effFunc at he; split at he)) <;> cases he
  case slice t y lo hi mx =>
    cases mx with
    | some m => cases he
    | none =>
      simp only [eff] at he
      split at he
      · unfold effSlice at he; split at he <;> (try split at he) <;> (try split at he) <;> cases he
      · cases he
  case fieldAddr t y f => unfold effFieldAddr at he; split at he <;> (try split at he) <;> (try split at he) <;> cases he
  case field t y f => unfold effField at he; split at he <;> (try split at he) <;> (try split at he) <;> (try split at he) <;> cases he
  case indexAddr t y i => unfold effIndexAddr at he; split at he <;> (try split at he) <;> cases he
  case index t y i => unfold effIndex at he; split at he <;> (try split at he) <;> cases he
  case extract y k => unfold effExtract at he; split at he <;> (try split at he) <;> cases he
  case call cl =>
    obtain ⟨callee, args, ats⟩ := cl
    cases callee with
    | value f => cases he
    | invoke r m => cases he
    | builtin bb =>
      simp only at he
      unfold effBuiltin at he
      have e1 : ∀ (l : List Operand), args.toList = l → args = l.toArray := fun l h => by apply Array.ext'; simpa using h
      have e2 : ∀ (l : List TypeId), ats.toList = l → ats = l.toArray := fun l h => by apply Array.ext'; simpa using h
      split at he
      · unfold effLen at he; split at he <;> cases he
      · unfold effMinMax at he; split at he <;> cases he
      · unfold effMinMax at he; split at he <;> cases he
      · rename_i y z t u h1 h2
        have := e1 _ h1; have := e2 _ h2; subst_vars
        have fin : ∀ {v' w'}, (Builtin.append_ #[t, u] type #[a.eval y, a.eval z]).run P w = .ok v' w' →
            (execOp a.eval { dst := dst, op := .call { callee := .builtin .append, args := #[y, z], argTypes := #[t, u] }, type := type, pos := pos, after := after, guard := guard }).run P w = .ok (.value v') w' := by
          intro v' w' hrun
          simp [execOp, resolve, invoke, builtin, hrun]
        unfold effAppend at he
        split at he
        · rename_i E id' st off len hy
          split at he
          · rename_i e ie ty cs hs hb
            split at he
            · rename_i c0 m xs hsrc
              cases he
              obtain ⟨hc0, hst, rfl, rfl, rfl, rfl, hE, hz, hb1, hb2, hxt⟩ := hc
              obtain ⟨i, hi, hk, hie⟩ := slE_spec hs
              obtain ⟨news, g1, g2, g3, g4⟩ := src_spec (P := P) hr.ok hE (ev z) hsrc hc0
              obtain ⟨dx, hdx, hndx⟩ := not_int hxt
              obtain ⟨v', w', φ', r1, r2, r3, r4⟩ := step_append (P := P) (ty := type) hr.ok hi hk hie hz hdx hndx (ev y _ hy).c_inv hb hst g1 g2 g4 hb1 hb2 hE
              exact ⟨w', φ', r2, r3, v', fin r1, .c r4⟩
            · cases he
          · cases he
        · rename_i hy
          split at he
          · rename_i e ie hs
            split at he
            · rename_i c0 m xs hsrc
              cases he
              obtain ⟨hc0, hid, hE, hz, hb1, hb2, hxt⟩ := hc
              obtain ⟨i, hi, hk, hie⟩ := slE_spec hs
              obtain ⟨news, g1, g2, g3, g4⟩ := src_spec (P := P) hr.ok hE (ev z) hsrc hc0
              obtain ⟨dx, hdx, hndx⟩ := not_int hxt
              have hy' := RelT.s_inv (ev y _ hy)
              obtain ⟨n1, n2⟩ := nil_step hr.ok hid e
              obtain ⟨v', w', φ', r1, r2, r3, r4⟩ := step_append (P := P) (ty := type) (v := a.eval y) (len := 0) (cs := []) n2 hi hk hie hz hdx hndx
                (.msl (by simp [upd_same]) (by rw [hy']; rfl) (fun ty' cs' he => by rw [upd_same] at he; cases he; simp) (fun ty' cs' he _ => .inl ⟨upd_same _ _ _, rfl, rfl, hy'⟩)) (upd_same _ _ _) (by simp) g1 g2 (fun j hj => (g4 j hj).mono n1)
                (by simpa using hb1) (by simpa using hb2) hE
              rw [upd_upd] at r2 r3 r4
              simp only [List.nil_append, Nat.zero_add] at r2 r3 r4
              exact ⟨w', φ', n1.trans r2, r3, v', fin r1, .c r4⟩
            · cases he
          · cases he
        · cases he
      · cases he
end
end Go.Ab
