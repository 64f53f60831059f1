/- THE MACHINE DOES WHAT 'eff' SAYS. -/
import Derived.Test.YtpikidekdeglcaaAb9
namespace Go.Ab
open Go

section
variable {P : Program} {w w' : World} {φ : Nat → Option Nat} {Im Th : Nat → Prop} {base N : Nat} {D : List Deferred} {s : ASt} {a : Act}

/-- the value of an operation that turns nothing -/
def ValOk (P : Program) (w : World) (φ : Nat → Option Nat) (Im : Nat → Prop) (base : Nat) (h : Heap) (r : Sem Value) (x : AT) : Prop :=
  ∃ v, r.run P w = .ok v w ∧ RelT w φ Im base h v x

theorem tk_spec {t : TypeId} {k : TK} (h : (tiOf P t).map TI.k = some k) : ∃ i, tiOf P t = some i ∧ i.k = k := by
  cases hi : tiOf P t with
  | none => rw [hi] at h; cases h
  | some i => rw [hi] at h; cases h; exact ⟨i, rfl, rfl⟩

theorem slE_spec {t e : TypeId} {ie : TI} (h : slE P t = some (e, ie)) : ∃ i, tiOf P t = some i ∧ i.k = .slice e ∧ tiOf P e = some ie := by
  unfold slE at h
  split at h
  · rename_i e' hk
    obtain ⟨i, hi, hik⟩ := tk_spec hk
    cases he : tiOf P e' with
    | none => rw [he] at h; cases h
    | some j => rw [he] at h; cases h; exact ⟨i, hi, hik, he⟩
  · cases h

theorem arE_spec {t : TypeId} {n : Nat} {ie : TI} (h : arE P t = some (n, ie)) : ∃ i e, tiOf P t = some i ∧ i.k = .array n e ∧ tiOf P e = some ie := by
  unfold arE at h
  split at h
  · rename_i n' e' hk
    obtain ⟨i, hi, hik⟩ := tk_spec hk
    cases he : tiOf P e' with
    | none => rw [he] at h; cases h
    | some j => rw [he] at h; cases h; exact ⟨i, e', hi, hik, he⟩
  · cases h

theorem vals_arr {h : Heap} {arr : Array Value} {cs : List AV} {vs : List Value} (hs : arr.size = cs.length) (hr : ∀ (i : Nat) (hi : i < cs.length), RelC w φ Im base h (arr.getD i undef) cs[i]) (hv : valsOf cs = some vs) : arr = vs.toArray := by
  have key : ∀ (cs : List AV) (vs : List Value) (l : List Value), l.length = cs.length → (∀ (i : Nat) (hi : i < cs.length), RelC w φ Im base h (l.getD i undef) cs[i]) → valsOf cs = some vs → l = vs := by
    intro cs
    induction cs with
    | nil => intro vs l hl _ he; cases he; exact List.eq_nil_of_length_eq_zero (by simpa using hl)
    | cons c cs ih =>
      intro vs l hl hr he
      cases l with
      | nil => simp at hl
      | cons u l =>
        have h0 := hr 0 (by simp)
        simp only [List.getD_cons_zero, List.getElem_cons_zero] at h0
        cases c <;> simp only [valsOf] at he <;> try cases he
        rename_i v
        cases hvs : valsOf cs with
        | none => rw [hvs] at he; cases he
        | some vs' =>
          rw [hvs] at he; cases he
          have := ih vs' l (by simpa using hl) (fun i hi => hr (i + 1) (by simp; omega)) hvs
          rw [this, h0.s_inv]
  apply Array.ext'
  exact key cs vs arr.toList (by simpa using hs) (fun i hi => by
    have := hr i hi
    have hlt : i < arr.size := by omega
    simpa [hlt] using this) hv

theorem val_move {h : Heap} {x : Option AT} {v : Value} {c : Prop} {y : AT} (hx : ∀ t, x = some t → RelT w φ Im base h v t) (he : effMove x = .val c y) : RelT w φ Im base h v y := by
  unfold effMove at he
  split at he
  · cases he; exact hx _ rfl
  · cases he

theorem run_eq_bool {t : TypeId} (a b : Bool) (ht : P.underlying t = some .bool) : (Op.equal t (.bool a) (.bool b)).run P w = .ok (a == b) w := by
  show (Op.equalIn (9999 + 1) t (.bool a) (.bool b)).run P w = _
  generalize 9999 = d
  simp [Op.equalIn, run_underlying ht]

theorem run_eq_fnil {t : TypeId} (f : Fn) (x c : Array Value) {ps rs : Array TypeId} {vv : Bool} (ht : P.underlying t = some (.func ps rs vv)) : (Op.equal t (.func f x c) .nilFunc).run P w = .ok false w := by
  show (Op.equalIn (9999 + 1) t (.func f x c) .nilFunc).run P w = _
  generalize 9999 = d
  simp [Op.equalIn, run_underlying ht]

theorem val_bin {h : Heap} {op : BinOp} {t : TypeId} {x y : Option AT} {u v : Value} (ox oy : Operand) {c : Prop} {r : AT} (hx : ∀ t, x = some t → RelT w φ Im base h u t) (hy : ∀ t, y = some t → RelT w φ Im base h v t)
    (he : effBin P op t x y = .val c r) (hc : c) : ValOk P w φ Im base h (do eqGuard op t ox oy u v; binOp op t u v) r := by
  unfold effBin at he
  split at he
  · have e1 := RelT.s_inv (hx _ rfl); have e2 := RelT.s_inv (hy _ rfl)
    subst e1; subst e2; cases he
    refine ⟨_, run_intBin t ox oy hc, .c (.s ?_)⟩
    cases op <;> rfl
  · have e1 := RelT.s_inv (hx _ rfl); have e2 := RelT.s_inv (hy _ rfl)
    subst e1; subst e2; cases he
    refine ⟨_, run_strBin t ox oy hc, .c (.s ?_)⟩
    cases op <;> rfl
  · have e1 := RelT.s_inv (hx _ rfl); have e2 := RelT.s_inv (hy _ rfl)
    subst e1; subst e2
    split at he <;> cases he
    · obtain ⟨i, hi, hk⟩ := tk_spec hc
      exact ⟨_, by simp [eqGuard, binOp, run_eq_bool _ _ (under_bool hi hk)], .c (.s rfl)⟩
    · obtain ⟨i, hi, hk⟩ := tk_spec hc
      exact ⟨_, by simp [eqGuard, binOp, run_eq_bool _ _ (under_bool hi hk)], .c (.s rfl)⟩
  · obtain ⟨ax, rfl, hs1, hr1⟩ := (hx _ rfl).agg_inv
    obtain ⟨ay, rfl, hs2, hr2⟩ := (hy _ rfl).agg_inv
    split at he <;> cases he
    · obtain ⟨vx, vy, h1, h2, hg, hrun⟩ := hc
      have e1 := vals_arr hs1 hr1 h1; have e2 := vals_arr hs2 hr2 h2
      subst e1; subst e2
      exact ⟨_, by simp [eqGuard, binOp, hg, hrun w], .c (.s rfl)⟩
    · obtain ⟨vx, vy, h1, h2, hg, hrun⟩ := hc
      have e1 := vals_arr hs1 hr1 h1; have e2 := vals_arr hs2 hr2 h2
      subst e1; subst e2
      exact ⟨_, by simp [eqGuard, binOp, hg, hrun w], .c (.s rfl)⟩
  · split at he <;> cases he
  · have e2 := RelT.s_inv (hy _ rfl)
    have e1 := (hx _ rfl).c_inv
    subst e2
    cases e1 with
    | fn hs hr =>
      split at he <;> cases he
      · obtain ⟨i, ps, rs, vv, _, hu⟩ := hc
        exact ⟨_, by simp [eqGuard, binOp, run_eq_fnil _ _ _ hu], .c (.s rfl)⟩
      · obtain ⟨i, ps, rs, vv, _, hu⟩ := hc
        exact ⟨_, by simp [eqGuard, binOp, run_eq_fnil _ _ _ hu], .c (.s rfl)⟩
  · cases he

theorem run_eq_slnil {t e : TypeId} (b : Option Addr) (n m : Nat) (ht : P.underlying t = some (.slice e)) : (Op.equal t (.slice b n m) (.slice none 0 0)).run P w = .ok b.isNone w := by
  show (Op.equalIn (9999 + 1) t (.slice b n m) (.slice none 0 0)).run P w = _
  generalize 9999 = d
  cases b <;> simp [Op.equalIn, run_underlying ht]

/-- one of two -/
theorem alt_bin {h : Heap} {op : BinOp} {t : TypeId} {x y : Option AT} {u v : Value} (ox oy : Operand) {c p : Prop} {r1 r2 : AT} (hx : ∀ t, x = some t → RelT w φ Im base h u t) (hy : ∀ t, y = some t → RelT w φ Im base h v t)
    (he : effBin P op t x y = .alt c p r1 r2) (hc : c) : (p ∧ ValOk P w φ Im base h (do eqGuard op t ox oy u v; binOp op t u v) r1) ∨ ValOk P w φ Im base h (do eqGuard op t ox oy u v; binOp op t u v) r2 := by
  unfold effBin at he
  split at he
  · cases he
  · cases he
  · split at he <;> cases he
  · split at he <;> cases he
  · have e2 := RelT.s_inv (hy _ rfl)
    have e1 := (hx _ rfl).c_inv
    subst e2
    have key : ∀ {xs : List (List PV)}, (∃ fr, RelC w φ Im base h u (.sl fr xs)) → (∃ e, (tiOf P t).map TI.k = some (.slice e)) → ∃ b n m, u = .slice b n m ∧ (b.isNone = true → xs = []) ∧ (Op.equal t (.slice b n m) (.slice none 0 0)).run P w = .ok b.isNone w := by
      rintro xs ⟨fr, hx⟩ ⟨e, he⟩
      obtain ⟨i, hi, hk⟩ := tk_spec he
      cases hx with
      | sl hp =>
        cases hp with
        | nil => exact ⟨_, _, _, rfl, fun _ => rfl, run_eq_slnil _ _ _ (under_slice hi hk)⟩
        | sl => exact ⟨_, _, _, rfl, (fun h => by cases h), run_eq_slnil _ _ _ (under_slice hi hk)⟩
    split at he <;> cases he
    · obtain ⟨b, n, m, rfl, h1, h2⟩ := key ⟨_, e1⟩ hc
      cases hb : b.isNone with
      | true => exact .inl ⟨h1 hb, _, by simp [eqGuard, binOp, h2, hb], .c (.s rfl)⟩
      | false => exact .inr ⟨_, by simp [eqGuard, binOp, h2, hb], .c (.s rfl)⟩
    · obtain ⟨b, n, m, rfl, h1, h2⟩ := key ⟨_, e1⟩ hc
      cases hb : b.isNone with
      | true => exact .inl ⟨h1 hb, _, by simp [eqGuard, binOp, h2, hb], .c (.s rfl)⟩
      | false => exact .inr ⟨_, by simp [eqGuard, binOp, h2, hb], .c (.s rfl)⟩
  · split at he <;> cases he
  · cases he

theorem val_un {h : Heap} {op : UnOp} {x : Option AT} {u : Value} {c : Prop} {r : AT} (hx : ∀ t, x = some t → RelT w φ Im base h u t) (he : effUn op x = .val c r) : ValOk P w φ Im base h (Op.unary op u) r := by
  unfold effUn at he
  split at he
  · have e1 := RelT.s_inv (hx _ rfl); subst e1
    split at he <;> cases he
    exact ⟨_, by simp [Op.unary], .c (.s rfl)⟩
  · have e1 := RelT.s_inv (hx _ rfl); subst e1
    split at he <;> cases he
    exact ⟨_, by simp [Op.unary, Op.intArith], .c (.s rfl)⟩
  · cases he

theorem val_conv {h : Heap} {src dst : TypeId} {x : Option AT} {u : Value} {c : Prop} {r : AT} (hx : ∀ t, x = some t → RelT w φ Im base h u t) (he : effConv P src dst x = .val c r) (hc : c) : ValOk P w φ Im base h (convert src dst u) r := by
  unfold effConv at he
  split at he
  · have e1 := RelT.s_inv (hx _ rfl); subst e1
    split at he <;> cases he
    rename_i k hk
    obtain ⟨i, hi, hik⟩ := tk_spec hk
    obtain ⟨j, hj⟩ := Option.isSome_iff_exists.1 hc
    obtain ⟨info, d, z, g1, g2, g3, g4, g5, g6, g7, g8⟩ := tiOf_spec hj
    refine ⟨_, ?_, .c (.s rfl)⟩
    simp only [convert, Sem.run_bind, run_underlying g2, Result.andThen_ok, run_underlying (under_int hi hik), Conv.intToInt, Sem.run_pure]
  · have e1 := RelT.s_inv (hx _ rfl); subst e1
    split at he <;> cases he
    rename_i hk1 hk2
    obtain ⟨i, hi, hik⟩ := tk_spec hk1
    obtain ⟨j, hj, hjk⟩ := tk_spec hk2
    refine ⟨_, ?_, .c (.s rfl)⟩
    simp only [convert, Sem.run_bind, run_underlying (under_str hi hik), Result.andThen_ok, run_underlying (under_str hj hjk), Sem.run_pure]
  · cases he

theorem val_len {h : Heap} {t ty : TypeId} {x : Option AT} {u : Value} {c : Prop} {r : AT} (hx : ∀ t, x = some t → RelT w φ Im base h u t) (he : effLen P h t x = .val c r) (hc : c) : ValOk P w φ Im base h (Builtin.len_ #[t] ty #[u]) r := by
  unfold effLen at he
  split at he
  · have e1 := RelT.s_inv (hx _ rfl); subst e1; cases he
    obtain ⟨i, hi, hk⟩ := tk_spec hc
    exact ⟨_, run_len_str hi hk, .c (.s rfl)⟩
  · have e1 := RelT.s_inv (hx _ rfl); subst e1; cases he
    obtain ⟨e, hc⟩ := hc
    obtain ⟨i, hi, hk⟩ := tk_spec hc
    exact ⟨_, run_len_slice hi hk, .c (.s rfl)⟩
  · cases he
    obtain ⟨e, hc⟩ := hc
    obtain ⟨i, hi, hk⟩ := tk_spec hc
    obtain ⟨bs, cap, rfl⟩ := sl_shape (hx _ rfl).c_inv
    exact ⟨_, run_len_slice hi hk, .c (.s rfl)⟩
  · cases he
    obtain ⟨hcur, e, hc⟩ := hc
    obtain ⟨i, hi, hk⟩ := tk_spec hc
    obtain ⟨bs, cap, rfl⟩ := msl_shape (hx _ rfl).c_inv hcur
    exact ⟨_, run_len_slice hi hk, .c (.s rfl)⟩
  · cases he

theorem val_minmax {h : Heap} {mx : Bool} {x y : Option AT} {u v : Value} {ts : Array TypeId} {ty : TypeId} {c : Prop} {r : AT} (hx : ∀ t, x = some t → RelT w φ Im base h u t) (hy : ∀ t, y = some t → RelT w φ Im base h v t)
    (he : effMinMax mx x y = .val c r) : ValOk P w φ Im base h (if mx then Builtin.max_ ts ty #[u, v] else Builtin.min_ ts ty #[u, v]) r := by
  unfold effMinMax at he
  split at he
  · have e1 := RelT.s_inv (hx _ rfl); have e2 := RelT.s_inv (hy _ rfl); subst e1; subst e2; cases he
    refine ⟨_, ?_, .c (.s rfl)⟩
    cases mx <;> simp [Builtin.max_, Builtin.min_, Builtin.max2, Builtin.min2]
  · cases he

theorem val_fieldAddr {h : Heap} {t : TypeId} {f : Nat} {x : Option AT} {u : Value} {c : Prop} {r : AT} (hx : ∀ t, x = some t → RelT w φ Im base h u t) (he : effFieldAddr P h t f x = .val c r) (hc : c) : ValOk P w φ Im base h (Instr.fieldAt t u f) r := by
  unfold effFieldAddr at he
  split at he
  · split at he
    · rename_i fs hk
      split at he
      · rename_i off ft hf
        cases he
        obtain ⟨i, hi, hik⟩ := tk_spec hk
        obtain ⟨⟨ty, cs, hb, hst⟩, fi, hfi, hsz⟩ := hc
        obtain ⟨u', h1, h2⟩ := rel_fieldAt_own (P := P) (hx _ rfl).c_inv hb hst hi hik hf hfi hsz
        exact ⟨u', h1, .c h2⟩
      · cases he
    · cases he
  · split at he
    · rename_i fs hk
      split at he
      · rename_i off ft hf
        cases he
        obtain ⟨i, hi, hik⟩ := tk_spec hk
        obtain ⟨fi, hfi, hsz⟩ := hc
        obtain ⟨u', h1, h2⟩ := rel_fieldAt_ipt (P := P) (hx _ rfl).c_inv hi hik hf hfi hsz
        exact ⟨u', h1, .c h2⟩
      · cases he
    · cases he
  · cases he

theorem val_field {h : Heap} {t : TypeId} {f : Nat} {x : Option AT} {u : Value} {c : Prop} {r : AT} (hx : ∀ t, x = some t → RelT w φ Im base h u t) (he : effField P t f x = .val c r) (hc : c) : ValOk P w φ Im base h (Instr.field t u f) r := by
  unfold effField at he
  split at he
  · split at he
    · rename_i fs hk
      split at he
      · rename_i off ft hf
        split at he
        · rename_i fi hfi
          cases he
          obtain ⟨i, hi, hik⟩ := tk_spec hk
          exact rel_field (hx _ rfl) hi hik hf hfi hc.1 hc.2
        · cases he
      · cases he
    · cases he
  · cases he

theorem val_indexAddr {h : Heap} {t : TypeId} {x y : Option AT} {u v : Value} {c : Prop} {r : AT} (hx : ∀ t, x = some t → RelT w φ Im base h u t) (hy : ∀ t, y = some t → RelT w φ Im base h v t)
    (he : effIndexAddr P h t x y = .val c r) (hc : c) : ValOk P w φ Im base h (Instr.indexAt t u v) r := by
  unfold effIndexAddr at he
  split at he
  · have e2 := RelT.s_inv (hy _ rfl); subst e2
    split at he <;> cases he
    rename_i e ie hs
    obtain ⟨i, hi, hk, hie⟩ := slE_spec hs
    obtain ⟨u', h1, h2⟩ := rel_indexAt_sl (P := P) (hx _ rfl).c_inv hi hk hie _ hc.1 hc.2.1 hc.2.2
    exact ⟨u', h1, .c h2⟩
  · have e2 := RelT.s_inv (hy _ rfl); subst e2
    split at he <;> cases he
    rename_i e ie hs
    obtain ⟨i, hi, hk, hie⟩ := slE_spec hs
    obtain ⟨⟨ty, cs, hb, hst⟩, h0, hn, hE⟩ := hc
    obtain ⟨u', h1, h2⟩ := rel_indexAt_msl (P := P) (hx _ rfl).c_inv hb hst hi hk hie _ h0 hn hE
    exact ⟨u', h1, .c h2⟩
  · have e2 := RelT.s_inv (hy _ rfl); subst e2
    split at he <;> cases he
    rename_i n ie hs
    obtain ⟨i, e, hi, hk, hie⟩ := arE_spec hs
    obtain ⟨⟨ty, cs, hb, hst⟩, h0, hn⟩ := hc
    obtain ⟨u', h1, h2⟩ := rel_indexAt_arr (P := P) (hx _ rfl).c_inv hb hst hi hk hie _ h0 hn
    exact ⟨u', h1, .c h2⟩
  · have e2 := RelT.s_inv (hy _ rfl); subst e2
    split at he <;> cases he
    rename_i n ie hs
    obtain ⟨i, e, hi, hk, hie⟩ := arE_spec hs
    obtain ⟨u', h1, h2⟩ := rel_indexAt_arri (P := P) (hx _ rfl).c_inv hi hk hie _ hc.1 hc.2
    exact ⟨u', h1, .c h2⟩
  · cases he

theorem val_index {h : Heap} {t : TypeId} {x y : Option AT} {u v : Value} {c : Prop} {r : AT} (hx : ∀ t, x = some t → RelT w φ Im base h u t) (hy : ∀ t, y = some t → RelT w φ Im base h v t)
    (he : effIndex P t x y = .val c r) (hc : c) : ValOk P w φ Im base h (Instr.index t u v) r := by
  unfold effIndex at he
  split at he
  · have e2 := RelT.s_inv (hy _ rfl); subst e2
    split at he <;> cases he
    rename_i n ie hs
    obtain ⟨i, e, hi, hk, hie⟩ := arE_spec hs
    exact rel_index (P := P) (hx _ rfl) hi hk hie hc.1 _ hc.2.1 hc.2.2.1 hc.2.2.2
  · have e1 := RelT.s_inv (hx _ rfl); have e2 := RelT.s_inv (hy _ rfl); subst e1; subst e2
    cases he
    obtain ⟨i, hi, hk⟩ := tk_spec hc.1
    exact ⟨_, run_index_str hi hk _ hc.2.1 hc.2.2, .c (.s rfl)⟩
  · cases he

theorem val_load (hok : Ok w φ Im Th base s.h) {t : TypeId} {x : Option AT} {u : Value} {c : Prop} {r : AT} (hx : ∀ t, x = some t → RelT w φ Im base s.h u t) (he : effLoad P s.h t x = .val c r) (hc : c) :
    ValOk P w φ Im base s.h (Instr.loadAt t u) r := by
  unfold effLoad at he
  split at he
  · split at he
    · rename_i i hi
      split at he
      · rename_i ty cs hb
        cases he
        exact run_load_own hok (hx _ rfl).c_inv hb hc.1 hi hc.2.1 hc.2.2
      · cases he
    · cases he
  · split at he
    · rename_i i hi
      cases he
      exact run_load_ipt (hx _ rfl).c_inv hi hc.1 hc.2
    · cases he
  · cases he

theorem val_nil {h : Heap} {x : Option AT} {u : Value} {c : Prop} {r : AT} (hx : ∀ t, x = some t → RelT w φ Im base h u t) (he : effNil h x = .val c r) (hc : c) :
    RelT w φ Im base h u r ∧ ((∃ b, u = .pointer (some b)) ∨ ∃ f c, u = .func (.func f) #[] c) := by
  unfold effNil at he
  split at he
  · cases he
    obtain ⟨ty, cs, hb, hst⟩ := hc
    have h1 := hx _ rfl
    refine ⟨h1, .inl ?_⟩
    cases h1.c_inv with
    | ptr hid hv hst' H => obtain ⟨b, _, rfl⟩ := H ty cs hb hst; exact ⟨_, rfl⟩
  · cases he
    have h1 := hx _ rfl
    refine ⟨h1, .inl ?_⟩
    cases h1.c_inv with
    | ipt => exact ⟨_, rfl⟩
  · cases he
    have h1 := hx _ rfl
    refine ⟨h1, .inr ?_⟩
    cases h1.c_inv with
    | fn => exact ⟨_, _, rfl⟩
  · cases he

theorem val_slice (hok : Ok w φ Im Th base s.h) {t : TypeId} {x lo hi : Option AT} {u : Value} {l r : Option Value} {c : Prop} {y : AT} (hx : ∀ t, x = some t → RelT w φ Im base s.h u t) (hlo : OptRel w φ Im base s.h l lo) (hhi : OptRel w φ Im base s.h r hi)
    (he : effSlice P s.h t x lo hi = .val c y) (hc : c) : ValOk P w φ Im base s.h (Instr.sliceAt t u l r none) y := by
  unfold effSlice at he
  split at he
  · have e1 := RelT.s_inv (hx _ rfl); subst e1
    split at he <;> cases he
    rename_i l' u' hl hu
    obtain ⟨i, hi, hk⟩ := tk_spec hc.1
    exact ⟨_, run_slice_str hi hk hlo hhi hl hu hc.2.1 hc.2.2.1 hc.2.2.2, .c (.s rfl)⟩
  · split at he <;> cases he
    rename_i l' u' e ie hl hu hs
    obtain ⟨i, hi, hk, hie⟩ := slE_spec hs
    obtain ⟨v', h1, h2⟩ := rel_slice_sl (P := P) (hx _ rfl).c_inv hi hk hie hlo hhi hl hu hc.1 hc.2.1 hc.2.2.1 hc.2.2.2
    exact ⟨v', h1, .c h2⟩
  · split at he <;> cases he
    rename_i l' u' e ie hl hu hs
    obtain ⟨i, hi, hk, hie⟩ := slE_spec hs
    obtain ⟨hcur, hE, h0, h1, h2⟩ := hc
    obtain ⟨v', h1, h2⟩ := rel_slice_msl (P := P) (hx _ rfl).c_inv hcur hi hk hie hE hlo hhi hl hu h0 h1 h2
    exact ⟨v', h1, .c h2⟩
  · split at he
    · rename_i n ie hs
      split at he <;> cases he
      rename_i l' u' hl hu
      obtain ⟨i, e, hi, hk, hie⟩ := arE_spec hs
      obtain ⟨hcur, h0, h1, h2, h3, h4⟩ := hc
      obtain ⟨v', h1, h2⟩ := rel_slice_arr (P := P) (hx _ rfl).c_inv hcur hok hi hk hie hlo hhi hl hu h0 h1 h2 h3 h4
      exact ⟨v', h1, .c h2⟩
    · cases he
  · cases he
end
end Go.Ab
