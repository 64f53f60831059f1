/- MEMORY THAT IS WRITTEN OR MADE. -/
import Derived.Test.YtpikidekdeglcaaAb3
namespace Go.Ab
open Go

def upd {α : Type} (f : Nat → α) (k : Nat) (v : α) : Nat → α := fun j => if j = k then v else f j

theorem upd_same {α : Type} (f : Nat → α) (k : Nat) (v : α) : upd f k v k = v := by simp [upd]
theorem upd_ne {α : Type} (f : Nat → α) {k j : Nat} (v : α) (h : j ≠ k) : upd f k v j = f j := by simp [upd, h]

section
variable {P : Program} {w w' : World} {φ : Nat → Option Nat} {Im Th : Nat → Prop} {base N : Nat} {D : List Deferred} {s : ASt} {a : Act} {h : Heap}

theorem own_upd {id b b' : Nat} {x : TypeId × List AV} : Own (upd φ id (some b')) (upd h id (some (some x))) b → b = b' ∨ (b ≠ b' → ∃ j, j ≠ id ∧ Live h j ∧ φ j = some b) := by
  rintro ⟨j, ⟨ty, cs, hj⟩, hb⟩
  by_cases e : j = id
  · subst e; rw [upd_same] at hb; cases hb; exact .inl rfl
  · rw [upd_ne _ _ e] at hb hj
    exact .inr (fun _ => ⟨j, e, ⟨ty, cs, hj⟩, hb⟩)

/-- ONE BLOCK IS MADE, OR WRITTEN, OR GROWN (perhaps into a new place). -/
theorem one_step (hok : Ok w φ Im Th base h) (id b' : Nat) (ty : TypeId) (cs' : List AV) (c' : Array Value)
    (hsize : w.heap.size ≤ w'.heap.size) (hos : w'.os = w.os) (htape : w'.tape = w.tape) (hout : w'.output = w.output)
    (hsame : ∀ b, b < w.heap.size → b ≠ b' → w'.heap[b]? = w.heap[b]?)
    (hplace : (Live h id ∧ φ id = some b' ∧ ∃ (c : Array Value), w.heap[b']? = some (Obj.cells c ty (0, 0)) ∧ c'.size = c.size) ∨ w.heap.size ≤ b')
    (hid : h id = none ∨ ∃ ty0 cs0, h id = some (some (ty0, cs0)) ∧ cs0.length ≤ cs'.length ∧ (cs0.length = cs'.length → φ id = some b'))
    (hnew : w'.heap[b']? = some (Obj.cells c' ty (0, 0))) (hlen : cs'.length ≤ c'.size)
    (hrel : ∀ (j : Nat) (hj : j < cs'.length), RelC w φ Im base h (c'.getD j undef) cs'[j]) :
    Stp w φ Im Th h w' (upd φ id (some b')) Im (upd h id (some (some (ty, cs')))) ∧ Ok w' (upd φ id (some b')) Im Th base (upd h id (some (some (ty, cs')))) := by
  have hprot : ∀ b, Im b ∨ Th b → b ≠ b' := by
    intro b hb e
    subst e
    rcases hplace with ⟨hl, hφ, _⟩ | hge
    · have := hok.disj b ⟨id, hl, hφ⟩
      exact hb.elim this.1 this.2
    · have := hok.lt b hb; omega
  have hstp : Stp w φ Im Th h w' (upd φ id (some b')) Im (upd h id (some (some (ty, cs')))) := by
    refine ⟨hsize, hos, htape, hout, fun b hb => hsame b (hok.lt b hb) (hprot b hb), fun b hb hn => hsame b hb (fun e => by
      subst e
      rcases hplace with ⟨hl, hφ, _⟩ | hge
      · exact hn ⟨id, hl, hφ⟩
      · omega), fun _ hb => hb, ?_, fun _ hb => .inl hb, ?_, ?_⟩
    · intro b hb
      rcases own_upd hb with rfl | hother
      · rcases hplace with ⟨hl, hφ, _⟩ | hge
        · exact .inl ⟨id, hl, hφ⟩
        · exact .inr hge
      · by_cases e : b = b'
        · subst e
          rcases hplace with ⟨hl, hφ, _⟩ | hge
          · exact .inl ⟨id, hl, hφ⟩
          · exact .inr hge
        · obtain ⟨j, _, hl, hφ⟩ := hother e
          exact .inl ⟨j, hl, hφ⟩
    · intro b c T fr hb
      have hlt : b < w.heap.size := (Array.getElem?_eq_some_iff.1 hb).1
      by_cases e : b = b'
      · subst e
        rcases hplace with ⟨hl, hφ, c0, hc0, hsz⟩ | hge
        · rw [hb] at hc0; cases hc0
          exact ⟨c', hnew, hsz⟩
        · omega
      · exact ⟨c, (hsame b hlt e).trans hb, rfl⟩
    · intro j hj
      by_cases e : j = id
      · subst e
        refine ⟨by simp [upd_same], fun ty' cs'' he => ?_⟩
        rw [upd_same] at he; cases he
        rcases hid with hn | ⟨ty0, cs0, h0, hl0, hp0⟩
        · exact absurd hn hj
        · refine ⟨ty0, cs0, h0, hl0, fun e => by rw [upd_same]; exact (hp0 e).symm, fun b hb => ?_⟩
          rw [upd_same] at hb; cases hb
          rcases hplace with ⟨_, hφ, _⟩ | hge
          · exact .inl hφ
          · exact .inr hge
      · refine ⟨by rw [upd_ne _ _ e]; exact hj, fun ty' cs'' he => ?_⟩
        rw [upd_ne _ _ e] at he
        exact ⟨ty', cs'', he, Nat.le_refl _, fun _ => upd_ne _ _ e, fun b hb => by rw [upd_ne _ _ e] at hb; exact .inl hb⟩
  refine ⟨hstp, ⟨?_, ?_, ?_, ?_, ?_, Nat.le_trans hok.base_le hsize⟩⟩
  · intro j tyj csj hj
    by_cases e : j = id
    · subst e
      rw [upd_same] at hj; cases hj
      refine .inr ⟨b', c', upd_same _ _ _, hnew, hlen, fun k hk => (hrel k hk).mono hstp⟩
    · rw [upd_ne _ _ e] at hj
      rcases hok.heap j tyj csj hj with ⟨h1, h2⟩ | ⟨b, c, hφ, hw, hl, hr⟩
      · exact .inl ⟨by rw [upd_ne _ _ e]; exact h1, h2⟩
      · have hne : b ≠ b' := by
          intro e2
          subst e2
          rcases hplace with ⟨hl', hφ', _⟩ | hge
          · exact e (hok.inj _ _ b ⟨_, _, hj⟩ hl' hφ hφ')
          · have := (Array.getElem?_eq_some_iff.1 hw).1; omega
        exact .inr ⟨b, c, by rw [upd_ne _ _ e]; exact hφ, (hsame b (Array.getElem?_eq_some_iff.1 hw).1 hne).trans hw, hl, fun k hk => (hr k hk).mono hstp⟩
  · intro i j b hi hj hbi hbj
    have key : ∀ k, Live (upd h id (some (some (ty, cs')))) k → upd φ id (some b') k = some b → k ≠ id → Live h k ∧ φ k = some b := by
      intro k ⟨ty1, cs1, hk⟩ hb e
      rw [upd_ne _ _ e] at hk hb
      exact ⟨⟨ty1, cs1, hk⟩, hb⟩
    have noclash : ∀ k, Live (upd h id (some (some (ty, cs')))) k → upd φ id (some b') k = some b → k ≠ id → b ≠ b' := by
      intro k hl hb e e2
      obtain ⟨hl1, hb1⟩ := key k hl hb e
      subst e2
      rcases hplace with ⟨hl', hφ', _⟩ | hge
      · exact e (hok.inj _ _ b hl1 hl' hb1 hφ')
      · rcases hl1 with ⟨ty1, cs1, h1⟩
        rcases hok.heap k ty1 cs1 h1 with ⟨h2, _⟩ | ⟨b2, c2, hb2, hw2, _⟩
        · rw [h2] at hb1; cases hb1
        · rw [hb1] at hb2; cases hb2
          have := (Array.getElem?_eq_some_iff.1 hw2).1; omega
    by_cases ei : i = id <;> by_cases ej : j = id
    · rw [ei, ej]
    · subst ei; rw [upd_same] at hbi; cases hbi
      exact absurd rfl (noclash j hj hbj ej)
    · subst ej; rw [upd_same] at hbj; cases hbj
      exact absurd rfl (noclash i hi hbi ei)
    · obtain ⟨li, bi⟩ := key i hi hbi ei
      obtain ⟨lj, bj⟩ := key j hj hbj ej
      exact hok.inj i j b li lj bi bj
  · intro b hb
    rcases own_upd hb with rfl | hother
    · exact ⟨fun hi => hprot _ (.inl hi) rfl, fun ht => hprot _ (.inr ht) rfl⟩
    · by_cases e : b = b'
      · exact ⟨fun hi => hprot _ (.inl hi) e, fun ht => hprot _ (.inr ht) e⟩
      · obtain ⟨j, _, hl, hφ⟩ := hother e
        exact hok.disj b ⟨j, hl, hφ⟩
  · intro b hb
    exact Nat.lt_of_lt_of_le (hok.lt b hb) hsize
  · intro j b h16 hl hb
    by_cases e : j = id
    · subst e
      rw [upd_same] at hb; cases hb
      rcases hplace with ⟨hl', hφ', _⟩ | hge
      · exact hok.new _ _ h16 hl' hφ'
      · exact Nat.le_trans hok.base_le hge
    · obtain ⟨ty1, cs1, h1⟩ := hl
      rw [upd_ne _ _ e] at hb h1
      exact hok.new _ _ h16 ⟨ty1, cs1, h1⟩ hb

/-- a new block -/
theorem alloc_step (hok : Ok w φ Im Th base h) {id : Nat} (hid : h id = none) (ty : TypeId) (cs : List AV) (c : Array Value) (hlen : cs.length ≤ c.size)
    (hrel : ∀ (j : Nat) (hj : j < cs.length), RelC w φ Im base h (c.getD j undef) cs[j]) :
    Stp w φ Im Th h (w.alloc (.cells c ty)) (upd φ id (some w.heap.size)) Im (upd h id (some (some (ty, cs)))) ∧
      Ok (w.alloc (.cells c ty)) (upd φ id (some w.heap.size)) Im Th base (upd h id (some (some (ty, cs)))) :=
  one_step hok id w.heap.size ty cs c (by simp) rfl rfl rfl (fun b hb _ => by exact (by show (w.heap.push _)[b]? = _; rw [Array.getElem?_push_lt hb, Array.getElem?_eq_getElem hb])) (.inr (Nat.le_refl _)) (.inl hid) (heap_alloc_new w _) hlen hrel

/-- a block is written: as many cells as before -/
theorem write_step (hok : Ok w φ Im Th base h) {id b : Nat} {ty : TypeId} {cs cs' : List AV} (hb : h id = some (some (ty, cs))) (hφ : φ id = some b) {c c' : Array Value}
    (hw : w.heap[b]? = some (Obj.cells c ty (0, 0))) (hsz : c'.size = c.size) (hlen : cs'.length = cs.length) (hle : cs.length ≤ c.size)
    (hrel : ∀ (j : Nat) (hj : j < cs'.length), RelC w φ Im base h (c'.getD j undef) cs'[j]) :
    ∃ φ', Stp w φ Im Th h (w.setRow b c') φ' Im (upd h id (some (some (ty, cs')))) ∧ Ok (w.setRow b c') φ' Im Th base (upd h id (some (some (ty, cs')))) :=
  ⟨_, one_step hok id b ty cs' c' (by simp) rfl rfl rfl (fun k _ hk => setRow_other w b k _ hk) (.inl ⟨⟨ty, cs, hb⟩, hφ, c, hw, hsz⟩)
    (.inr ⟨ty, cs, hb, by omega, fun _ => hφ⟩) (setRow_heap w b c _ ty _ hw) (by omega) hrel⟩

/-! ### cells of values -/
def AT.cells : AT → List AV
  | .c x => [x]
  | .agg cs => cs
  | .tup _ => []

def AT.flat : AT → Bool
  | .tup _ => false
  | _ => true

theorem rel_cells {v : Value} {x : AT} (hr : RelT w φ Im base h v x) (hf : x.flat = true) :
    v.cells.size = x.cells.length ∧ ∀ (j : Nat) (hj : j < x.cells.length), RelC w φ Im base h (v.cells.getD j undef) x.cells[j] := by
  cases hr with
  | c hx =>
    have h1 := hx.oneCell
    have hc : v.cells = #[v] := by cases v <;> first | rfl | (simp [Value.oneCell'] at h1)
    rw [hc]
    refine ⟨rfl, fun j hj => ?_⟩
    simp [AT.cells] at hj
    subst hj
    exact hx
  | agg hs hr => exact ⟨hs, hr⟩
  | tup => simp [AT.flat] at hf

theorem cells_one {v : Value} {x : AT} (hr : RelT w φ Im base h v x) (hf : x.flat = true) : ∀ u ∈ v.cells.toList, u.oneCell' = true := by
  obtain ⟨hs, hc⟩ := rel_cells hr hf
  intro u hu
  obtain ⟨j, hj, rfl⟩ := List.getElem_of_mem hu
  have hj' : j < v.cells.size := by simpa using hj
  have := (hc j (by omega)).oneCell
  simpa [hj'] using this

/-- cells in the place of others -/
def splice (cs : List AV) (off : Nat) (xs : List AV) : List AV := cs.take off ++ xs ++ cs.drop (off + xs.length)

theorem splice_length {cs xs : List AV} {off : Nat} (hl : off + xs.length ≤ cs.length) : (splice cs off xs).length = cs.length := by
  simp [splice]; omega

theorem getD_splice {c : Array Value} {vs : List Value} {off j : Nat} (hl : off + vs.length ≤ c.size) :
    (c.toList.take off ++ vs ++ c.toList.drop (off + vs.length)).toArray.getD j undef = if j < off then c.getD j undef else if j < off + vs.length then vs.getD (j - off) undef else c.getD j undef := by
  have hto : (c.toList.take off).length = off := by simp; omega
  simp only [Array.getD_eq_getD_getElem?, List.getElem?_toArray, List.getD_eq_getElem?_getD]
  by_cases h1 : j < off
  · rw [if_pos h1, List.append_assoc, List.getElem?_append_left (by omega), List.getElem?_take, if_pos h1]
    simp
  · rw [if_neg h1, List.append_assoc, List.getElem?_append_right (by omega), hto]
    by_cases h2 : j < off + vs.length
    · rw [if_pos h2, List.getElem?_append_left (by omega)]
    · rw [if_neg h2, List.getElem?_append_right (by omega), List.getElem?_drop, show off + vs.length + (j - off - vs.length) = j by omega]
      simp

theorem splice_getElem {cs xs : List AV} {off j : Nat} (hl : off + xs.length ≤ cs.length) :
    (splice cs off xs)[j]? = if j < off then cs[j]? else if j < off + xs.length then xs[j - off]? else cs[j]? := by
  have hto : (cs.take off).length = off := by simp; omega
  unfold splice
  by_cases h1 : j < off
  · rw [if_pos h1, List.append_assoc, List.getElem?_append_left (by omega), List.getElem?_take, if_pos h1]
  · rw [if_neg h1, List.append_assoc, List.getElem?_append_right (by omega), hto]
    by_cases h2 : j < off + xs.length
    · rw [if_pos h2, List.getElem?_append_left (by omega)]
    · rw [if_neg h2, List.getElem?_append_right (by omega), List.getElem?_drop, show off + xs.length + (j - off - xs.length) = j by omega]

theorem rel_splice {c : Array Value} {cs xs : List AV} {vs : List Value} {off : Nat} (hl : off + xs.length ≤ cs.length) (hcs : cs.length ≤ c.size) (hvl : vs.length = xs.length)
    (hr : ∀ (j : Nat) (hj : j < cs.length), RelC w φ Im base h (c.getD j undef) cs[j]) (hx : ∀ (j : Nat) (hj : j < xs.length), RelC w φ Im base h (vs.getD j undef) xs[j]) :
    ∀ (j : Nat) (hj : j < (splice cs off xs).length), RelC w φ Im base h ((c.toList.take off ++ vs ++ c.toList.drop (off + vs.length)).toArray.getD j undef) (splice cs off xs)[j] := by
  intro j hj
  have hj0 := hj
  rw [splice_length hl] at hj
  rw [getD_splice (by omega)]
  have key : ∀ x, (splice cs off xs)[j]? = some x → (splice cs off xs)[j] = x := fun x hx => by
    rw [List.getElem?_eq_getElem hj0] at hx; cases hx; rfl
  have hs := splice_getElem (cs := cs) (xs := xs) (off := off) (j := j) hl
  by_cases h1 : j < off
  · rw [if_pos h1] at hs ⊢
    rw [key cs[j] (by rw [hs]; exact List.getElem?_eq_getElem hj)]; exact hr j hj
  · rw [if_neg h1] at hs ⊢
    by_cases h2 : j < off + xs.length
    · rw [if_pos h2] at hs
      rw [if_pos (by omega), key (xs[j - off]'(by omega)) (by rw [hs]; exact List.getElem?_eq_getElem _)]; exact hx _ _
    · rw [if_neg h2] at hs
      rw [if_neg (by omega), key cs[j] (by rw [hs]; exact List.getElem?_eq_getElem hj)]; exact hr j hj

/-! ### store -/
theorem step_store (hok : Ok w φ Im Th base h) {v u : Value} {id st off : Nat} (hx : RelC w φ Im base h v (.ptr id st off)) {ty : TypeId} {cs : List AV}
    (hb : h id = some (some (ty, cs))) (hst : cs.length = st) {t : TypeId} {i : TI} (hi : tiOf P t = some i) {x : AT} (hu : RelT w φ Im base h u x) (hf : x.flat = true) (hn : x.cells.length = i.size)
    (hlen : off + x.cells.length ≤ cs.length) :
    ∃ w' φ', (Instr.storeAt t v u).run P w = .ok () w' ∧ Stp w φ Im Th h w' φ' Im (upd h id (some (some (ty, splice cs off x.cells)))) ∧
      Ok w' φ' Im Th base (upd h id (some (some (ty, splice cs off x.cells)))) := by
  cases hx with
  | ptr hid hv hst' H =>
    obtain ⟨b, hφ, rfl⟩ := H ty cs hb hst
    obtain ⟨c, hw, hl, hcell, hr⟩ := own_cells hok hb hφ
    obtain ⟨hsz, hcells⟩ := rel_cells hu hf
    have hvl : u.cells.toList.length = x.cells.length := by simpa using hsz
    have hrun := run_storeCells_at P b off ty u.cells.toList 0 c w hw (by rw [Nat.add_zero, hvl]; omega) (cells_one hu hf)
    simp only [Nat.add_zero] at hrun
    have hrel := rel_splice (c := c) (cs := cs) (xs := x.cells) (vs := u.cells.toList) (off := off) hlen hl hvl hr (fun j hj => by
      have := hcells j hj
      have hj' : j < u.cells.size := by omega
      simpa [hj'] using this)
    obtain ⟨φ', h1, h2⟩ := write_step hok (cs' := splice cs off x.cells) hb hφ hw (c' := (c.toList.take off ++ u.cells.toList ++ c.toList.drop (off + u.cells.toList.length)).toArray)
      (by simp [hsz]; omega) (splice_length hlen) hl hrel
    refine ⟨_, φ', ?_, h1, h2⟩
    simp only [Instr.storeAt, Instr.sureAddr, Sem.run_bind, Sem.run_pure, Result.andThen_ok, storeVar, run_sizeOf' hi]
    rw [if_neg (by rw [hsz, hn]; simp)]
    exact hrun

/-! ### alloc, box -/
theorem rel_zero {t : TypeId} {i : TI} (hi : tiOf P t = some i) : ∃ z : Value, (∀ w : World, (zeroValue t).run P w = .ok z w) ∧ z.cells.size = i.zero.length ∧
    (∀ u ∈ z.cells.toList, u.oneCell' = true) ∧ ∀ (j : Nat) (hj : j < i.zero.length), RelC w φ Im base h (z.cells.getD j undef) ((i.zero.map (PV.up true))[j]'(by simpa using hj)) := by
  obtain ⟨z, hz, hm, hall⟩ := run_zeroValue' hi
  rw [List.all_eq_true] at hall
  have hl : z.cells.size = i.zero.length := by rw [← hm]; simp
  refine ⟨z, hz, hl, hall, fun j hj => ?_⟩
  have hj' : j < z.cells.size := by omega
  simp only [← hm, List.getElem_map, Array.getElem_toList, PV.up]
  rw [show z.cells.getD j undef = z.cells[j] by simp [hj']]
  exact .s (hall _ (by simp))

theorem step_alloc (hok : Ok w φ Im Th base h) {id : Nat} (hid : h id = none) {t : TypeId} {i : TI} (hi : tiOf P t = some i) :
    ∃ v w' φ', (Instr.alloc t true (.tuple #[])).run P w = .ok v w' ∧ Stp w φ Im Th h w' φ' Im (upd h id (some (some (t, i.zero.map (PV.up true))))) ∧
      Ok w' φ' Im Th base (upd h id (some (some (t, i.zero.map (PV.up true))))) ∧ RelC w' φ' Im base (upd h id (some (some (t, i.zero.map (PV.up true))))) v (.ptr id i.zero.length 0) := by
  obtain ⟨z, hz, hl, h1, hr⟩ := rel_zero (w := w) (φ := φ) (Im := Im) (base := base) (h := h) hi
  obtain ⟨g1, g2⟩ := alloc_step hok hid t (i.zero.map (PV.up true)) z.cells (by simp [hl]) (fun j hj => hr j (by simpa using hj))
  refine ⟨.pointer (some ⟨w.heap.size, 0, none⟩), _, _, ?_, g1, g2, .ptr (by simp [upd_same]) rfl (fun ty cs he => ?_) (fun ty cs he _ => ⟨_, upd_same _ _ _, rfl⟩)⟩
  · simp [Instr.alloc, hz, newVar, newRow]
  · rw [upd_same] at he; cases he; simp

theorem step_box (hok : Ok w φ Im Th base h) {id : Nat} (hid : h id = none) {t : TypeId} {u : Value} {x : AT} (hu : RelT w φ Im base h u x) (hf : x.flat = true) :
    ∃ v w' φ', (Instr.box t u).run P w = .ok v w' ∧ Stp w φ Im Th h w' φ' Im (upd h id (some (some (t, x.cells)))) ∧
      Ok w' φ' Im Th base (upd h id (some (some (t, x.cells)))) ∧ RelC w' φ' Im base (upd h id (some (some (t, x.cells)))) v (.ptr id x.cells.length 0) := by
  obtain ⟨hsz, hcells⟩ := rel_cells hu hf
  obtain ⟨g1, g2⟩ := alloc_step hok hid t x.cells u.cells (by omega) hcells
  refine ⟨.pointer (some ⟨w.heap.size, 0, none⟩), _, _, ?_, g1, g2, .ptr (by simp [upd_same]) rfl (fun ty cs he => ?_) (fun ty cs he _ => ⟨_, upd_same _ _ _, rfl⟩)⟩
  · simp [Instr.box, newVar, newRow]
  · rw [upd_same] at he; cases he; simp
end
end Go.Ab
