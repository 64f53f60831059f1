/- READING OUT OF MEMORY, AND PLACES IN IT. -/
import Derived.Test.YtpikidekdeglcaaAb2
namespace Go.Ab
open Go

section
variable {P : Program} {w : World} {φ : Nat → Option Nat} {Im Th : Nat → Prop} {base N : Nat} {D : List Deferred} {s : ASt} {a : Act} {h : Heap}

theorem getD_of_lt {α : Type} (c : Array α) (d : α) {j : Nat} (hj : j < c.size) : c[j]? = some (c.getD j d) := by
  simp [hj]

/-- `n` cells from a place on, read one by one -/
theorem run_loadCells_at {b off n : Nat} {f : Nat → Value} (hc : ∀ j, j < n → w.cell? ⟨b, off + j, none⟩ = some (f j)) :
    (loadCells ⟨b, off, none⟩ n).run P w = .ok ((List.range n).map f).toArray w := by
  have := run_loadCells_list (P := P) w ⟨b, off, none⟩ ((List.range n).map f) (fun j v hv => by
    rw [Addr.add_lit]
    simp only [List.getElem?_map, Option.map_eq_some_iff] at hv
    obtain ⟨k, hk, rfl⟩ := hv
    by_cases hj : j < n
    · rw [List.getElem?_range hj] at hk
      cases hk; exact hc _ hj
    · rw [List.getElem?_eq_none (by simp; omega)] at hk; cases hk)
  simpa using this

theorem run_load_cell {b off : Nat} {v : Value} (hc : w.cell? ⟨b, off, none⟩ = some v) : (load ⟨b, off, none⟩).run P w = .ok v w := by
  simp [hc]

theorem run_loadVar_agg {b off : Nat} {f : Nat → Value} {t : TypeId} {i : TI} (hi : tiOf P t = some i) (hk : i.k.agg = true)
    (hc : ∀ j, j < i.size → w.cell? ⟨b, off + j, none⟩ = some (f j)) :
    (loadVar t ⟨b, off, none⟩).run P w = .ok (.agg ((List.range i.size).map f).toArray) w := by
  simp [loadVar, Sem.run_bind, run_isAgg' hi, run_sizeOf' hi, hk, run_loadCells_at hc]

theorem run_loadVar_one {b off : Nat} {v : Value} {t : TypeId} {i : TI} (hi : tiOf P t = some i) (hk : i.k.agg = false)
    (hc : w.cell? ⟨b, off, none⟩ = some v) : (loadVar t ⟨b, off, none⟩).run P w = .ok v w := by
  simp [loadVar, Sem.run_bind, run_isAgg' hi, hk, hc]

/-- what a type's value is, of cells from some place on -/
def partOf (i : TI) (cs : List AV) (off : Nat) : AT :=
  if i.k.agg then .agg ((cs.drop off).take i.size) else .c (cs.getD off .junk)

theorem getD_range_map {n : Nat} {f : Nat → Value} {j : Nat} (hj : j < n) : ((List.range n).map f).toArray.getD j undef = f j := by
  simp [hj]

theorem rel_load {b off : Nat} {f : Nat → Value} {t : TypeId} {i : TI} {cs : List AV} (hi : tiOf P t = some i) (h1 : i.k.agg = false → i.size = 1)
    (hc : ∀ j, j < i.size → w.cell? ⟨b, off + j, none⟩ = some (f j)) (off' : Nat) (hlen : off' + i.size ≤ cs.length)
    (hr : ∀ (j : Nat) (hj : j < i.size), RelC w φ Im base h (f j) (cs[off' + j]'(by omega))) :
    ∃ u, (loadVar t ⟨b, off, none⟩).run P w = .ok u w ∧ RelT w φ Im base h u (partOf i cs off') := by
  cases hk : i.k.agg with
  | true =>
    refine ⟨_, run_loadVar_agg hi hk hc, ?_⟩
    simp only [partOf, hk, if_true]
    refine .agg (by simp; omega) (fun j hj => ?_)
    have hj' : j < i.size := by simp at hj; omega
    rw [getD_range_map hj', List.getElem_take, List.getElem_drop]
    exact hr j hj'
  | false =>
    have e1 := h1 hk
    refine ⟨f 0, run_loadVar_one hi hk (by simpa using hc 0 (by omega)), ?_⟩
    simp only [partOf, hk]
    have hlt : off' < cs.length := by omega
    simp only [List.getD_eq_getElem?_getD, List.getElem?_eq_getElem hlt, Option.getD_some]
    exact .c (by simpa using hr 0 (by omega))

/-- the cells of one's own block -/
theorem own_cells (hok : Ok w φ Im Th base h) {id : Nat} {ty : TypeId} {cs : List AV} (hb : h id = some (some (ty, cs))) {b : Nat} (hφ : φ id = some b) :
    ∃ c : Array Value, w.heap[b]? = some (Obj.cells c ty (0, 0)) ∧ cs.length ≤ c.size ∧ (∀ j, j < cs.length → w.cell? ⟨b, j, none⟩ = some (c.getD j undef)) ∧
      ∀ (j : Nat) (hj : j < cs.length), RelC w φ Im base h (c.getD j undef) cs[j] := by
  rcases hok.heap id ty cs hb with ⟨hn, _⟩ | ⟨b', c, hb', hw, hl, hr⟩
  · rw [hn] at hφ; cases hφ
  · rw [hφ] at hb'; cases hb'
    refine ⟨c, hw, hl, fun j hj => ?_, hr⟩
    rw [cell_of_row w b j c ty (0, 0) hw]
    exact getD_of_lt c undef (by omega)

theorem run_load_own (hok : Ok w φ Im Th base h) {v : Value} {id st off : Nat} (hx : RelC w φ Im base h v (.ptr id st off)) {ty : TypeId} {cs : List AV}
    (hb : h id = some (some (ty, cs))) (hst : cs.length = st) {t : TypeId} {i : TI} (hi : tiOf P t = some i) (h1 : i.k.agg = false → i.size = 1) (hlen : off + i.size ≤ cs.length) :
    ∃ u, (Instr.loadAt t v).run P w = .ok u w ∧ RelT w φ Im base h u (partOf i cs off) := by
  cases hx with
  | ptr hid hv hst' H =>
    obtain ⟨b, hφ, rfl⟩ := H ty cs hb hst
    obtain ⟨c, hw, hl, hcell, hr⟩ := own_cells hok hb hφ
    obtain ⟨u, hu, hrel⟩ := rel_load (P := P) (h := h) (φ := φ) (Im := Im) (base := base) (b := b) (off := off) (f := fun j => c.getD (off + j) undef) hi h1 (fun j hj => hcell (off + j) (by omega)) off hlen
      (fun j hj => hr (off + j) (by omega))
    exact ⟨u, by simp [Instr.loadAt, Instr.sureAddr, hu], hrel⟩

theorem RelP.up {O : Nat → Prop} {fr : Bool} (hO : ∀ b, O b ↔ Im b ∧ (fr = true → base ≤ b)) {v : Value} {x : PV} (hr : RelP w O v x) : RelC w φ Im base h v (x.up fr) := by
  cases x with
  | one u => cases hr with | one hv => exact .s hv
  | sl xs => exact .sl (hr.mono (fun _ _ => rfl) (fun b hb => (hO b).1 hb))

theorem run_load_ipt {v : Value} {fr : Bool} {cs : List PV} (hx : RelC w φ Im base h v (.ipt fr cs)) {t : TypeId} {i : TI} (hi : tiOf P t = some i) (h1 : i.k.agg = false → i.size = 1)
    (hlen : i.size ≤ cs.length) : ∃ u, (Instr.loadAt t v).run P w = .ok u w ∧ RelT w φ Im base h u (partOf i (cs.map (PV.up fr)) 0) := by
  cases hx with
  | @ipt _ _ b off f hO hc hr =>
    obtain ⟨u, hu, hrel⟩ := rel_load (P := P) (h := h) (φ := φ) (Im := Im) (base := base) (b := b) (off := off) (f := f) (cs := cs.map (PV.up fr)) hi h1 (fun j hj => hc j (by omega)) 0 (by simpa using hlen)
      (fun j hj => by
        simp only [Nat.zero_add, List.getElem_map]
        exact (hr j (by omega)).up (fun _ => Iff.rfl))
    exact ⟨u, by simp [Instr.loadAt, Instr.sureAddr, hu], hrel⟩

/-! ### places -/
theorem run_fieldAt {t : TypeId} {i ft : TI} {fs : List (Nat × TypeId)} (hi : tiOf P t = some i) (hk : i.k = .struct fs) {f off : Nat} {fty : TypeId} (hf : fs[f]? = some (off, fty))
    (hft : tiOf P fty = some ft) (hsz : ft.size ≠ 0) (b o : Nat) :
    (Instr.fieldAt t (.pointer (some ⟨b, o, none⟩)) f).run P w = .ok (.pointer (some ⟨b, o + off, none⟩)) w := by
  obtain ⟨fa, hu, hfa⟩ := under_struct hi hk
  have hfa' : ∃ fld : Field, fa[f]? = some fld ∧ fld.offset = off ∧ fld.type = fty := by
    rw [← hfa, List.getElem?_map] at hf
    cases hx : fa.toList[f]? with
    | none => simp [hx] at hf
    | some fld =>
      simp [hx] at hf
      exact ⟨fld, by simpa using hx, hf.1, hf.2⟩
  obtain ⟨fld, h1, h2, h3⟩ := hfa'
  subst h2; subst h3
  simp [Instr.fieldAt, run_underlying hu, h1, Instr.sureAddr, fieldPlace, run_sizeOf' hft, hsz, Addr.add_lit]

theorem rel_fieldAt_own {v : Value} {id st o : Nat} (hx : RelC w φ Im base h v (.ptr id st o)) {ty : TypeId} {cs : List AV} (hb : h id = some (some (ty, cs))) (hst : cs.length = st)
    {t : TypeId} {i ft : TI} {fs : List (Nat × TypeId)} (hi : tiOf P t = some i) (hk : i.k = .struct fs) {f off : Nat} {fty : TypeId} (hf : fs[f]? = some (off, fty))
    (hft : tiOf P fty = some ft) (hsz : ft.size ≠ 0) :
    ∃ u, (Instr.fieldAt t v f).run P w = .ok u w ∧ RelC w φ Im base h u (.ptr id st (o + off)) := by
  cases hx with
  | ptr hid hv hst' H =>
    obtain ⟨b, hφ, rfl⟩ := H ty cs hb hst
    refine ⟨_, run_fieldAt hi hk hf hft hsz b o, .ptr hid rfl hst' (fun ty' cs' he hl => ?_)⟩
    exact ⟨b, hφ, rfl⟩

theorem rel_fieldAt_ipt {v : Value} {fr : Bool} {cs : List PV} (hx : RelC w φ Im base h v (.ipt fr cs))
    {t : TypeId} {i ft : TI} {fs : List (Nat × TypeId)} (hi : tiOf P t = some i) (hk : i.k = .struct fs) {f off : Nat} {fty : TypeId} (hf : fs[f]? = some (off, fty))
    (hft : tiOf P fty = some ft) (hsz : ft.size ≠ 0) :
    ∃ u, (Instr.fieldAt t v f).run P w = .ok u w ∧ RelC w φ Im base h u (.ipt fr (cs.drop off)) := by
  cases hx with
  | @ipt _ _ b o g hO hc hr =>
    refine ⟨_, run_fieldAt hi hk hf hft hsz b o, .ipt (f := fun j => g (off + j)) hO (fun j hj => ?_) (fun j hj => ?_)⟩
    · simp at hj
      rw [Nat.add_assoc]; exact hc (off + j) (by omega)
    · rw [List.getElem_drop]; exact hr _ _

/-- an element's place in a slice that is read -/
theorem rel_indexAt_sl {v : Value} {fr : Bool} {xs : List (List PV)} (hx : RelC w φ Im base h v (.sl fr xs)) {t e : TypeId} {i ie : TI} (hi : tiOf P t = some i) (hk : i.k = .slice e)
    (hie : tiOf P e = some ie) (k : IntKind) {n : Int} (h0 : 0 ≤ n) (hn : n < xs.length) (hE : (xs.getD n.toNat []).length = ie.size) :
    ∃ u, (Instr.indexAt t v (.int k n)).run P w = .ok u w ∧ RelC w φ Im base h u (.ipt fr (xs.getD n.toNat [])) := by
  have hnt : n.toNat < xs.length := by omega
  have hg : xs.getD n.toNat [] = xs[n.toNat] := by simp [hnt]
  cases hx.sl_inv with
  | nil => simp at hn; omega
  | @sl _ E b off cap f hO hcap hE' hc hr =>
    have hEE : E = ie.size := by rw [← hE' n.toNat hnt, ← hg, hE]
    refine ⟨.pointer (some ⟨b, off + n.toNat * ie.size, none⟩), ?_, ?_⟩
    · simp [Instr.indexAt, run_underlying (under_slice hi hk), asIntOf, h0, hn, run_sizeOf' hie, Addr.add_lit]
    · rw [hg]
      refine .ipt (f := fun j => f n.toNat j) hO (fun j hj => ?_) (fun j hj => hr n.toNat j hnt hj)
      rw [← hEE]
      exact hc n.toNat j hnt (by rw [← hE' n.toNat hnt]; exact hj)

theorem rel_indexAt_msl {v : Value} {E id st off len : Nat} (hx : RelC w φ Im base h v (.msl E id st off len)) {ty : TypeId} {cs : List AV} (hb : h id = some (some (ty, cs))) (hst : cs.length = st)
    {t e : TypeId} {i ie : TI} (hi : tiOf P t = some i) (hk : i.k = .slice e)
    (hie : tiOf P e = some ie) (k : IntKind) {n : Int} (h0 : 0 ≤ n) (hn : n < len) (hE : E = ie.size) :
    ∃ u, (Instr.indexAt t v (.int k n)).run P w = .ok u w ∧ RelC w φ Im base h u (.ptr id st (off + n.toNat * E)) := by
  cases hx with
  | msl hid hv hst' H =>
    rcases H ty cs hb hst with ⟨hn', _, hl0, _⟩ | ⟨b, off', cap, c, T, hφ, rfl, hw, ho, hcap, hlen, _⟩
    · subst hl0; simp at hn; omega
    · obtain rfl := ho (by omega)
      refine ⟨.pointer (some ⟨b, off' + n.toNat * ie.size, none⟩), ?_, ?_⟩
      · simp [Instr.indexAt, run_underlying (under_slice hi hk), asIntOf, h0, hn, run_sizeOf' hie, Addr.add_lit]
      · rw [hE]
        exact .ptr hid rfl hst' (fun ty' cs' he hl => ⟨b, hφ, rfl⟩)

/-- an element's place in an array of one's own -/
theorem rel_indexAt_arr {v : Value} {id st o : Nat} (hx : RelC w φ Im base h v (.ptr id st o)) {ty : TypeId} {cs : List AV} (hb : h id = some (some (ty, cs))) (hst : cs.length = st)
    {t e : TypeId} {len : Nat} {i ie : TI} (hi : tiOf P t = some i) (hk : i.k = .array len e) (hie : tiOf P e = some ie) (k : IntKind) {n : Int} (h0 : 0 ≤ n) (hn : n < len) :
    ∃ u, (Instr.indexAt t v (.int k n)).run P w = .ok u w ∧ RelC w φ Im base h u (.ptr id st (o + n.toNat * ie.size)) := by
  cases hx with
  | ptr hid hv hst' H =>
    obtain ⟨b, hφ, rfl⟩ := H ty cs hb hst
    refine ⟨.pointer (some ⟨b, o + n.toNat * ie.size, none⟩), ?_, .ptr hid rfl hst' (fun _ _ _ _ => ⟨b, hφ, rfl⟩)⟩
    simp [Instr.indexAt, run_underlying (under_array hi hk), asIntOf, h0, hn, run_sizeOf' hie, Addr.add_lit, Instr.sureAddr]

theorem rel_indexAt_arri {v : Value} {fr : Bool} {cs : List PV} (hx : RelC w φ Im base h v (.ipt fr cs))
    {t e : TypeId} {len : Nat} {i ie : TI} (hi : tiOf P t = some i) (hk : i.k = .array len e) (hie : tiOf P e = some ie) (k : IntKind) {n : Int} (h0 : 0 ≤ n) (hn : n < len) :
    ∃ u, (Instr.indexAt t v (.int k n)).run P w = .ok u w ∧ RelC w φ Im base h u (.ipt fr (cs.drop (n.toNat * ie.size))) := by
  cases hx with
  | @ipt _ _ b o g hO hc hr =>
    refine ⟨.pointer (some ⟨b, o + n.toNat * ie.size, none⟩), ?_, .ipt (f := fun j => g (n.toNat * ie.size + j)) hO (fun j hj => ?_) (fun j hj => ?_)⟩
    · simp [Instr.indexAt, run_underlying (under_array hi hk), asIntOf, h0, hn, run_sizeOf' hie, Addr.add_lit, Instr.sureAddr]
    · simp at hj
      rw [Nat.add_assoc]; exact hc _ (by omega)
    · rw [List.getElem_drop]; exact hr _ _

/-! ### parts of values -/
theorem rel_part {v : Value} {cs : List AV} (hx : RelT w φ Im base h v (.agg cs)) {t : TypeId} {i : TI} (hi : tiOf P t = some i) {off : Nat} (h1 : i.k.agg = false → i.size = 1) (hlen : off + i.size ≤ cs.length) :
    ∃ u arr, v = .agg arr ∧ (part t arr off).run P w = .ok u w ∧ RelT w φ Im base h u (partOf i cs off) := by
  obtain ⟨arr, rfl, hs, hr⟩ := hx.agg_inv
  cases hk : i.k.agg with
  | true =>
    refine ⟨.agg (arr.extract off (off + i.size)), arr, rfl, by simp [part, run_isAgg' hi, hk, run_sizeOf' hi], ?_⟩
    simp only [partOf, hk, if_true]
    refine .agg (by simp; omega) (fun j hj => ?_)
    have hj' : j < i.size := by simp at hj; omega
    rw [List.getElem_take, List.getElem_drop]
    have := hr (off + j) (by omega)
    simpa [Array.getElem?_extract, show j < min (off + i.size) arr.size - off by omega, show off + j < arr.size by omega] using this
  | false =>
    have e1 := h1 hk
    have hlt : off < arr.size := by omega
    refine ⟨arr.getD off undef, arr, rfl, ?_, ?_⟩
    · simp [part, run_isAgg' hi, hk, hlt]
    · have hlt' : off < cs.length := by omega
      simp only [partOf, hk, List.getD_eq_getElem?_getD, List.getElem?_eq_getElem hlt', Option.getD_some]
      exact .c (hr off hlt')

theorem rel_field {v : Value} {cs : List AV} (hx : RelT w φ Im base h v (.agg cs)) {t : TypeId} {i ft : TI} {fs : List (Nat × TypeId)} (hi : tiOf P t = some i) (hk : i.k = .struct fs) {f off : Nat} {fty : TypeId}
    (hf : fs[f]? = some (off, fty)) (hft : tiOf P fty = some ft) (h1 : ft.k.agg = false → ft.size = 1) (hlen : off + ft.size ≤ cs.length) :
    ∃ u, (Instr.field t v f).run P w = .ok u w ∧ RelT w φ Im base h u (partOf ft cs off) := by
  obtain ⟨fa, hu, hfa⟩ := under_struct hi hk
  have hfa' : ∃ fld : Field, fa[f]? = some fld ∧ fld.offset = off ∧ fld.type = fty := by
    rw [← hfa, List.getElem?_map] at hf
    cases hx : fa.toList[f]? with
    | none => simp [hx] at hf
    | some fld =>
      simp [hx] at hf
      exact ⟨fld, by simpa using hx, hf.1, hf.2⟩
  obtain ⟨fld, g1, g2, g3⟩ := hfa'
  subst g2; subst g3
  obtain ⟨u, arr, rfl, hu', hrel⟩ := rel_part (P := P) hx hft h1 hlen
  exact ⟨u, by simp [Instr.field, run_underlying hu, g1, asAgg, hu'], hrel⟩

theorem rel_index {v : Value} {cs : List AV} (hx : RelT w φ Im base h v (.agg cs)) {t e : TypeId} {len : Nat} {i ie : TI} (hi : tiOf P t = some i) (hk : i.k = .array len e) (hie : tiOf P e = some ie)
    (h1 : ie.k.agg = false → ie.size = 1) (k : IntKind) {n : Int} (h0 : 0 ≤ n) (hn : n < len) (hlen : n.toNat * ie.size + ie.size ≤ cs.length) :
    ∃ u, (Instr.index t v (.int k n)).run P w = .ok u w ∧ RelT w φ Im base h u (partOf ie cs (n.toNat * ie.size)) := by
  obtain ⟨u, arr, rfl, hu', hrel⟩ := rel_part (P := P) hx hie h1 hlen
  exact ⟨u, by simp [Instr.index, run_underlying (under_array hi hk), asIntOf, h0, hn, run_sizeOf' hie, hu'], hrel⟩

theorem run_index_str {b : ByteArray} {t : TypeId} {i : TI} (hi : tiOf P t = some i) (hk : i.k = .str) (k : IntKind) {n : Int} (h0 : 0 ≤ n) (hn : n < b.size) :
    (Instr.index t (.string b) (.int k n)).run P w = .ok (.int .u8 ((b.data.toList.getD n.toNat 0).toNat : Int)) w := by
  have hnt : n.toNat < b.size := by omega
  have hnt' : n.toNat < b.data.toList.length := by simpa using hnt
  simp only [Instr.index, Sem.run_bind, asIntOf, Sem.run_pure, Result.andThen_ok, run_underlying (under_str hi hk)]
  rw [if_pos h0]
  have : b[n.toNat]? = some (b[n.toNat]'hnt) := getElem?_pos b n.toNat hnt
  rw [this]
  simp [hnt]
  rfl
end
end Go.Ab
