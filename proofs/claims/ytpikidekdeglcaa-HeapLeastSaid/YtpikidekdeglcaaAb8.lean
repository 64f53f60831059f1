/- SLICING, ON; LENGTHS; TUPLES; FUNCTIONS. -/
import Derived.Test.YtpikidekdeglcaaAb7
namespace Go.Ab
open Go

section
variable {P : Program} {w w' : World} {φ : Nat → Option Nat} {Im Th : Nat → Prop} {base N : Nat} {D : List Deferred} {s : ASt} {a : Act} {h : Heap}

def OptRel (w : World) (φ : Nat → Option Nat) (Im : Nat → Prop) (base : Nat) (h : Heap) (lo : Option Value) (x : Option AT) : Prop :=
  match lo, x with
  | none, none => True
  | some v, some t => RelT w φ Im base h v t
  | _, _ => False

theorem run_slice_str {b : ByteArray} {t : TypeId} {i : TI} (hi : tiOf P t = some i) (hk : i.k = .str) {lo hi' : Option Value} {x y : Option AT} {l u : Int} (hlo : OptRel w φ Im base h lo x)
    (hhi : OptRel w φ Im base h hi' y) (hx : loOf x = some l) (hy : hiOf b.size y = some u) (h0 : 0 ≤ l) (h1 : l ≤ u) (h2 : u ≤ b.size) :
    (Instr.sliceAt t (.string b) lo hi' none).run P w = .ok (.string (b.extract l.toNat u.toNat)) w := by
  have hb := run_sliceBounds (P := P) (isSlice := false) (cap := b.size) (h := h) (φ := φ) (Im := Im) (base := base) hlo hhi hx hy h0 h1 h2 (Nat.le_refl _)
  simp [Instr.sliceAt, Instr.slice, run_underlying (under_str hi hk), hb]

theorem rel_slice_sl {v : Value} {fr : Bool} {xs : List (List PV)} (hv : RelC w φ Im base h v (.sl fr xs)) {t e : TypeId} {i ie : TI} (hi : tiOf P t = some i) (hk : i.k = .slice e) (hie : tiOf P e = some ie)
    {lo hi' : Option Value} {x y : Option AT} {l u : Int} (hlo : OptRel w φ Im base h lo x)
    (hhi : OptRel w φ Im base h hi' y) (hx : loOf x = some l) (hy : hiOf xs.length y = some u) (h0 : 0 ≤ l) (h1 : l ≤ u) (h2 : u ≤ xs.length) (hE : ∀ z ∈ xs, z.length = ie.size) :
    ∃ v', (Instr.sliceAt t v lo hi' none).run P w = .ok v' w ∧ RelC w φ Im base h v' (.sl fr ((xs.drop l.toNat).take (u.toNat - l.toNat))) := by
  cases hv.sl_inv with
  | @nil base' cap =>
    have hb := run_sliceBounds (P := P) (isSlice := true) (len := 0) (cap := cap) (h := h) (φ := φ) (Im := Im) (base := base) hlo hhi hx hy h0 h1 (by simpa using h2) (Nat.zero_le _)
    have hl0 : l = 0 := by simp at h2; omega
    have hu0 : u = 0 := by simp at h2; omega
    subst hl0; subst hu0
    refine ⟨.slice (if cap = 0 then base' else base'.map (·.add (0 * ie.size))) 0 cap, ?_, .sl (by simpa using .nil)⟩
    simp [Instr.sliceAt, Instr.slice, run_underlying (under_slice hi hk), hb, run_sizeOf' hie]
  | @sl _ E b off cap f hO hcap hE' hc hr =>
    have hb := run_sliceBounds (P := P) (isSlice := true) (len := xs.length) (cap := cap) (h := h) (φ := φ) (Im := Im) (base := base) hlo hhi hx hy h0 h1 h2 hcap
    have hrun : (Instr.sliceAt t (.slice (some ⟨b, off, none⟩) xs.length cap) lo hi' none).run P w =
        .ok (.slice (if cap = l.toNat then some ⟨b, off, none⟩ else some ⟨b, off + l.toNat * ie.size, none⟩) (u.toNat - l.toNat) (cap - l.toNat)) w := by
      simp [Instr.sliceAt, Instr.slice, run_underlying (under_slice hi hk), hb, run_sizeOf' hie, Addr.add_lit]
    refine ⟨_, hrun, .sl ?_⟩
    have hlen : ((xs.drop l.toNat).take (u.toNat - l.toNat)).length = u.toNat - l.toNat := by simp; omega
    rcases Nat.eq_zero_or_pos (u.toNat - l.toNat) with hz | hpos
    · have : (xs.drop l.toNat).take (u.toNat - l.toNat) = [] := by rw [hz]; simp
      rw [this, hz]
      exact .nil
    · rw [if_neg (by omega)]
      have hEE : E = ie.size := by
        have hlt : 0 < xs.length := by omega
        rw [← hE' 0 hlt]; exact hE _ (by simp)
      have := RelP.sl (w := w) (O := fun b => Im b ∧ (fr = true → base ≤ b)) (xs := (xs.drop l.toNat).take (u.toNat - l.toNat)) (E := E) (b := b) (off := off + l.toNat * ie.size) (cap := cap - l.toNat)
        (f := fun i j => f (l.toNat + i) j) hO (by rw [hlen]; omega)
        (fun i hi => by
          rw [List.getElem_take, List.getElem_drop]; exact hE' _ _)
        (fun i j hi hj => by
          rw [hlen] at hi
          have := hc (l.toNat + i) j (by omega) hj
          rw [← this, hEE, Nat.add_mul, ← Nat.add_assoc])
        (fun i j hi hj => by
          have e1 : ((xs.drop l.toNat).take (u.toNat - l.toNat))[i] = xs[l.toNat + i]'(by rw [hlen] at hi; omega) := by rw [List.getElem_take, List.getElem_drop]
          have hj' : j < (xs[l.toNat + i]'(by rw [hlen] at hi; omega)).length := by rw [← e1]; exact hj
          have := hr (l.toNat + i) j (by rw [hlen] at hi; omega) hj'
          simpa [e1] using this)
      rw [hlen] at this
      exact this

theorem rel_slice_msl {v : Value} {E id st off len : Nat} (hv : RelC w φ Im base h v (.msl E id st off len)) (hcur : Cur h id st) {t e : TypeId} {i ie : TI} (hi : tiOf P t = some i) (hk : i.k = .slice e) (hie : tiOf P e = some ie) (hE : E = ie.size)
    {lo hi' : Option Value} {x y : Option AT} {l u : Int} (hlo : OptRel w φ Im base h lo x)
    (hhi : OptRel w φ Im base h hi' y) (hx : loOf x = some l) (hy : hiOf len y = some u) (h0 : 0 ≤ l) (h1 : l ≤ u) (h2 : u ≤ len) :
    ∃ v', (Instr.sliceAt t v lo hi' none).run P w = .ok v' w ∧ RelC w φ Im base h v' (.msl E id st (off + l.toNat * E) (u.toNat - l.toNat)) := by
  obtain ⟨ty, cs, hb, hst⟩ := hcur
  subst hE
  cases hv with
  | msl hid hv hst' H =>
    rcases H ty cs hb hst with ⟨hn, ho0, hl0, hve⟩ | ⟨b, off', cap, c, T, hφ, hve, hw, ho, hcap, hlen, hmax⟩
    · subst hve; subst hl0; subst ho0
      have hb2 := run_sliceBounds (P := P) (isSlice := true) (len := 0) (cap := 0) (h := h) (φ := φ) (Im := Im) (base := base) hlo hhi hx hy h0 h1 h2 (Nat.le_refl _)
      have e1 : l = 0 := by simp at h2; omega
      have e2 : u = 0 := by simp at h2; omega
      subst e1; subst e2
      refine ⟨.slice none 0 0, ?_, .msl hid rfl hst' (fun ty' cs' he hl => .inl ⟨hn, by simp, by simp, rfl⟩)⟩
      simp [Instr.sliceAt, Instr.slice, run_underlying (under_slice hi hk), hb2, run_sizeOf' hie]
    · subst hve
      have hb2 := run_sliceBounds (P := P) (isSlice := true) (len := len) (cap := cap) (h := h) (φ := φ) (Im := Im) (base := base) hlo hhi hx hy h0 h1 h2 hlen
      refine ⟨.slice (if cap = l.toNat then some ⟨b, off', none⟩ else some ⟨b, off' + l.toNat * ie.size, none⟩) (u.toNat - l.toNat) (cap - l.toNat), ?_, .msl hid rfl hst' (fun ty' cs' he hl => .inr ?_)⟩
      · simp [Instr.sliceAt, Instr.slice, run_underlying (under_slice hi hk), hb2, run_sizeOf' hie, Addr.add_lit]
      · by_cases hz : cap = l.toNat
        · refine ⟨b, off', cap - l.toNat, c, T, hφ, by rw [if_pos hz], hw, fun hp => by omega, ?_, by omega, by omega⟩
          rw [show cap - l.toNat = 0 by omega, Nat.zero_mul, Nat.add_zero, ← hz]; exact hcap
        · refine ⟨b, off' + l.toNat * ie.size, cap - l.toNat, c, T, hφ, by rw [if_neg hz], hw, fun hp => by rw [ho (by omega)], ?_, by omega, by omega⟩
          rw [Nat.add_assoc, ← Nat.add_mul, show l.toNat + (cap - l.toNat) = cap by omega]; exact hcap

theorem rel_slice_arr {v : Value} {id st o : Nat} (hv : RelC w φ Im base h v (.ptr id st o)) (hcur : Cur h id st) (hok : Ok w φ Im Th base h) {t e : TypeId} {n : Nat} {i ie : TI} (hi : tiOf P t = some i) (hk : i.k = .array n e) (hie : tiOf P e = some ie)
    {lo hi' : Option Value} {x y : Option AT} {l u : Int} (hlo : OptRel w φ Im base h lo x)
    (hhi : OptRel w φ Im base h hi' y) (hx : loOf x = some l) (hy : hiOf n y = some u) (h0 : 0 ≤ l) (h1 : l ≤ u) (h2 : u ≤ n) (hle : o + n * ie.size ≤ st) (hmax : n ≤ maxLen) :
    ∃ v', (Instr.sliceAt t v lo hi' none).run P w = .ok v' w ∧ RelC w φ Im base h v' (.msl ie.size id st (o + l.toNat * ie.size) (u.toNat - l.toNat)) := by
  obtain ⟨ty, cs, hb, hst⟩ := hcur
  cases hv with
  | ptr hid hv hst' H =>
    obtain ⟨b, hφ, rfl⟩ := H ty cs hb hst
    obtain ⟨c, hw, hl, hcell, hr⟩ := own_cells hok hb hφ
    have hb2 := run_sliceBounds (P := P) (isSlice := false) (len := n) (cap := n) (h := h) (φ := φ) (Im := Im) (base := base) hlo hhi hx hy h0 h1 h2 (Nat.le_refl _)
    refine ⟨.slice (some (if n = l.toNat then ⟨b, o, none⟩ else ⟨b, o + l.toNat * ie.size, none⟩)) (u.toNat - l.toNat) (n - l.toNat), ?_, .msl hid rfl hst' (fun ty' cs' he hl => .inr ?_)⟩
    · simp [Instr.sliceAt, run_underlying (under_array hi hk), Instr.sureAddr, hb2, run_sizeOf' hie, Addr.add_lit]
    · have hle' : o + l.toNat * ie.size + (n - l.toNat) * ie.size ≤ c.size := by
        rw [Nat.add_assoc, ← Nat.add_mul, show l.toNat + (n - l.toNat) = n by omega]; omega
      by_cases hz : n = l.toNat
      · exact ⟨b, o, n - l.toNat, c, ty, hφ, by rw [if_pos hz], hw, fun hp => by omega, hle', by omega, by omega⟩
      · exact ⟨b, o + l.toNat * ie.size, n - l.toNat, c, ty, hφ, by rw [if_neg hz], hw, fun hp => rfl, hle', by omega, by omega⟩

/-! ### lengths -/
theorem run_len_str {b : ByteArray} {t ty : TypeId} {i : TI} (hi : tiOf P t = some i) (hk : i.k = .str) : (Builtin.len_ #[t] ty #[.string b]).run P w = .ok (.int .i64 b.size) w := by
  simp [Builtin.len_, run_underlying (under_str hi hk), goInt]

theorem run_len_slice {bs : Option Addr} {n cap : Nat} {t ty e : TypeId} {i : TI} (hi : tiOf P t = some i) (hk : i.k = .slice e) : (Builtin.len_ #[t] ty #[.slice bs n cap]).run P w = .ok (.int .i64 n) w := by
  simp [Builtin.len_, run_underlying (under_slice hi hk), goInt]

theorem sl_shape {v : Value} {fr : Bool} {xs : List (List PV)} (hv : RelC w φ Im base h v (.sl fr xs)) : ∃ bs cap, v = .slice bs xs.length cap := by
  cases hv.sl_inv with
  | nil => exact ⟨_, _, rfl⟩
  | sl => exact ⟨_, _, rfl⟩

theorem msl_shape {v : Value} {E id st off len : Nat} (hv : RelC w φ Im base h v (.msl E id st off len)) (hcur : Cur h id st) : ∃ bs cap, v = .slice bs len cap := by
  obtain ⟨ty, cs, hb, hst⟩ := hcur
  cases hv with
  | msl hid hv hst' H =>
    rcases H ty cs hb hst with ⟨_, _, hl0, hve⟩ | ⟨b, off', cap, c, T, hφ, hve, _⟩
    · subst hl0; exact ⟨_, _, hve⟩
    · exact ⟨_, _, hve⟩

theorem run_extract {v : Value} {l : List AT} (hv : RelT w φ Im base h v (.tup l)) {k : Nat} {x : AT} (hx : l[k]? = some x) : ∃ u, (Instr.extract v k).run P w = .ok u w ∧ RelT w φ Im base h u x := by
  obtain ⟨arr, rfl, hs, hr⟩ := hv.tup_inv
  have hk : k < l.length := by
    rcases Nat.lt_or_ge k l.length with h1 | h1
    · exact h1
    · rw [List.getElem?_eq_none h1] at hx; cases hx
  have hk' : k < arr.size := by omega
  refine ⟨arr.getD k undef, by simp [Instr.extract, hk'], ?_⟩
  have := hr k hk
  rw [List.getElem?_eq_getElem hk] at hx
  cases hx
  exact this
end
end Go.Ab
