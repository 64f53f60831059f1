/- SLICE LITERALS, SLICING, LENGTHS, CONVERSIONS. -/
import Derived.Test.YtpikidekdeglcaaAb6
namespace Go.Ab
open Go

section
variable {P : Program} {w w' : World} {φ : Nat → Option Nat} {Im Th : Nat → Prop} {base N : Nat} {D : List Deferred} {s : ASt} {a : Act} {h : Heap}

/-- a block's number of cells is current -/
def Cur (h : Heap) (id st : Nat) : Prop := ∃ ty cs, h id = some (some (ty, cs)) ∧ cs.length = st

theorem fill_all {E : Nat} : ∀ (xs : List AT) (k : Nat) (cells : List AV), k * E + xs.length * E ≤ cells.length → (∀ x ∈ xs, x.flat = true ∧ x.cells.length = E) →
    fillA (fun i => some (i * E, E)) cells (xs.zipIdx k |>.map fun (x, i) => (i, x)) = some (splice cells (k * E) (xs.flatMap AT.cells))
  | [], k, cells, hl, _ => by simp [fillA, splice]
  | x :: xs, k, cells, hl, hx => by
    have h1 := hx x (by simp)
    simp only [List.length_cons, Nat.add_mul, Nat.one_mul] at hl
    simp only [List.zipIdx_cons, List.map_cons, fillA]
    rw [if_pos ⟨h1.1, h1.2, by omega⟩]
    have ih := fill_all xs (k + 1) (splice cells (k * E) x.cells) (by rw [splice_length (by omega), Nat.add_mul]; omega) (fun y hy => hx y (by simp [hy]))
    rw [ih]
    congr 1
    have hlen : (xs.flatMap AT.cells).length = xs.length * E := by
      clear ih hl
      induction xs with
      | nil => simp
      | cons y ys ihy =>
        simp only [List.flatMap_cons, List.length_append, List.length_cons, Nat.add_mul, Nat.one_mul]
        rw [(hx y (by simp)).2, ihy (fun z hz => hx z (by simp at hz ⊢; rcases hz with h | h <;> simp [h]))]
        omega
    apply List.ext_getElem?
    intro j
    have e1 : (k + 1) * E = k * E + E := by rw [Nat.add_mul, Nat.one_mul]
    rw [splice_getElem (by rw [splice_length (by omega), hlen]; omega), splice_getElem (by omega), splice_getElem (by simp [hlen, h1.2]; omega), e1]
    simp only [List.flatMap_cons, List.length_append, hlen, h1.2]
    by_cases g1 : j < k * E
    · simp [g1, show j < k * E + E by omega]
    · by_cases g2 : j < k * E + E
      · simp only [g1, g2, if_true, if_false, show j < k * E + (E + xs.length * E) by omega]
        rw [List.getElem?_append_left (by omega)]
      · simp only [g1, g2, if_false]
        by_cases g3 : j < k * E + E + xs.length * E
        · rw [if_pos g3, if_pos (by omega), List.getElem?_append_right (by omega), h1.2]
          congr 1; omega
        · rw [if_neg g3, if_neg (by omega)]

/-- a literal of a slice whose elements are all given -/
theorem step_buildSlice (hok : Ok w φ Im Th base h) {id : Nat} (hid : h id = none) {t e : TypeId} {i ie : TI} (hi : tiOf P t = some i) (hk : i.k = .slice e) (hie : tiOf P e = some ie) (hz : ie.zero.length = ie.size)
    {n : Nat} (hn : n * ie.size ≤ 16777216) (hsz : 0 < ie.size) (hmax : n ≤ maxLen) (xs : List AT) (hxs : xs.length = n) (vs : List (Nat × Value)) (hvl : vs.length = n)
    (hv : ∀ (j : Nat) (hj : j < n), (vs.getD j (0, undef)).1 = j ∧ RelT w φ Im base h (vs.getD j (0, undef)).2 (xs[j]'(by omega))) (hfl : ∀ x ∈ xs, x.flat = true ∧ x.cells.length = ie.size) :
    ∃ v w' φ', (Instr.buildSlice t n vs.toArray).run P w = .ok v w' ∧ Stp w φ Im Th h w' φ' Im (upd h id (some (some (e, xs.flatMap AT.cells)))) ∧
      Ok w' φ' Im Th base (upd h id (some (some (e, xs.flatMap AT.cells)))) ∧ RelC w' φ' Im base (upd h id (some (some (e, xs.flatMap AT.cells)))) v (.msl ie.size id (n * ie.size) 0 n) := by
  obtain ⟨z, hzr, hzl, hz1, hzz⟩ := rel_zero (w := w) (φ := φ) (Im := Im) (base := base) (h := h) hie
  have hzs : z.cells.size = ie.size := by omega
  -- the zero cells
  obtain ⟨zc, hzc⟩ : ∃ zc : Array Value, zc = (Array.range (n * ie.size)).map (z.cells[· % z.cells.size]!) := ⟨_, rfl⟩
  have hzcs : zc.size = n * ie.size := by rw [hzc]; simp
  have hfa := fill_all (E := ie.size) xs 0 (List.replicate (n * ie.size) AV.junk) (by simp [hxs]) hfl
  have hout : (xs.flatMap AT.cells).length = n * ie.size := by
    clear hfa hv hzc
    subst hxs
    clear hn hmax hvl hzcs
    induction xs with
    | nil => simp
    | cons y ys ihy =>
      simp only [List.flatMap_cons, List.length_append, List.length_cons, Nat.add_mul, Nat.one_mul]
      rw [(hfl y (by simp)).2, ihy (fun z hz => hfl z (by simp [hz]))]
      omega
  have hsp : splice (List.replicate (n * ie.size) AV.junk) (0 * ie.size) (xs.flatMap AT.cells) = xs.flatMap AT.cells := by
    simp [splice, hout]
  rw [hsp] at hfa
  have hzone : ∀ j, j < zc.size → (zc.getD j undef).oneCell' = true := by
    intro j hj
    have hm : j % z.cells.size < z.cells.size := Nat.mod_lt _ (by omega)
    have : zc.getD j undef = z.cells[j % z.cells.size] := by
      rw [hzc] at hj ⊢
      simp at hj
      simp [hj, hm]
    rw [this]
    exact hz1 _ (by simp)
  obtain ⟨c', h1, h2, h3, h4⟩ := rel_fill (w := w) (φ := φ) (Im := Im) (base := base) (h := h) (xs.zipIdx 0 |>.map fun (x, i) => (i, x)) vs (List.replicate (n * ie.size) AV.junk) zc _ (by simp [hzcs])
    (fun j hj => by
      simp only [List.getElem_replicate]
      exact .junk (hzone j (by simp at hj; omega)))
    (by simp [hxs, hvl]) (fun j hj => by
      have hj' : j < n := by simp at hj; omega
      simpa using hv j hj') hfa
  obtain ⟨g1, g2⟩ := alloc_step hok hid e (xs.flatMap AT.cells) c' (by omega) h4
  refine ⟨.slice (some ⟨w.heap.size, 0, none⟩) n n, _, _, ?_, g1, g2, .msl (by simp [upd_same]) rfl (fun ty cs he => ?_) (fun ty cs he _ => .inr ⟨_, 0, n, c', e, upd_same _ _ _, rfl, heap_alloc_new w _, fun _ => rfl, by rw [h2, hout]; omega, Nat.le_refl _, hmax⟩)⟩
  · have hle : ¬ (n * ie.size > 2 ^ 24) := by omega
    by_cases hne : n * ie.size = 0
    · have hrz : ∀ g : Nat → Value, (Array.range (n * ie.size)).map g = zc := fun g => by
        rw [hzc]; apply Array.ext <;> simp [hne]
      simp only [Instr.buildSlice, Sem.run_bind, run_underlying (under_slice hi hk), Result.andThen_ok, run_sizeOf' hie, hle, if_false, if_pos hne, Sem.run_pure]
      rw [hrz, h1]
      simp [newRow]
    · simp only [Instr.buildSlice, Sem.run_bind, run_underlying (under_slice hi hk), Result.andThen_ok, run_sizeOf' hie, hle, if_false, hne, hzr, Sem.run_pure]
      rw [← hzc, h1]
      simp [newRow]
  · rw [upd_same] at he; cases he; omega

/-! ### slicing -/
theorem run_sliceBound {k : IntKind} {n : Int} {y : Nat} {code : BoundsCode} (h0 : 0 ≤ n) (h1 : n ≤ y) : (Instr.sliceBound (.int k n) y code).run P w = .ok n.toNat w := by
  simp [Instr.sliceBound, asIntOf, h0, h1]

/-- the bounds that stand in the text, or do not -/
def loOf : Option AT → Option Int
  | none => some 0
  | some (.c (.s (.int _ n))) => some n
  | _ => none
def hiOf (len : Nat) : Option AT → Option Int
  | none => some len
  | some (.c (.s (.int _ n))) => some n
  | _ => none

theorem run_sliceBounds {isSlice : Bool} {len cap : Nat} {lo hi : Option Value} {x y : Option AT} {l u : Int} (hlo : match lo, x with | none, none => True | some v, some t => RelT w φ Im base h v t | _, _ => False)
    (hhi : match hi, y with | none, none => True | some v, some t => RelT w φ Im base h v t | _, _ => False) (hx : loOf x = some l) (hy : hiOf len y = some u) (h0 : 0 ≤ l) (h1 : l ≤ u) (h2 : u ≤ len) (h3 : len ≤ cap) :
    (Instr.sliceBounds isSlice len cap lo hi none).run P w = .ok (l.toNat, u.toNat, cap) w := by
  have hl : ∀ code, (match lo with | some v => Instr.sliceBound v u.toNat code | none => pure 0 : Sem Nat).run P w = .ok l.toNat w := by
    intro code
    cases lo with
    | none => cases x with
      | none => cases hx; rfl
      | some t => exact hlo.elim
    | some v => cases x with
      | none => exact hlo.elim
      | some t =>
        unfold loOf at hx
        split at hx
        · rename_i e; cases e
        · rename_i k n e
          cases e; cases hx
          have := RelT.s_inv hlo
          subst this
          exact run_sliceBound h0 (by omega)
        · cases hx
  have hh : ∀ code, (match hi with | some v => Instr.sliceBound v cap code | none => pure len : Sem Nat).run P w = .ok u.toNat w := by
    intro code
    cases hi with
    | none => cases y with
      | none => cases hy; rfl
      | some t => exact hhi.elim
    | some v => cases y with
      | none => exact hhi.elim
      | some t =>
        unfold hiOf at hy
        split at hy
        · rename_i e; cases e
        · rename_i k n e
          cases e; cases hy
          have := RelT.s_inv hhi
          subst this
          exact run_sliceBound (by omega) (by omega)
        · cases hy
  unfold Instr.sliceBounds
  cases hi with
  | none =>
    have := hh .slice3B
    simp only at this
    cases lo with
    | none => simp_all
    | some v =>
      have hl' := hl .sliceB
      simp only at hl'
      simp_all
  | some v2 =>
    have := hh (if isSlice then .sliceAcap else .sliceAlen)
    simp only at this
    cases lo with
    | none => simp_all
    | some v =>
      have hl' := hl .sliceB
      simp only at hl'
      simp_all
end
end Go.Ab
