/- A CALL BY ITS CONTRACT. -/
import Derived.Test.YtpikidekdeglcaaAb15
namespace Go.Ab
open Go
noncomputable section

/-- a caller's names for a callee's blocks: those handed in, then new ones -/
def tau (σ : List Nat) (b0 : Nat) : Nat → Nat := fun j => match σ[j]? with
  | some k => k
  | none => b0 + (j - σ.length)

def mergeL (τ : Nat → Nat) : Nat → List (Option Blk) → Heap → Heap
  | _, [], h => h
  | k, b :: l, h => upd (mergeL τ (k + 1) l h) (τ k) (some (bren τ b))

theorem mergeL_in {τ : Nat → Nat} {h : Heap} : ∀ (l : List (Option Blk)) (k j : Nat) (hj : j < l.length), (∀ i, i < l.length → ∀ i', i' < l.length → τ (k + i) = τ (k + i') → i = i') → mergeL τ k l h (τ (k + j)) = some (bren τ l[j])
  | [], k, j, hj, _ => by simp at hj
  | b :: l, k, j, hj, hi => by
    simp only [mergeL]
    cases j with
    | zero => simp [upd_same]
    | succ j =>
      have hj' : j < l.length := by simpa using hj
      have hne : τ (k + (j + 1)) ≠ τ k := fun e => by
        have := hi (j + 1) hj 0 (by simp) (by simpa using e)
        omega
      rw [upd_ne _ _ hne, show k + (j + 1) = (k + 1) + j by omega, mergeL_in l (k + 1) j hj' (fun i hi1 i' hi2 e => by
        have := hi (i + 1) (by simp; omega) (i' + 1) (by simp; omega) (by rw [show k + (i + 1) = k + 1 + i by omega, show k + (i' + 1) = k + 1 + i' by omega]; exact e)
        omega)]
      rfl

theorem mergeL_out {τ : Nat → Nat} {h : Heap} : ∀ (l : List (Option Blk)) (k id : Nat), (∀ j, j < l.length → τ (k + j) ≠ id) → mergeL τ k l h id = h id
  | [], k, id, _ => rfl
  | b :: l, k, id, hn => by
    simp only [mergeL]
    rw [upd_ne _ _ (fun e => hn 0 (by simp) (by simpa using e.symm)), mergeL_out l (k + 1) id (fun j hj => by
      have := hn (j + 1) (by simp; omega)
      rwa [show k + (j + 1) = k + 1 + j by omega] at this)]

/-- an argument that the callee reads, of a block that the caller may write -/
inductive AvOk (h : Heap) (τ : Nat → Nat) (B : List Nat) : AV → AV → Prop
  | plain {x y : AV} (e : x.wk = y.ren τ) (ho : x.oldCaps) : AvOk h τ B x y
  | bor {E id st off len : Nat} {xs : List (List PV)} {ty : TypeId} {cs : List AV} {fr : Bool} (hB : id ∈ B) (hh : h id = some (some (ty, cs))) (hst : cs.length = st) (hlen : xs.length = len)
      (hE0 : 0 < E) (hE : ∀ x ∈ xs, x.length = E) (hc : (cs.drop off).take (len * E) = xs.flatten.map (PV.up fr)) : AvOk h τ B (.msl E id st off len) (.sl false xs)

inductive AtOk (h : Heap) (τ : Nat → Nat) (B : List Nat) : AT → AT → Prop
  | c {x y : AV} (hx : AvOk h τ B x y) : AtOk h τ B (.c x) (.c y)
  | agg {xs ys : List AV} (hl : xs.length = ys.length) (hx : ∀ (i : Nat) (h1 : i < xs.length) (h2 : i < ys.length), AvOk h τ B xs[i] ys[i]) : AtOk h τ B (.agg xs) (.agg ys)

def AV.fresh : AV → Prop
  | .sl fr _ => fr = true
  | .ipt fr _ => fr = true
  | .fn _ caps => caps = []
  | _ => True
mutual
def AT.fresh : AT → Prop
  | .c x => x.fresh
  | .agg cs => ∀ x ∈ cs, x.fresh
  | .tup l => AT.freshL l
def AT.freshL : List AT → Prop
  | [] => True
  | x :: l => x.fresh ∧ AT.freshL l
end
def bfresh (b : Option Blk) : Prop := ∀ p, b = some p → ∀ x ∈ p.2, x.fresh

section
variable {C : Cx} {Th : Nat → Prop} {base : Nat} {D : List Deferred} {w w' : World} {φ φ' : Nat → Option Nat} {Im Im' : Nat → Prop} {a : Act} {s s' : ASt}

theorem flat_len {E : Nat} {xs : List (List PV)} (hE : ∀ x ∈ xs, x.length = E) : xs.flatten.length = xs.length * E := by
  induction xs with
  | nil => simp
  | cons y ys ih =>
    simp only [List.flatten_cons, List.length_append, List.length_cons, Nat.add_mul, Nat.one_mul]
    rw [hE y (by simp), ih (fun z hz => hE z (by simp [hz]))]
    omega

theorem flat_get {E : Nat} {xs : List (List PV)} (hE : ∀ x ∈ xs, x.length = E) : ∀ (i j : Nat) (hi : i < xs.length) (hj : j < xs[i].length), xs.flatten[i * E + j]? = some xs[i][j] := by
  induction xs with
  | nil => intro i j hi; simp at hi
  | cons y ys ih =>
    intro i j hi hj
    have hy : y.length = E := hE y (by simp)
    cases i with
    | zero =>
      simp only [List.getElem_cons_zero] at hj
      simp [List.getElem?_append, hj]
    | succ i =>
      simp only [List.flatten_cons, List.getElem_cons_succ] at hj ⊢
      rw [List.getElem?_append_right (by rw [hy, Nat.add_mul]; omega), hy, show (i + 1) * E + j - E = i * E + j by rw [Nat.add_mul, Nat.one_mul]; omega]
      exact ih (fun z hz => hE z (by simp [hz])) i j (by simpa using hi) hj

theorem RelC.down {h : Heap} {v : Value} {fr : Bool} {p : PV} (hx : RelC w φ Im base h v (p.up fr)) : RelP w Im v p := by
  cases p with
  | one u => cases hx with | s hv => exact .one hv
  | sl xs => cases hx with | sl hp => exact hp.mono (fun _ _ => rfl) (fun b hb => hb.1)

/-- what a slice of one's own holds, read -/
theorem borrow (hok : Ok w φ Im Th base s.h) {v : Value} {E id st off len : Nat} {xs : List (List PV)} {ty : TypeId} {cs : List AV} {fr : Bool} (hv : RelC w φ Im base s.h v (.msl E id st off len))
    (hh : s.h id = some (some (ty, cs))) (hst : cs.length = st) (hlen : xs.length = len) (hE0 : 0 < E) (hE : ∀ x ∈ xs, x.length = E) (hc : (cs.drop off).take (len * E) = xs.flatten.map (PV.up fr)) :
    RelP w (fun b => Im b ∨ φ id = some b) v (.sl xs) := by
  cases hv with
  | msl hid hv hst' H =>
    rcases H ty cs hh hst with ⟨_, h0, hl0, hve⟩ | ⟨b, off', cap, c, T, hφ, hve, hw, ho, hcap, hlc, hmax⟩
    · subst hve; subst hl0
      have : xs = [] := List.eq_nil_of_length_eq_zero hlen
      subst this; exact .nil
    · subst hve
      rcases Nat.eq_zero_or_pos len with h0 | hpos
      · subst h0
        have : xs = [] := List.eq_nil_of_length_eq_zero hlen
        subst this; exact .nil
      · obtain rfl := ho (by omega)
        obtain ⟨c2, hw2, hl2, hcell, hr⟩ := own_cells hok hh hφ
        have hfl := flat_len hE
        have hle : off' + len * E ≤ cs.length := by
          have := congrArg List.length hc
          simp only [List.length_take, List.length_drop, List.length_map, hfl, hlen] at this
          have := Nat.mul_pos hpos hE0
          omega
        have hcells : ∀ (i j : Nat) (hi : i < xs.length) (hj : j < xs[i].length), ∃ hk : off' + i * E + j < cs.length, cs[off' + i * E + j] = (xs[i][j]).up fr := by
          intro i j hi hj
          have hj' : j < E := by rw [← hE xs[i] (by simp)]; exact hj
          have hb : i * E + j < len * E := by
            have : (i + 1) * E ≤ len * E := Nat.mul_le_mul_right _ (by omega)
            rw [Nat.add_mul, Nat.one_mul] at this; omega
          have hk : off' + i * E + j < cs.length := by omega
          refine ⟨hk, ?_⟩
          have h1 := congrArg (fun l : List AV => l[i * E + j]?) hc
          simp only [List.getElem?_take, List.getElem?_drop, hb, if_true, List.getElem?_map, flat_get hE i j hi hj, Option.map_some] at h1
          rw [← Nat.add_assoc, List.getElem?_eq_getElem hk] at h1
          exact Option.some.inj h1
        have := RelP.sl (w := w) (O := fun b => Im b ∨ φ id = some b) (xs := xs) (E := E) (b := b) (off := off') (cap := cap) (f := fun i j => c2.getD (off' + i * E + j) undef) (.inr hφ) (by omega)
          (fun i hi => hE _ (by simp))
          (fun i j hi hj => by
            obtain ⟨hk, _⟩ := hcells i j hi (by rw [hE _ (by simp)]; exact hj)
            exact hcell _ hk)
          (fun i j hi hj => by
            obtain ⟨hk, he⟩ := hcells i j hi hj
            have := hr _ hk
            rw [he] at this
            exact this.down.mono (fun _ _ => rfl) (fun _ h => .inl h))
        rw [hlen] at this
        exact this

theorem RelC.fresher {h : Heap} {v : Value} {x : AV} (hx : RelC w φ Im base h v x) (hf : x.fresh) (hI : ∀ b, Im b → base ≤ b → Im' b) : RelC w φ Im' base h v x := by
  cases hx with
  | s hv => exact .s hv
  | sl hp =>
    have : _ = true := hf
    subst this
    exact .sl (hp.mono (fun _ _ => rfl) (fun b hb => ⟨hI b hb.1 (hb.2 rfl), hb.2⟩))
  | ptr hid hv hst H => exact .ptr hid hv hst H
  | msl hid hv hst H => exact .msl hid hv hst H
  | ipt hO hc hp =>
    have : _ = true := hf
    subst this
    exact .ipt ⟨hI _ hO.1 (hO.2 rfl), hO.2⟩ hc (fun j hj => (hp j hj).mono (fun _ _ => rfl) (fun b hb => ⟨hI b hb.1 (hb.2 rfl), hb.2⟩))
  | fn hs hr =>
    have : _ = [] := hf
    subst this
    exact .fn hs (fun i hi => by simp at hi)
  | junk hv => exact .junk hv

theorem freshL_iff {l : List AT} : AT.freshL l ↔ ∀ x ∈ l, x.fresh := by
  induction l with
  | nil => simp [AT.freshL]
  | cons x l ih => simp [AT.freshL, ih]

theorem RelT.fresher {h : Heap} {v : Value} {x : AT} (hx : RelT w φ Im base h v x) : x.fresh → (∀ b, Im b → base ≤ b → Im' b) → RelT w φ Im' base h v x := by
  induction hx with
  | c hx => exact fun hf hI => .c (hx.fresher hf hI)
  | agg hs hr => exact fun hf hI => .agg hs (fun i hi => (hr i hi).fresher (hf _ (by simp)) hI)
  | tup hs _ ih => exact fun hf hI => .tup hs (fun i hi => ih i hi (freshL_iff.1 hf _ (by simp)) hI)

theorem RelC.pim {h : Heap} {v : Value} {x : AV} (hx : RelC w φ Im base h v x) (hI : ∀ b, Im b → Im' b) : RelC w φ Im' base h v x := by
  induction hx with
  | s hv => exact .s hv
  | sl hp => exact .sl (hp.mono (fun _ _ => rfl) (fun b hb => ⟨hI b hb.1, hb.2⟩))
  | ptr hid hv hst H => exact .ptr hid hv hst H
  | msl hid hv hst H => exact .msl hid hv hst H
  | ipt hO hc hp => exact .ipt ⟨hI _ hO.1, hO.2⟩ hc (fun j hj => (hp j hj).mono (fun _ _ => rfl) (fun b hb => ⟨hI b hb.1, hb.2⟩))
  | fn hs _ ih => exact .fn hs ih
  | junk hv => exact .junk hv
end
end
end Go.Ab
