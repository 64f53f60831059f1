/- FROM WHAT IS HANDED IN, READ AS DATA, TO ABSTRACT VALUES. -/
import Derived.Test.YtpikidekdeglcaaAb35
import Derived.Deep.Slices
import Derived.Carry
import Derived.ProofKit
import Derived.OpenShut
set_option linter.all false
namespace Go.Ab
open Go Go.Deep Go.RowKit

def contigI (P : Program) : Nat → List (Nat × TypeId) → Nat → Bool
  | off, [], tot => off == tot
  | off, g :: l, tot => g.1 == off && contigI P (off + P.cellsOf g.2) l tot
def itemsOf (P : Program) (t : TypeId) : List (Nat × TypeId) := match P.underlying t with
  | some (.struct fs) => fs.toList.map fun g => (g.offset, g.type)
  | some (.array n e) => (List.range n).map fun i => (i * P.cellsOf e, e)
  | _ => []
def plainTy (P : Program) : Nat → TypeId → Bool
  | 0, _ => false
  | f + 1, t => match P.underlying t with
    | some .bool | some (.int _) | some .string => P.cellsOf t == 1
    | some (.slice e) => P.cellsOf t == 1 && plainTy P f e && decide (0 < P.cellsOf e)
    | some (.struct _) | some (.array _ _) => contigI P 0 (itemsOf P t) (P.cellsOf t) && (itemsOf P t).all fun g => plainTy P f g.2
    | _ => false

def allWT (R : TypeId → List PV → Prop) : List TypeId → List PV → Prop
  | [], l => l = []
  | t :: ts, l => ∃ p q, l = p ++ q ∧ R t p ∧ allWT R ts q
/-- of a type -/
def WT (P : Program) : Nat → TypeId → List PV → Prop
  | 0, _, _ => False
  | f + 1, t, l => match P.underlying t with
    | some .bool => ∃ b, l = [.one (.bool b)]
    | some (.int k) => ∃ n, l = [.one (.int k n)] ∧ (Lit.int k n).wf = true
    | some .string => ∃ s, l = [.one (.string s)] ∧ s.size ≤ maxLen
    | some (.slice e) => ∃ xs, l = [.sl xs] ∧ xs.length ≤ maxLen ∧ ∀ x ∈ xs, WT P f e x
    | some (.struct _) | some (.array _ _) => allWT (WT P f) ((itemsOf P t).map (·.2)) l
    | _ => False

structure RelL (w : World) (O : Nat → Prop) (cs : List Value) (l : List PV) : Prop where
  len : cs.length = l.length
  rel : ∀ (j : Nat) (h1 : j < cs.length) (h2 : j < l.length), RelP w O cs[j] l[j]
theorem RelL.nil {w : World} {O : Nat → Prop} : RelL w O [] [] := ⟨rfl, fun j h => by simp at h⟩
theorem RelL.one {w : World} {O : Nat → Prop} {v : Value} {x : PV} (h : RelP w O v x) : RelL w O [v] [x] := ⟨rfl, fun j h1 h2 => by
  have : j = 0 := by simp at h1; exact h1
  subst this; exact h⟩
theorem RelL.append {w : World} {O : Nat → Prop} {a c : List Value} {b d : List PV} (h1 : RelL w O a b) (h2 : RelL w O c d) : RelL w O (a ++ c) (b ++ d) := by
  refine ⟨by simp [h1.len, h2.len], fun j g1 g2 => ?_⟩
  by_cases hj : j < a.length
  · rw [List.getElem_append_left hj, List.getElem_append_left (by rw [← h1.len]; exact hj)]
    exact h1.rel j _ _
  · rw [List.getElem_append_right (by omega), List.getElem_append_right (by rw [← h1.len]; omega)]
    have e := h1.len
    have := h2.rel (j - a.length) (by simp at g1; omega) (by simp at g2; omega)
    simpa [e] using this

section
variable {H : Type} {enc : TypeId × Value → H} {P : Program} {w : World} {sp : Nat → Bool} {held : Bool}

theorem cells_read {a : Addr} {n : Nat} {cs : List Value} (h : w.cells? 0 a n = some cs) (hn : 0 < n) : ∃ b off, a = ⟨b, off, none⟩ ∧ b < w.heap.size ∧ cs.length = n ∧ ∀ j (hj : j < cs.length), w.cell? ⟨b, off + j, none⟩ = some cs[j] := by
  unfold World.cells? at h
  rw [if_pos (Nat.zero_le _)] at h
  have key : ∀ (is : List Nat) (out : List Value), is.mapM (fun i => w.cell? (a.add i)) = some out → out.length = is.length ∧ ∀ j (h1 : j < is.length) (h2 : j < out.length), w.cell? (a.add is[j]) = some out[j] := by
    intro is
    induction is with
    | nil => intro out h; simp at h; subst h; exact ⟨rfl, fun j h1 => by simp at h1⟩
    | cons i is ih =>
      intro out h
      rw [List.mapM_cons] at h
      simp only [bind, Option.bind_eq_some_iff, pure, Option.some.injEq] at h
      obtain ⟨v, h1, vs, h2, rfl⟩ := h
      obtain ⟨k1, k2⟩ := ih vs h2
      refine ⟨by simp [k1], fun j g1 g2 => ?_⟩
      cases j with
      | zero => exact h1
      | succ j => exact k2 j (by simpa using g1) (by simpa using g2)
  obtain ⟨k1, k2⟩ := key _ _ h
  simp at k1
  have h0 := k2 0 (by simpa using hn) (by omega)
  obtain ⟨b, off, spot⟩ := a
  have hspot : spot = none := by simpa [Addr.add] using World.cell?_spot h0
  subst hspot
  refine ⟨b, off, rfl, ?_, k1, fun j hj => ?_⟩
  · have h0' : w.cell? ⟨b, off, none⟩ = some cs[0] := by simpa [Addr.add] using h0
    unfold World.cell? at h0'
    split at h0'
    · rename_i hb; exact (Array.getElem?_eq_some_iff.1 hb).1
    · cases h0'
  · have := k2 j (by simp; omega) hj
    rw [List.getElem_range, Go.WideShapes.add_plain] at this
    exact this

/-- **WHAT READS AS DATA IS AN ABSTRACT VALUE** -/
theorem conv : ∀ (f : Nat) (t : TypeId) (fuel : Nat) (cs : List Value) (x : DataW H × List MemPlace), plainTy P f t = true → DataW.trod enc P w 0 sp held fuel t cs = some x →
    ∃ l, RelL w (fun b => b < w.heap.size) cs l ∧ WT P f t l
  | 0, t, fuel, cs, x, hp, h => by cases hp
  | f + 1, t, 0, cs, x, hp, h => by cases h
  | f + 1, t, fuel + 1, cs, x, hp, h => by
    have items : ∀ (m : Nat) (its : List (Nat × TypeId)) (off tot : Nat), contigI P off its tot = true → cs.length = tot → (its.all fun g => plainTy P f g.2) = true →
        (∀ g ∈ its, ∃ y, DataW.trod enc P w 0 sp held m g.2 ((cs.drop g.1).take (P.cellsOf g.2)) = some y) → ∃ l, RelL w (fun b => b < w.heap.size) (cs.drop off) l ∧ allWT (WT P f) (its.map (·.2)) l := by
      intro m its
      induction its with
      | nil =>
        intro off tot hc hl _ _
        simp only [contigI, beq_iff_eq] at hc
        refine ⟨[], ?_, rfl⟩
        rw [List.drop_of_length_le (by omega)]
        exact .nil
      | cons g its ih =>
        intro off tot hc hl ha hm
        simp only [contigI, Bool.and_eq_true, beq_iff_eq] at hc
        simp only [List.all_cons, Bool.and_eq_true] at ha
        obtain ⟨y, h1⟩ := hm g (by simp)
        obtain ⟨l1, r1, w1⟩ := conv f g.2 m _ y ha.1 h1
        obtain ⟨l2, r2, w2⟩ := ih _ tot hc.2 hl ha.2 (fun g' hg' => hm g' (by simp [hg']))
        refine ⟨l1 ++ l2, ?_, l1, l2, rfl, w1, w2⟩
        have := r1.append r2
        rw [hc.1, ← List.drop_drop, List.take_append_drop] at this
        exact this
    unfold plainTy at hp
    unfold WT
    split at hp
    · rename_i hu
      obtain ⟨b, rfl, _⟩ := DataW.trod_bool hu h
      exact ⟨_, .one (.one rfl), b, rfl⟩
    · rename_i k hu
      obtain ⟨n, rfl, _, hw⟩ := DataW.trod_int hu h
      exact ⟨_, .one (.one rfl), n, rfl, hw⟩
    · rename_i hu
      obtain ⟨b, rfl, _, hs⟩ := DataW.trod_string hu h
      exact ⟨_, .one (.one rfl), b, rfl, hs⟩
    · rename_i e hu
      simp only [Bool.and_eq_true, beq_iff_eq, decide_eq_true_eq] at hp
      obtain ⟨⟨hc1, hpe⟩, hE⟩ := hp
      rcases open_slice hu h with ⟨rfl, _⟩ | ⟨a, len, cap, m, n, D, Pl, rfl, _, hl, hmax, hm, _, hx⟩
      · exact ⟨_, .one .nil, [], rfl, by simp, fun x hx => by cases hx⟩
      · have hlm : len ≤ m := by rw [hm]; split <;> omega
        rcases Nat.eq_zero_or_pos len with h0 | h0
        · subst h0
          exact ⟨_, .one .nil, [], rfl, by simp, fun x hx => by cases hx⟩
        · have key : ∀ i, i < len → ∃ (q : Nat × Nat) (c : List Value) (l : List PV), a.add (i * P.cellsOf e) = ⟨q.1, q.2, none⟩ ∧ q.1 < w.heap.size ∧ c.length = P.cellsOf e ∧ (∀ j (hj : j < c.length), w.cell? ⟨q.1, q.2 + j, none⟩ = some c[j]) ∧ RelL w (fun b => b < w.heap.size) c l ∧ WT P f e l := by
            intro i hi
            obtain ⟨c, h1, h2⟩ := hx i (by omega)
            obtain ⟨b, off, g1, g2, g3, g4⟩ := cells_read h1 hE
            obtain ⟨l, r1, w1⟩ := conv f e n c _ hpe h2
            exact ⟨(b, off), c, l, g1, g2, g3, g4, r1, w1⟩
          obtain ⟨q0, c0, l0, a0, b0, _⟩ := key 0 h0
          have ha : a = ⟨q0.1, q0.2, none⟩ := by simpa [Addr.add] using a0
          obtain ⟨⟨b, off⟩, hq⟩ : ∃ q, q = q0 := ⟨_, rfl⟩
          subst hq
          subst ha
          simp only at *
          have key2 : ∀ i, ∃ cl : List Value × List PV, i < len → cl.1.length = P.cellsOf e ∧ (∀ j (hj : j < cl.1.length), w.cell? ⟨b, off + i * P.cellsOf e + j, none⟩ = some cl.1[j]) ∧ RelL w (fun b => b < w.heap.size) cl.1 cl.2 ∧ WT P f e cl.2 := by
            intro i
            by_cases hi : i < len
            · obtain ⟨q, c, l, g1, g2, g3, g4, g5, g6⟩ := key i hi
              rw [Go.WideShapes.add_plain] at g1
              obtain ⟨q1, q2⟩ := q
              simp only [Addr.mk.injEq, and_true] at g1
              obtain ⟨rfl, rfl⟩ := g1
              exact ⟨(c, l), fun _ => ⟨g3, g4, g5, g6⟩⟩
            · exact ⟨([], []), fun h => absurd h hi⟩
          obtain ⟨F, hF⟩ := Classical.axiomOfChoice key2
          refine ⟨[.sl ((List.range len).map fun i => (F i).2)], .one ?_, _, rfl, by simp only [List.length_map, List.length_range]; omega, fun x hx => ?_⟩
          · have hlen : ((List.range len).map fun i => (F i).2).length = len := by simp
            have := RelP.sl (w := w) (O := fun b => b < w.heap.size) (xs := (List.range len).map fun i => (F i).2) (E := P.cellsOf e) (b := b) (off := off) (cap := cap) (f := fun i j => (F i).1.getD j undef) b0 (by omega)
              (fun i hi => by
                simp only [List.length_map, List.length_range] at hi
                simp only [List.getElem_map, List.getElem_range]
                rw [← (hF i hi).2.2.1.len]; exact (hF i hi).1)
              (fun i j hi hj => by
                simp only [List.length_map, List.length_range] at hi
                have h1 := (hF i hi).1
                have := (hF i hi).2.1 j (by omega)
                rw [this, List.getD_eq_getElem?_getD, List.getElem?_eq_getElem (by omega)]; rfl)
              (fun i j hi hj => by
                simp only [List.length_map, List.length_range] at hi
                have h1 := (hF i hi).2.2.1
                simp only [List.getElem_map, List.getElem_range] at hj ⊢
                have := h1.rel j (by rw [h1.len]; exact hj) hj
                rw [List.getD_eq_getElem?_getD, List.getElem?_eq_getElem (by rw [h1.len]; exact hj)]; exact this)
            rw [hlen] at this
            exact this
          · obtain ⟨i, hi, rfl⟩ := List.mem_map.1 hx
            exact (hF i (by simpa using hi)).2.2.2
    · rename_i fs hu
      simp only [Bool.and_eq_true] at hp
      obtain ⟨xs, n, _, _, hl, hlen, hf⟩ := DataW.trod_struct hu h
      have := items n (itemsOf P t) 0 (P.cellsOf t) hp.1 hl hp.2 (fun g hg => by
        simp only [itemsOf, hu, List.mem_map] at hg
        obtain ⟨fd, hfd, rfl⟩ := hg
        obtain ⟨i, hi, rfl⟩ := List.getElem_of_mem hfd
        have hi' : i < fs.size := by simpa using hi
        have h1 := hf i fs[i] (by simp [hi'])
        refine ⟨xs[i]'(by omega), ?_⟩
        rw [List.getElem?_eq_getElem (by omega)] at h1
        simpa using h1)
      simpa using this
    · rename_i n e hu
      simp only [Bool.and_eq_true] at hp
      obtain ⟨xs, m, _, _, hl, hlen, hf⟩ := DataW.trod_array hu h
      have := items m (itemsOf P t) 0 (P.cellsOf t) hp.1 hl hp.2 (fun g hg => by
        simp only [itemsOf, hu, List.mem_map, List.mem_range] at hg
        obtain ⟨i, hi, rfl⟩ := hg
        have h1 := hf i hi
        exact ⟨xs[i]'(by omega), by rw [List.getElem?_eq_getElem (by omega)] at h1; exact h1⟩)
      simpa using this
    · cases hp
end

theorem calls_of_in {P : Program} {f : FuncId} {args : Array Value} {w : World} {R : Ending → World → Prop} (h : CallsIn (Fw none) 0 P f args w R) : Calls P f args w R := (callsIn_wide (n := 0)).1 h

/-- **A LAW's CALL, OUT OF ITS CONTRACT** -/
theorem lawCalls {P : Program} {g : FuncId} {arg : AT} {u : Value} (h : ACp P g [arg] (.c (.s u))) {W : World} {v : Value} (hv : RelT W (fun _ => none) (fun b => b < W.heap.size) W.heap.size (hL []) v arg) :
    Calls P g #[v] W (fun e W' => e = .returned u ∧ Below W.heap.size W W') := by
  refine calls_of_in (CallsIn.mono (h.2.2 W (fun _ => none) (fun b => b < W.heap.size) (fun _ => False) #[v] ?_ rfl ?_) ?_)
  · refine ⟨(fun id ty cs hid => by simp [hL] at hid), (fun i j b hi hj hb => by cases hb), fun b hb => ?_, (fun b hb => by simpa using hb), (fun j b h16 hl hb => by cases hb), Nat.le_refl _⟩
    obtain ⟨id, _, hφ⟩ := hb
    cases hφ
  · intro i hi
    have : i = 0 := by simp at hi; exact hi
    subst this
    exact hv
  · rintro e W' ⟨v', r, l', φ', Im', rfl, ⟨rfl, rfl⟩, _, _, hr, hx, _⟩
    have := RelT.s_inv hr
    subst this
    exact ⟨rfl, hx.os, hx.tape, hx.output, hx.size, fun k hk => hx.same k (.inl hk)⟩

theorem rel_agg {w : World} {arr : Array Value} {l : List PV} (h : RelL w (fun b => b < w.heap.size) arr.toList l) : RelT w (fun _ => none) (fun b => b < w.heap.size) w.heap.size (hL []) (.agg arr) (.agg (l.map (PV.up false))) := by
  refine .agg (by have := h.len; simpa using this) (fun i hi => ?_)
  have hi' : i < l.length := by simpa using hi
  have hlen := h.len
  have h1 := h.rel i (by omega) hi'
  rw [List.getElem_map]
  have e : arr.getD i undef = arr.toList[i]'(by omega) := by
    have : i < arr.size := by simp at hlen; omega
    simp [this]
  rw [e]
  exact RelP.up (fun b => by simp) h1
end Go.Ab
