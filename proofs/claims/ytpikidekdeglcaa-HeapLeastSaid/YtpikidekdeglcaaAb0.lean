/- ABSTRACT STATES: values and memory as plain data, and what it is for a machine's world to be one of them. -/
import Derived.CallsIn
import Derived.OrdersIn
import Derived.OwnWalkIn
import Derived.Laws.World
import Derived.Laws.CopyRow
import Derived.Laws.AppendOwn
import Derived.Laws.Rows
import Derived.RangeFuncNested
namespace Go.Ab
open Go

/-- what one cell of memory that nobody writes any more holds -/
inductive PV where
  | one (v : Value)
  | sl (xs : List (List PV))

/-- what one cell holds, or a temporary of one cell -/
inductive AV where
  | s (v : Value)
  | sl (fr : Bool) (xs : List (List PV))
  | ptr (id st off : Nat)
  | msl (E id st off len : Nat)
  | ipt (fr : Bool) (cs : List PV)
  | fn (f : FuncId) (caps : List AV)
  | junk

def PV.up (fr : Bool) : PV → AV
  | .one v => .s v
  | .sl xs => .sl fr xs

/-- what a temporary holds -/
inductive AT where
  | c (x : AV)
  | agg (cs : List AV)
  | tup (l : List AT)

abbrev Heap := Nat → Option (Option (TypeId × List AV))

structure ASt where
  t : Nat → Option AT
  h : Heap

/-! ### the relation -/
inductive RelP (w : World) (O : Nat → Prop) : Value → PV → Prop
  | one {v : Value} (hv : v.oneCell' = true) : RelP w O v (.one v)
  | nil {base : Option Addr} {cap : Nat} : RelP w O (.slice base 0 cap) (.sl [])
  | sl {xs : List (List PV)} {E b off cap : Nat} {f : Nat → Nat → Value} (hO : O b) (hcap : xs.length ≤ cap)
      (hE : ∀ (i : Nat) (hi : i < xs.length), xs[i].length = E)
      (hc : ∀ i j, i < xs.length → j < E → w.cell? ⟨b, off + i * E + j, none⟩ = some (f i j))
      (hr : ∀ (i j : Nat) (hi : i < xs.length) (hj : j < xs[i].length), RelP w O (f i j) (xs[i][j])) :
      RelP w O (.slice (some ⟨b, off, none⟩) xs.length cap) (.sl xs)

inductive RelC (w : World) (φ : Nat → Option Nat) (Im : Nat → Prop) (base : Nat) (h : Heap) : Value → AV → Prop
  | s {v : Value} (hv : v.oneCell' = true) : RelC w φ Im base h v (.s v)
  | sl {v : Value} {fr : Bool} {xs : List (List PV)} (hp : RelP w (fun b => Im b ∧ (fr = true → base ≤ b)) v (.sl xs)) : RelC w φ Im base h v (.sl fr xs)
  | ptr {v : Value} {id st off : Nat} (hid : h id ≠ none) (hv : v.oneCell' = true)
      (hst : ∀ ty cs, h id = some (some (ty, cs)) → st ≤ cs.length)
      (H : ∀ ty cs, h id = some (some (ty, cs)) → cs.length = st → ∃ b, φ id = some b ∧ v = .pointer (some ⟨b, off, none⟩)) :
      RelC w φ Im base h v (.ptr id st off)
  | msl {v : Value} {E id st off len : Nat} (hid : h id ≠ none) (hv : v.oneCell' = true)
      (hst : ∀ ty cs, h id = some (some (ty, cs)) → st ≤ cs.length)
      (H : ∀ ty cs, h id = some (some (ty, cs)) → cs.length = st →
        (φ id = none ∧ off = 0 ∧ len = 0 ∧ v = .slice none 0 0) ∨
        (∃ (b off' cap : Nat) (c : Array Value) (T : TypeId), φ id = some b ∧ v = .slice (some ⟨b, off', none⟩) len cap ∧ w.heap[b]? = some (Obj.cells c T (0, 0)) ∧ (0 < cap → off' = off) ∧
          off + cap * E ≤ c.size ∧ len ≤ cap ∧ cap ≤ maxLen)) :
      RelC w φ Im base h v (.msl E id st off len)
  | ipt {fr : Bool} {cs : List PV} {b off : Nat} {f : Nat → Value} (hO : Im b ∧ (fr = true → base ≤ b))
      (hc : ∀ j, j < cs.length → w.cell? ⟨b, off + j, none⟩ = some (f j))
      (hr : ∀ (j : Nat) (hj : j < cs.length), RelP w (fun b => Im b ∧ (fr = true → base ≤ b)) (f j) cs[j]) :
      RelC w φ Im base h (.pointer (some ⟨b, off, none⟩)) (.ipt fr cs)
  | fn {f : FuncId} {caps : List AV} {cv : Array Value} (hs : cv.size = caps.length)
      (hr : ∀ (i : Nat) (hi : i < caps.length), RelC w φ Im base h (cv.getD i undef) caps[i]) :
      RelC w φ Im base h (.func (.func f) #[] cv) (.fn f caps)
  | junk {v : Value} (hv : v.oneCell' = true) : RelC w φ Im base h v .junk

inductive RelT (w : World) (φ : Nat → Option Nat) (Im : Nat → Prop) (base : Nat) (h : Heap) : Value → AT → Prop
  | c {v : Value} {x : AV} (hx : RelC w φ Im base h v x) : RelT w φ Im base h v (.c x)
  | agg {arr : Array Value} {cs : List AV} (hs : arr.size = cs.length)
      (hr : ∀ (i : Nat) (hi : i < cs.length), RelC w φ Im base h (arr.getD i undef) cs[i]) : RelT w φ Im base h (.agg arr) (.agg cs)
  | tup {arr : Array Value} {l : List AT} (hs : arr.size = l.length)
      (hr : ∀ (i : Nat) (hi : i < l.length), RelT w φ Im base h (arr.getD i undef) l[i]) : RelT w φ Im base h (.tuple arr) (.tup l)

def Live (h : Heap) (id : Nat) : Prop := ∃ ty cs, h id = some (some (ty, cs))
def Own (φ : Nat → Option Nat) (h : Heap) (b : Nat) : Prop := ∃ id, Live h id ∧ φ id = some b

structure Ok (w : World) (φ : Nat → Option Nat) (Im Th : Nat → Prop) (base : Nat) (h : Heap) : Prop where
  heap : ∀ id ty cs, h id = some (some (ty, cs)) →
    (φ id = none ∧ cs = []) ∨
    ∃ (b : Nat) (c : Array Value), φ id = some b ∧ w.heap[b]? = some (Obj.cells c ty (0, 0)) ∧ cs.length ≤ c.size ∧
      ∀ (j : Nat) (hj : j < cs.length), RelC w φ Im base h (c.getD j undef) cs[j]
  inj : ∀ i j b, Live h i → Live h j → φ i = some b → φ j = some b → i = j
  disj : ∀ b, Own φ h b → ¬ Im b ∧ ¬ Th b
  lt : ∀ b, Im b ∨ Th b → b < w.heap.size
  new : ∀ id b, 16 ≤ id → Live h id → φ id = some b → base ≤ b
  base_le : base ≤ w.heap.size

/-- A STEP: what was known of values stays known. -/
structure Stp0 (w : World) (φ : Nat → Option Nat) (Im Th : Nat → Prop) (h : Heap) (w' : World) (φ' : Nat → Option Nat) (Im' : Nat → Prop) (h' : Heap) : Prop where
  size : w.heap.size ≤ w'.heap.size
  os : w'.os = w.os
  tape : w'.tape = w.tape
  output : w'.output = w.output
  same : ∀ b, Im b ∨ Th b → w'.heap[b]? = w.heap[b]?
  pi : ∀ b, Im b → Im' b
  own : ∀ b, Own φ' h' b → Own φ h b ∨ w.heap.size ≤ b
  pi' : ∀ b, Im' b → Im b ∨ Own φ h b ∨ w.heap.size ≤ b
  cells : ∀ (b : Nat) (c : Array Value) (T : TypeId) (fr : Nat × Nat), w.heap[b]? = some (Obj.cells c T fr) → ∃ c' : Array Value, w'.heap[b]? = some (Obj.cells c' T fr) ∧ c'.size = c.size
  ids : ∀ id, h id ≠ none → h' id ≠ none ∧ ∀ ty' cs', h' id = some (some (ty', cs')) →
    ∃ ty cs, h id = some (some (ty, cs)) ∧ cs.length ≤ cs'.length ∧ (cs.length = cs'.length → φ' id = φ id) ∧ ∀ b, φ' id = some b → φ id = some b ∨ w.heap.size ≤ b

/-- the same, and nothing else has turned -/
structure Stp (w : World) (φ : Nat → Option Nat) (Im Th : Nat → Prop) (h : Heap) (w' : World) (φ' : Nat → Option Nat) (Im' : Nat → Prop) (h' : Heap) : Prop where
  size : w.heap.size ≤ w'.heap.size
  os : w'.os = w.os
  tape : w'.tape = w.tape
  output : w'.output = w.output
  same : ∀ b, Im b ∨ Th b → w'.heap[b]? = w.heap[b]?
  all : ∀ b, b < w.heap.size → ¬ Own φ h b → w'.heap[b]? = w.heap[b]?
  pi : ∀ b, Im b → Im' b
  own : ∀ b, Own φ' h' b → Own φ h b ∨ w.heap.size ≤ b
  pi' : ∀ b, Im' b → Im b ∨ Own φ h b ∨ w.heap.size ≤ b
  cells : ∀ (b : Nat) (c : Array Value) (T : TypeId) (fr : Nat × Nat), w.heap[b]? = some (Obj.cells c T fr) → ∃ c' : Array Value, w'.heap[b]? = some (Obj.cells c' T fr) ∧ c'.size = c.size
  ids : ∀ id, h id ≠ none → h' id ≠ none ∧ ∀ ty' cs', h' id = some (some (ty', cs')) →
    ∃ ty cs, h id = some (some (ty, cs)) ∧ cs.length ≤ cs'.length ∧ (cs.length = cs'.length → φ' id = φ id) ∧ ∀ b, φ' id = some b → φ id = some b ∨ w.heap.size ≤ b

/-- what a piece of code keeps: as a step, of the first blocks (that were handed in) alone -/
structure Ext (m0 : Nat) (w : World) (φ : Nat → Option Nat) (Im Th : Nat → Prop) (h : Heap) (w' : World) (φ' : Nat → Option Nat) (Im' : Nat → Prop) (h' : Heap) : Prop where
  size : w.heap.size ≤ w'.heap.size
  os : w'.os = w.os
  tape : w'.tape = w.tape
  output : w'.output = w.output
  same : ∀ b, Im b ∨ Th b → w'.heap[b]? = w.heap[b]?
  all : ∀ b, b < w.heap.size → ¬ Own φ h b → w'.heap[b]? = w.heap[b]?
  pi : ∀ b, Im b → Im' b
  own : ∀ b, Own φ' h' b → Own φ h b ∨ w.heap.size ≤ b
  pi' : ∀ b, Im' b → Im b ∨ Own φ h b ∨ w.heap.size ≤ b
  cells : ∀ (b : Nat) (c : Array Value) (T : TypeId) (fr : Nat × Nat), w.heap[b]? = some (Obj.cells c T fr) → ∃ c' : Array Value, w'.heap[b]? = some (Obj.cells c' T fr) ∧ c'.size = c.size
  ids : ∀ id, id < m0 → h id ≠ none → h' id ≠ none ∧ ∀ ty' cs', h' id = some (some (ty', cs')) →
    ∃ ty cs, h id = some (some (ty, cs)) ∧ cs.length ≤ cs'.length ∧ (cs.length = cs'.length → φ' id = φ id) ∧ ∀ b, φ' id = some b → φ id = some b ∨ w.heap.size ≤ b

section
variable {w w' w'' : World} {φ φ' φ'' : Nat → Option Nat} {Im Im' Im'' Th : Nat → Prop} {h h' h'' : Heap} {base m0 : Nat}

theorem Stp.refl : Stp w φ Im Th h w φ Im h :=
  ⟨Nat.le_refl _, rfl, rfl, rfl, fun _ _ => rfl, fun _ _ _ => rfl, fun _ h => h, fun _ h => .inl h, fun _ h => .inl h, fun _ c _ _ h => ⟨c, h, rfl⟩,
   fun _ hid => ⟨hid, fun ty cs h => ⟨ty, cs, h, Nat.le_refl _, fun _ => rfl, fun _ hb => .inl hb⟩⟩⟩

theorem Stp.ext (hs : Stp w φ Im Th h w' φ' Im' h') : Ext m0 w φ Im Th h w' φ' Im' h' :=
  ⟨hs.size, hs.os, hs.tape, hs.output, hs.same, hs.all, hs.pi, hs.own, hs.pi', hs.cells, fun id _ => hs.ids id⟩
theorem Stp.zero (hs : Stp w φ Im Th h w' φ' Im' h') : Stp0 w φ Im Th h w' φ' Im' h' :=
  ⟨hs.size, hs.os, hs.tape, hs.output, hs.same, hs.pi, hs.own, hs.pi', hs.cells, hs.ids⟩

theorem Ext.refl : Ext m0 w φ Im Th h w φ Im h := Stp.refl.ext

theorem Ext.trans (a : Ext m0 w φ Im Th h w' φ' Im' h') (b : Ext m0 w' φ' Im' Th h' w'' φ'' Im'' h'') : Ext m0 w φ Im Th h w'' φ'' Im'' h'' where
  size := Nat.le_trans a.size b.size
  os := b.os.trans a.os
  tape := b.tape.trans a.tape
  output := b.output.trans a.output
  same := fun k hk => (b.same k (hk.imp (a.pi k) id)).trans (a.same k hk)
  all := fun k hk hn => (b.all k (Nat.lt_of_lt_of_le hk a.size) (fun ho => (a.own k ho).elim hn (fun h1 => by omega))).trans (a.all k hk hn)
  pi := fun k hk => b.pi k (a.pi k hk)
  own := fun k hk => by
    rcases b.own k hk with h1 | h1
    · exact a.own k h1
    · exact .inr (Nat.le_trans a.size h1)
  pi' := fun k hk => by
    rcases b.pi' k hk with h1 | h1 | h1
    · exact a.pi' k h1
    · exact .inr (a.own k h1)
    · exact .inr (.inr (Nat.le_trans a.size h1))
  cells := fun k c T fr hk => by
    obtain ⟨c1, h1, e1⟩ := a.cells k c T fr hk
    obtain ⟨c2, h2, e2⟩ := b.cells k c1 T fr h1
    exact ⟨c2, h2, e2.trans e1⟩
  ids := fun id hid hn => by
    obtain ⟨h1, k1⟩ := a.ids id hid hn
    obtain ⟨h2, k2⟩ := b.ids id hid h1
    refine ⟨h2, fun ty' cs' he => ?_⟩
    obtain ⟨ty, cs, e1, l1, p1, q1⟩ := k2 ty' cs' he
    obtain ⟨ty0, cs0, e0, l0, p0, q0⟩ := k1 ty cs e1
    refine ⟨ty0, cs0, e0, Nat.le_trans l0 l1, fun e => (p1 (by omega)).trans (p0 (by omega)), fun k hk => ?_⟩
    rcases q1 k hk with h3 | h3
    · exact q0 k h3
    · exact .inr (Nat.le_trans a.size h3)

theorem Stp.trans (a : Stp w φ Im Th h w' φ' Im' h') (b : Stp w' φ' Im' Th h' w'' φ'' Im'' h'') : Stp w φ Im Th h w'' φ'' Im'' h'' where
  size := Nat.le_trans a.size b.size
  os := b.os.trans a.os
  tape := b.tape.trans a.tape
  output := b.output.trans a.output
  same := fun k hk => (b.same k (hk.imp (a.pi k) id)).trans (a.same k hk)
  all := fun k hk hn => (b.all k (Nat.lt_of_lt_of_le hk a.size) (fun ho => (a.own k ho).elim hn (fun h1 => by omega))).trans (a.all k hk hn)
  pi := fun k hk => b.pi k (a.pi k hk)
  own := fun k hk => by
    rcases b.own k hk with h1 | h1
    · exact a.own k h1
    · exact .inr (Nat.le_trans a.size h1)
  pi' := fun k hk => by
    rcases b.pi' k hk with h1 | h1 | h1
    · exact a.pi' k h1
    · exact .inr (a.own k h1)
    · exact .inr (.inr (Nat.le_trans a.size h1))
  cells := fun k c T fr hk => by
    obtain ⟨c1, h1, e1⟩ := a.cells k c T fr hk
    obtain ⟨c2, h2, e2⟩ := b.cells k c1 T fr h1
    exact ⟨c2, h2, e2.trans e1⟩
  ids := fun id hn => by
    obtain ⟨h1, k1⟩ := a.ids id hn
    obtain ⟨h2, k2⟩ := b.ids id h1
    refine ⟨h2, fun ty' cs' he => ?_⟩
    obtain ⟨ty, cs, e1, l1, p1, q1⟩ := k2 ty' cs' he
    obtain ⟨ty0, cs0, e0, l0, p0, q0⟩ := k1 ty cs e1
    refine ⟨ty0, cs0, e0, Nat.le_trans l0 l1, fun e => (p1 (by omega)).trans (p0 (by omega)), fun k hk => ?_⟩
    rcases q1 k hk with h3 | h3
    · exact q0 k h3
    · exact .inr (Nat.le_trans a.size h3)

theorem RelP.mono {O O' : Nat → Prop} (hs : ∀ b, O b → w'.heap[b]? = w.heap[b]?) (hO : ∀ b, O b → O' b) {v : Value} {x : PV} (hr : RelP w O v x) : RelP w' O' v x := by
  induction hr with
  | one hv => exact .one hv
  | nil => exact .nil
  | sl hb hcap hE hc _ ih =>
    exact .sl (hO _ hb) hcap hE (fun i j hi hj => (World.cell?_of_block (hs _ hb)).trans (hc i j hi hj)) ih

theorem RelC.mono0 (hs : Stp0 w φ Im Th h w' φ' Im' h') {v : Value} {x : AV} (hr : RelC w φ Im base h v x) : RelC w' φ' Im' base h' v x := by
  induction hr with
  | s hv => exact .s hv
  | sl hp => exact .sl (hp.mono (fun b hb => hs.same b (.inl hb.1)) (fun b hb => ⟨hs.pi b hb.1, hb.2⟩))
  | ptr hid hv hst H =>
    obtain ⟨h1, h2⟩ := hs.ids _ hid
    refine .ptr h1 hv (fun ty cs he => ?_) (fun ty cs he hl => ?_)
    · obtain ⟨ty0, cs0, e0, l0, p0, _⟩ := h2 ty cs he
      exact Nat.le_trans (hst _ _ e0) l0
    · obtain ⟨ty0, cs0, e0, l0, p0, _⟩ := h2 ty cs he
      have := hst _ _ e0
      obtain ⟨b, hb, hv⟩ := H ty0 cs0 e0 (by omega)
      exact ⟨b, (p0 (by omega)).trans hb, hv⟩
  | msl hid hv hst H =>
    obtain ⟨h1, h2⟩ := hs.ids _ hid
    refine .msl h1 hv (fun ty cs he => ?_) (fun ty cs he hl => ?_)
    · obtain ⟨ty0, cs0, e0, l0, p0, _⟩ := h2 ty cs he
      exact Nat.le_trans (hst _ _ e0) l0
    · obtain ⟨ty0, cs0, e0, l0, p0, _⟩ := h2 ty cs he
      have := hst _ _ e0
      have pe := p0 (by omega)
      rcases H ty0 cs0 e0 (by omega) with ⟨hn, rest⟩ | ⟨b, off', cap, c, T, hb, hv, hw, r0, r1, r2, r3⟩
      · exact .inl ⟨pe.trans hn, rest⟩
      · obtain ⟨c', hc', hsz⟩ := hs.cells b c T _ hw
        exact .inr ⟨b, off', cap, c', T, pe.trans hb, hv, hc', r0, by omega, r2, r3⟩
  | ipt hO hc hp =>
    exact .ipt ⟨hs.pi _ hO.1, hO.2⟩ (fun j hj => (World.cell?_of_block (hs.same _ (.inl hO.1))).trans (hc j hj))
      (fun j hj => (hp j hj).mono (fun b hb => hs.same b (.inl hb.1)) (fun b hb => ⟨hs.pi b hb.1, hb.2⟩))
  | fn hsz _ ih => exact .fn hsz ih
  | junk hv => exact .junk hv

theorem RelT.mono0 (hs : Stp0 w φ Im Th h w' φ' Im' h') {v : Value} {x : AT} (hr : RelT w φ Im base h v x) : RelT w' φ' Im' base h' v x := by
  induction hr with
  | c hx => exact .c (hx.mono0 hs)
  | agg hsz hr => exact .agg hsz (fun i hi => (hr i hi).mono0 hs)
  | tup hsz _ ih => exact .tup hsz ih

theorem RelC.mono (hs : Stp w φ Im Th h w' φ' Im' h') {v : Value} {x : AV} (hr : RelC w φ Im base h v x) : RelC w' φ' Im' base h' v x := hr.mono0 hs.zero
theorem RelT.mono (hs : Stp w φ Im Th h w' φ' Im' h') {v : Value} {x : AT} (hr : RelT w φ Im base h v x) : RelT w' φ' Im' base h' v x := hr.mono0 hs.zero

theorem RelP.oneCell {O : Nat → Prop} {v : Value} {x : PV} (hr : RelP w O v x) : v.oneCell' = true := by
  cases hr with
  | one hv => exact hv
  | nil => rfl
  | sl => rfl

theorem RelC.oneCell {v : Value} {x : AV} (hr : RelC w φ Im base h v x) : v.oneCell' = true := by
  cases hr with
  | s hv => exact hv
  | sl hp => cases hp <;> rfl
  | ptr _ hv => exact hv
  | msl _ hv => exact hv
  | ipt => rfl
  | fn => rfl
  | junk hv => exact hv
end

/-- THE MARKS that loops over iterators leave among the deferred calls -/
def MarksOk (w : World) (Im Th : Nat → Prop) (base : Nat) (ms : List Deferred) : Prop :=
  ms.Nodup ∧ ∀ m ∈ ms, ∃ b, m = { target := .collected b, args := #[] } ∧ w.heap[b]? = some (.deferred (some [])) ∧ ¬ Im b ∧ ¬ Th b ∧ base ≤ b

theorem Ok.not_own {w : World} {φ : Nat → Option Nat} {Im Th : Nat → Prop} {base : Nat} {h : Heap} (hok : Ok w φ Im Th base h) {b : Nat} {o : Obj} (hb : w.heap[b]? = some o) (hn : ∀ c t f, o ≠ .cells c t f) : ¬ Own φ h b := by
  rintro ⟨id, ⟨ty, cs, hid⟩, hφ⟩
  rcases hok.heap id ty cs hid with ⟨h1, _⟩ | ⟨b', c, h1, h2, _⟩
  · rw [h1] at hφ; cases hφ
  · rw [hφ] at h1; cases h1
    rw [hb] at h2; cases h2; exact hn _ _ _ rfl

theorem MarksOk.of {w w' : World} {φ : Nat → Option Nat} {Im Im' Th : Nat → Prop} {base : Nat} {h : Heap} {ms : List Deferred} (hok : Ok w φ Im Th base h)
    (hall : ∀ b, b < w.heap.size → ¬ Own φ h b → w'.heap[b]? = w.heap[b]?) (hpi : ∀ b, Im' b → Im b ∨ Own φ h b ∨ w.heap.size ≤ b) (hm : MarksOk w Im Th base ms) : MarksOk w' Im' Th base ms := by
  refine ⟨hm.1, fun m hmem => ?_⟩
  obtain ⟨b, h1, h2, h3, h4, h5⟩ := hm.2 m hmem
  have hlt : b < w.heap.size := (Array.getElem?_eq_some_iff.1 h2).1
  have hno := hok.not_own h2 (fun c t f e => by cases e)
  refine ⟨b, h1, (hall b hlt hno).trans h2, fun hi => ?_, h4, h5⟩
  rcases hpi b hi with g | g | g
  · exact h3 g
  · exact hno g
  · omega

/-- the loop round that the code stands in, if any, has a record -/
def Rnd (r : Option Nat) (w : World) : Prop := ∀ l, r = some l → ∃ rec, w.heap[l]? = some (.loop rec)
theorem Rnd.of {w w' : World} {φ : Nat → Option Nat} {Im Th : Nat → Prop} {base : Nat} {h : Heap} {r : Option Nat} (hok : Ok w φ Im Th base h)
    (hall : ∀ b, b < w.heap.size → ¬ Own φ h b → w'.heap[b]? = w.heap[b]?) (hr : Rnd r w) : Rnd r w' := fun l hl => by
  obtain ⟨rec, h2⟩ := hr l hl
  exact ⟨rec, (hall l (Array.getElem?_eq_some_iff.1 h2).1 (hok.not_own h2 (fun c t f e => by cases e))).trans h2⟩
theorem Rnd.none {w : World} : Rnd none w := fun l hl => by cases hl

/-- a whole state -/
structure RelS (w : World) (φ : Nat → Option Nat) (Im Th : Nat → Prop) (base N : Nat) (D : List Deferred) (s : ASt) (a : Act) : Prop where
  ok : Ok w φ Im Th base s.h
  size : a.tmps.size = N
  defers : ∃ ms, a.defers = ms ++ D ∧ MarksOk w Im Th base ms
  tmps : ∀ k x, s.t k = some x → RelT w φ Im base s.h (a.tmps.getD k undef) x

end Go.Ab
