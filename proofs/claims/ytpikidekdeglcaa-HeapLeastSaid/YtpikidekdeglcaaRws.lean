/- ROWS OF NODES in memory that is written. -/
import Derived.Test.YtpikidekdeglcaaHp
import Derived.Test.YtpikidekdeglcaaAb34
set_option linter.all false
namespace Go.Ab
open Go

def rowsA (l : List NodeV) : List AV := l.flatMap NodeV.cells
theorem rowsA_len (l : List NodeV) : (rowsA l).length = l.length * 6 := by
  induction l with
  | nil => rfl
  | cons n l ih => simp only [rowsA, List.flatMap_cons, List.length_append, List.length_cons] at *; rw [ih]; simp [NodeV.cells]; omega
theorem rowsA_nil : rowsA [] = [] := rfl
theorem rowsA_cons {n : NodeV} {l : List NodeV} : rowsA (n :: l) = n.cells ++ rowsA l := rfl
theorem rowsA_append {l m : List NodeV} : rowsA (l ++ m) = rowsA l ++ rowsA m := by simp [rowsA]
theorem rowsA_one {n : NodeV} : rowsA [n] = n.cells := by simp [rowsA]
theorem cells_len (n : NodeV) : n.cells.length = 6 := rfl
theorem rowsA_drop : ∀ (l : List NodeV) (i : Nat), (rowsA l).drop (i * 6) = rowsA (l.drop i)
  | l, 0 => by simp
  | [], i + 1 => by simp [rowsA_nil]
  | n :: l, i + 1 => by
    rw [rowsA_cons, show (i + 1) * 6 = n.cells.length + i * 6 by rw [cells_len]; omega, List.drop_length_add_append, rowsA_drop l i]
    rfl
theorem rowsA_take : ∀ (l : List NodeV) (i : Nat), (rowsA l).take (i * 6) = rowsA (l.take i)
  | l, 0 => by simp [rowsA_nil]
  | [], i + 1 => by simp [rowsA_nil]
  | n :: l, i + 1 => by
    rw [rowsA_cons, show (i + 1) * 6 = n.cells.length + i * 6 by rw [cells_len]; omega, List.take_length_add_append, rowsA_take l i]
    rfl
theorem rowsA_at {l : List NodeV} {i : Nat} {n : NodeV} (h : l[i]? = some n) : ((rowsA l).drop (i * 6)).take 6 = n.cells := by
  rw [rowsA_drop]
  obtain ⟨hi, rfl⟩ := List.getElem?_eq_some_iff.1 h
  rw [List.drop_eq_getElem_cons hi, rowsA_cons, List.take_append_of_le_length (by simp [cells_len])]
  rfl
theorem rowsA_splice {l : List NodeV} {i : Nat} (n : NodeV) (h : i < l.length) : splice (rowsA l) (i * 6) n.cells = rowsA (l.set i n) := by
  unfold splice
  rw [rowsA_take, show i * 6 + n.cells.length = (i + 1) * 6 by rw [cells_len]; omega, rowsA_drop]
  rw [List.set_eq_take_append_cons_drop, if_pos h, rowsA_append, rowsA_cons, List.append_assoc]
theorem rowsA_up (l : List NodeV) (fr : Bool) : rowsA l = (l.flatMap NodeV.pv).map (PV.up fr) := by
  induction l with
  | nil => rfl
  | cons n l ih => rw [rowsA_cons, ih]; simp [NodeV.pv, NodeV.cells, PV.up, iA, iP, uA, uP]
theorem refsL_append {l m : List AV} : AV.refsL (l ++ m) = AV.refsL l ++ AV.refsL m := by
  induction l with
  | nil => rfl
  | cons x l ih => simp [AV.refsL, ih]
theorem rowsA_refs (l : List NodeV) : AV.refsL (rowsA l) = [] := by
  induction l with
  | nil => rfl
  | cons n l ih => rw [rowsA_cons, refsL_append, ih]; rfl
theorem swapL_eq {l : List NodeV} {i j : Nat} {x y : NodeV} (hx : l[i]? = some x) (hy : l[j]? = some y) : swapL l i j = (l.set i y).set j x := by
  unfold swapL; rw [hx, hy]
theorem riseL_step {l : List NodeV} {i : Nat} {x y : NodeV} (h : 0 < i) (hx : l[i]? = some x) (hy : l[par i]? = some y) (hb : belowN x y = true) : riseL l i = riseL ((l.set i y).set (par i) x) (par i) := by
  rw [riseL, if_pos ⟨h, by rw [hx, hy]; exact hb⟩, swapL_eq hx hy]
theorem riseL_stop {l : List NodeV} {i : Nat} (h : ¬ (0 < i ∧ belowO l[i]? l[par i]? = true)) : riseL l i = (l, i) := by rw [riseL, if_neg h]
theorem kidL_two {l : List NodeV} {i : Nat} {r q : NodeV} (h : 2 * i + 2 < l.length) (hr : l[2 * i + 2]? = some r) (hq : l[2 * i + 1]? = some q) (hb : belowN r q = true) : kidL l i = 2 * i + 2 := by
  unfold kidL; rw [if_pos ⟨h, by rw [hr, hq]; exact hb⟩]
theorem kidL_one {l : List NodeV} {i : Nat} (h : ¬ (2 * i + 2 < l.length ∧ belowO l[2 * i + 2]? l[2 * i + 1]? = true)) : kidL l i = 2 * i + 1 := by
  unfold kidL; rw [if_neg h]
theorem sinkL_step {l : List NodeV} {i k : Nat} {x y : NodeV} (hk : kidL l i = k) (h : 2 * i + 1 < l.length) (hx : l[i]? = some x) (hy : l[k]? = some y) (hb : belowN y x = true) : sinkL l i = sinkL ((l.set i y).set k x) k := by
  rw [sinkL, if_pos ⟨h, by rw [hk, hx, hy]; exact hb⟩, hk, swapL_eq hx hy]
theorem sinkL_stop {l : List NodeV} {i k : Nat} {x y : NodeV} (hk : kidL l i = k) (hx : l[i]? = some x) (hy : l[k]? = some y) (hb : belowN y x = false) : sinkL l i = l := by
  rw [sinkL, if_neg (by rw [hk, hx, hy]; show ¬ (_ ∧ belowN y x = true); rw [hb]; simp)]
theorem sinkL_end {l : List NodeV} {i : Nat} (h : ¬ 2 * i + 1 < l.length) : sinkL l i = l := by rw [sinkL, if_neg (by intro hh; exact h hh.1)]
def zeroN : NodeV := ⟨0, ⟨0, ⟨0, 0, 0, 0⟩⟩⟩
def headN (l : List NodeV) : NodeV := l.headD zeroN
def leastR (l : List NodeV) : AT := if heapOk l = true then (if l.length = 0 then .tup [.agg zeroN.cells, .c (iA 3)] else .tup [.agg (headN l).cells, .c (iA 0)]) else .tup [.agg zeroN.cells, .c (iA 1)]
/-- the row, as a value -/
def mslA (l : List NodeV) : AV := .msl 6 0 (l.length * 6) 0 l.length
theorem rowsA_nrm (l : List NodeV) : (rowsA l).map AV.nrm = rowsA l := by
  induction l with
  | nil => rfl
  | cons n l ih => rw [rowsA_cons, List.map_append, ih]; rfl
theorem rowsA_wk (l : List NodeV) : (rowsA l).map AV.wk = rowsA l := by
  induction l with
  | nil => rfl
  | cons n l ih => rw [rowsA_cons, List.map_append, ih]; rfl
theorem rowsA_ren (τ : Nat → Nat) (l : List NodeV) : AV.renL τ (rowsA l) = rowsA l := AV.renL_nil _ (rowsA_refs l)
theorem oldAll_append {l m : List AV} : oldAll (l ++ m) = (oldAll l ∧ oldAll m) := by
  induction l with
  | nil => simp [oldAll]
  | cons x l ih => simp [oldAll, ih, and_assoc]
theorem rowsA_old (l : List NodeV) : oldAll (rowsA l) = True := by
  induction l with
  | nil => rfl
  | cons n l ih => rw [rowsA_cons, oldAll_append, ih]; simp [oldAll, NodeV.cells, iA, uA, AV.oldCaps]
theorem rowsA_fresh (l : List NodeV) : (∀ x ∈ rowsA l, x.fresh) = True := by
  refine eq_true ?_
  induction l with
  | nil => intro x hx; cases hx
  | cons n l ih =>
    intro x hx
    rw [rowsA_cons] at hx
    rcases List.mem_append.1 hx with h | h
    · simp only [NodeV.cells, iA, uA, List.mem_cons, List.not_mem_nil, or_false] at h
      rcases h with rfl | rfl | rfl | rfl | rfl | rfl <;> trivial
    · exact ih x h
theorem rowsA_flat (l : List NodeV) (fr : Bool) : (List.map NodeV.pv l).flatten.map (PV.up fr) = rowsA l := by rw [rowsA_up l fr, List.flatMap_def]
theorem pv_len6 (l : List NodeV) : (∀ z ∈ List.map NodeV.pv l, z.length = 6) = True := eq_true (fun z hz => by obtain ⟨n, _, rfl⟩ := List.mem_map.1 hz; rfl)
theorem push_at {P : Program} {g : FuncId} {l : List NodeV} {n : NodeV} {T : TypeId} {e1 e2 : AT} (h : AC P g [nodesA l, .agg n.cells] [] (fun r l' =>
    if heapOk l = true ∧ okN n = true then (if findN l n.acct < 0 then r = .tup [.c (mslA (pushL l n)), .c (iA 0)] ∧ l' = [some (T, rowsA (pushL l n))] else r = e1 ∧ l' = [])
    else r = e2 ∧ l' = [])) (h1 : heapOk l = true) (h2 : okN n = true) (h3 : findN l n.acct < 0) :
    AC P g [nodesA l, .agg n.cells] [] (fun r l' => r = .tup [.c (mslA (pushL l n)), .c (iA 0)] ∧ l' = [some (T, rowsA (pushL l n))]) :=
  h.mono fun r l' hr => by rw [if_pos ⟨h1, h2⟩, if_pos h3] at hr; exact hr
attribute [go_sem] rowsA_len rowsA_refs rowsA_nrm rowsA_wk rowsA_ren rowsA_old
end Go.Ab
