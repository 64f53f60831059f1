/- VALUES BUILT OUT OF PARTS; SLICES OF SLICES. -/
import Derived.Test.YtpikidekdeglcaaAb5
namespace Go.Ab
open Go

section
variable {P : Program} {w w' : World} {φ : Nat → Option Nat} {Im Th : Nat → Prop} {base N : Nat} {D : List Deferred} {s : ASt} {a : Act} {h : Heap}

theorem fold_set (off : Nat) : ∀ (l : List Value) (k : Nat) (cs : Array Value), off + k + l.length ≤ cs.size →
    ((l.zipIdx k).foldl (fun (cs : Array Value) (p : Value × Nat) => cs.setIfInBounds (off + p.2) p.1) cs).size = cs.size ∧
    ∀ j, ((l.zipIdx k).foldl (fun (cs : Array Value) (p : Value × Nat) => cs.setIfInBounds (off + p.2) p.1) cs).getD j undef =
      if off + k ≤ j ∧ j < off + k + l.length then l.getD (j - (off + k)) undef else cs.getD j undef
  | [], k, cs, _ => by
    refine ⟨rfl, fun j => ?_⟩
    rw [if_neg (by simp)]
    rfl
  | v :: l, k, cs, hl => by
    simp only [List.length_cons] at hl
    have ih := fold_set off l (k + 1) (cs.setIfInBounds (off + k) v) (by simp; omega)
    simp only [List.zipIdx_cons, List.foldl_cons]
    refine ⟨by rw [ih.1]; simp, fun j => ?_⟩
    rw [ih.2 j]
    by_cases h1 : off + (k + 1) ≤ j ∧ j < off + (k + 1) + l.length
    · rw [if_pos h1, if_pos (by simp; omega)]
      rw [show j - (off + k) = (j - (off + (k + 1))) + 1 by omega]
      simp
    · rw [if_neg h1]
      by_cases h2 : j = off + k
      · subst h2
        rw [if_pos (by simp)]
        simp [show off + k < cs.size by omega]
      · rw [if_neg (by simp; omega)]
        simp [Array.getElem?_setIfInBounds, show ¬ off + k = j by omega]

def fillA (place : Nat → Option (Nat × Nat)) (cells : List AV) : List (Nat × AT) → Option (List AV)
  | [] => some cells
  | (i, x) :: rest =>
    match place i with
    | none => none
    | some (off, size) => if x.flat = true ∧ x.cells.length = size ∧ off + size ≤ cells.length then fillA place (splice cells off x.cells) rest else none

theorem rel_fill {place : Nat → Option (Nat × Nat)} : ∀ (parts : List (Nat × AT)) (vs : List (Nat × Value)) (cells : List AV) (c : Array Value) (out : List AV),
    c.size = cells.length → (∀ (j : Nat) (hj : j < cells.length), RelC w φ Im base h (c.getD j undef) cells[j]) →
    vs.length = parts.length → (∀ (j : Nat) (hj : j < parts.length), (vs.getD j (0, undef)).1 = parts[j].1 ∧ RelT w φ Im base h (vs.getD j (0, undef)).2 parts[j].2) →
    fillA place cells parts = some out → ∃ c', Instr.fill place c vs = some c' ∧ c'.size = out.length ∧ out.length = cells.length ∧ ∀ (j : Nat) (hj : j < out.length), RelC w φ Im base h (c'.getD j undef) out[j]
  | [], vs, cells, c, out, hc, hr, hl, _, he => by
    cases he
    have : vs = [] := List.eq_nil_of_length_eq_zero (by simpa using hl)
    subst this
    exact ⟨c, rfl, hc, rfl, hr⟩
  | (i, x) :: rest, vs, cells, c, out, hc, hr, hl, hv, he => by
    cases vs with
    | nil => simp at hl
    | cons p vs =>
      obtain ⟨i', v⟩ := p
      have h0 := hv 0 (by simp)
      simp only [List.getD_cons_zero, List.getElem_cons_zero] at h0
      obtain ⟨rfl, hx⟩ := h0
      simp only [fillA] at he
      cases hp : place i' with
      | none => rw [hp] at he; cases he
      | some q =>
        obtain ⟨off, size⟩ := q
        rw [hp] at he
        simp only at he
        split at he
        · rename_i hcond
          obtain ⟨hf, hs, hle⟩ := hcond
          subst hs
          obtain ⟨hsz, hcells⟩ := rel_cells hx hf
          have hfold := fold_set off v.cells.toList 0 c (by simp; omega)
          have hst : (v.cells.zipIdx.foldl (fun cs (c, j) => cs.setIfInBounds (off + j) c) c) = (v.cells.toList.zipIdx 0).foldl (fun (cs : Array Value) (p : Value × Nat) => cs.setIfInBounds (off + p.2) p.1) c := by
            rw [← Array.foldl_toList]
            simp
          obtain ⟨c', h1, h2, h3, h4⟩ := rel_fill rest vs (splice cells off x.cells) _ out (by rw [hfold.1, splice_length hle]; exact hc)
            (fun j hj => by
              rw [hfold.2 j]
              have hj0 := hj
              rw [splice_length hle] at hj
              have key : ∀ y, (splice cells off x.cells)[j]? = some y → (splice cells off x.cells)[j] = y := fun y hy => by
                rw [List.getElem?_eq_getElem hj0] at hy; cases hy; rfl
              have hsp := splice_getElem (cs := cells) (xs := x.cells) (off := off) (j := j) hle
              by_cases g1 : off + 0 ≤ j ∧ j < off + 0 + v.cells.toList.length
              · rw [if_pos g1]
                have gl : v.cells.toList.length = x.cells.length := by simpa using hsz
                rw [if_neg (by omega), if_pos (by omega)] at hsp
                rw [key (x.cells[j - off]'(by omega)) (by rw [hsp]; exact List.getElem?_eq_getElem _)]
                have := hcells (j - off) (by omega)
                have hlt : j - off < v.cells.size := by omega
                simpa [hlt] using this
              · rw [if_neg g1]
                have gl : v.cells.toList.length = x.cells.length := by simpa using hsz
                have : (splice cells off x.cells)[j]? = cells[j]? := by
                  rw [hsp]
                  by_cases g2 : j < off
                  · rw [if_pos g2]
                  · rw [if_neg g2, if_neg (by omega)]
                rw [key cells[j] (by rw [this]; exact List.getElem?_eq_getElem _)]
                exact hr j hj)
            (by simpa using hl) (fun j hj => hv (j + 1) (by simp; omega)) he
          refine ⟨c', ?_, h2, by rw [h3, splice_length hle], h4⟩
          simp only [Instr.fill, hp]
          rw [if_neg (by rw [hsz, hc]; simp; omega), hst]
          exact h1
        · cases he

def placeS (P : Program) (fs : List (Nat × TypeId)) (i : Nat) : Option (Nat × Nat) :=
  match fs[i]? with
  | none => none
  | some (off, t) => match tiOf P t with
    | none => none
    | some ti => some (off, ti.size)

def buildA (P : Program) (t : TypeId) (parts : List (Nat × AT)) : Option (List AV) :=
  match tiOf P t with
  | none => none
  | some i => match i.k with
    | .struct fs => if fs.all (fun f => (tiOf P f.2).isSome) then fillA (placeS P fs) (i.zero.map (PV.up true)) parts else none
    | .array _ e => match tiOf P e with
      | none => none
      | some ie => fillA (fun k => some (k * ie.size, ie.size)) (i.zero.map (PV.up true)) parts
    | _ => none

theorem run_places {fs : List Field} (hall : (fs.map fun f => (f.offset, f.type)).all (fun f => (tiOf P f.2).isSome) = true) :
    (fs.mapM (fun f => do pure (f.offset, ← sizeOf f.type) : Field → Sem (Nat × Nat))).run P w = .ok (fs.map fun f => (f.offset, ((tiOf P f.type).map TI.size).getD 0)) w := by
  induction fs with
  | nil => rfl
  | cons f fs ih =>
    simp only [List.map_cons, List.all_cons, Bool.and_eq_true] at hall
    obtain ⟨i, hi⟩ := Option.isSome_iff_exists.1 hall.1
    rw [List.mapM_cons]
    simp only [Sem.run_bind, run_sizeOf' hi, Result.andThen_ok, Sem.run_pure, ih hall.2, List.map_cons, hi, Option.map_some, Option.getD_some]

theorem rel_build {t : TypeId} {parts : List (Nat × AT)} {vs : List (Nat × Value)} {out : List AV} (hl : vs.length = parts.length)
    (hv : ∀ (j : Nat) (hj : j < parts.length), (vs.getD j (0, undef)).1 = parts[j].1 ∧ RelT w φ Im base h (vs.getD j (0, undef)).2 parts[j].2) (he : buildA P t parts = some out) :
    ∃ u, (Instr.build t vs.toArray).run P w = .ok u w ∧ RelT w φ Im base h u (.agg out) := by
  unfold buildA at he
  cases hi : tiOf P t with
  | none => rw [hi] at he; cases he
  | some i =>
    rw [hi] at he
    simp only at he
    obtain ⟨z, hz, hzl, hz1, hzr⟩ := rel_zero (w := w) (φ := φ) (Im := Im) (base := base) (h := h) hi
    have hr0 : ∀ (j : Nat) (hj : j < (i.zero.map (PV.up true)).length), RelC w φ Im base h (z.cells.getD j undef) (i.zero.map (PV.up true))[j] := fun j hj => hzr j (by simpa using hj)
    cases hk : i.k with
    | struct fs =>
      rw [hk] at he
      simp only at he
      split at he
      · rename_i hall
        obtain ⟨fa, hu, hfa⟩ := under_struct hi hk
        obtain ⟨c', h1, h2, h3, h4⟩ := rel_fill parts vs _ z.cells out (by simp [hzl]) hr0 hl hv he
        have hpl : (fa.mapM (fun f => do pure (f.offset, ← sizeOf f.type) : Field → Sem (Nat × Nat))).run P w = .ok (fa.toList.map fun f => (f.offset, ((tiOf P f.type).map TI.size).getD 0)).toArray w := by
          rw [Array.mapM_eq_mapM_toList]
          have := run_places (P := P) (w := w) (fs := fa.toList) (by rw [hfa]; exact hall)
          simp only [Sem.run_map, this]
          rfl
        have hpe : (fun k => ((fa.toList.map fun f => (f.offset, ((tiOf P f.type).map TI.size).getD 0)).toArray)[k]?) = placeS P fs := by
          funext k
          simp only [placeS, ← hfa]
          cases hfk : fa[k]? with
          | none => simp [hfk]
          | some f =>
            have hmem : f ∈ fa.toList := by simpa using (Array.mem_of_getElem? hfk)
            have hsome : (tiOf P f.type).isSome = true := by
              rw [← hfa, List.all_map, List.all_eq_true] at hall
              exact hall f hmem
            obtain ⟨ti, hti⟩ := Option.isSome_iff_exists.1 hsome
            simp [hfk, hti]
        refine ⟨.agg c', ?_, .agg h2 h4⟩
        have hpl' := hpl
        simp only [bind, pure] at hpl'
        simp only [Instr.build, Sem.run_bind, hz, Result.andThen_ok, run_underlying hu]
        simp only [bind, pure]
        rw [hpl']
        simp only [Result.andThen_ok, hpe, h1]
        rfl
      · cases he
    | array n e =>
      rw [hk] at he
      simp only at he
      cases hie : tiOf P e with
      | none => rw [hie] at he; cases he
      | some ie =>
        rw [hie] at he
        simp only at he
        obtain ⟨c', h1, h2, h3, h4⟩ := rel_fill parts vs _ z.cells out (by simp [hzl]) hr0 hl hv he
        refine ⟨.agg c', ?_, .agg h2 h4⟩
        simp only [Instr.build, Sem.run_bind, hz, Result.andThen_ok, run_underlying (under_array hi hk), run_sizeOf' hie, h1]
        rfl
    | _ => rw [hk] at he; cases he
end
end Go.Ab
