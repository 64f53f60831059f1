/- FROM A FUNCTION TO ITS WALK. -/
import Derived.Test.YtpikidekdeglcaaAb24
namespace Go.Ab
open Go
noncomputable section

theorem AC.walk {P : Program} {g : FuncId} {fn : Func} {c : Code} {N : Nat} {rs : List ResultVar} {args : List AT} {l : List (Option Blk)} {R : AT → List (Option Blk) → Prop} (hf : P.funcs[g]? = some fn) (hb : fn.body = some c)
    (hname : (fn.name == "runtime.NumGoroutine") = false) (hN : fn.ntmps = N) (hrs : fn.results.toList = rs) (hn : args.length ≤ N) (h16 : l.length ≤ 16)
    (h : wpc ⟨P, N, l.length⟩ c (RetK ⟨P, N, l.length⟩ rs R) ⟨fun k => args[k]?, hL l⟩) : AC P g args l R := by
  subst hN; subst hrs
  exact AC.intro hf hb hname hn h16 (WP.of h)

/-- the end of a function that returns no block of its own -/
def RetE (C : Cx) (R : AT → List (Option Blk) → Prop) : Option (Prop × AT) → Prop
  | some (c, r) => c ∧ C.m0 = 0 ∧ r.nrm.refs = [] ∧ R r.nrm []
  | none => False
def RetP (C : Cx) (rs : List ResultVar) (R : AT → List (Option Blk) → Prop) : Exit → ASt → Prop
  | .normal, s | .ret, s => RetE C R (resOf C.P s rs)
  | _, _ => False
theorem RetP_ret {C : Cx} {rs : List ResultVar} {R : AT → List (Option Blk) → Prop} {s : ASt} : RetP C rs R .ret s = RetE C R (resOf C.P s rs) := rfl
theorem RetP_normal {C : Cx} {rs : List ResultVar} {R : AT → List (Option Blk) → Prop} {s : ASt} : RetP C rs R .normal s = RetE C R (resOf C.P s rs) := rfl
@[congr] theorem RetP_congr {C : Cx} {rs : List ResultVar} {R : AT → List (Option Blk) → Prop} {s s' : ASt} {e : Exit} (h : s = s') : RetP C rs R e s = RetP C rs R e s' := by rw [h]
@[congr] theorem RetK_congr {C : Cx} {rs : List ResultVar} {R : AT → List (Option Blk) → Prop} {s s' : ASt} {e : Exit} (h : s = s') : RetK C rs R e s = RetK C rs R e s' := by rw [h]

theorem RetP.k {C : Cx} {rs : List ResultVar} {R : AT → List (Option Blk) → Prop} {s : ASt} {e : Exit} (h : RetP C rs R e s) : RetK C rs R e s := by
  have key : RetE C R (resOf C.P s rs) → RetK C rs R .ret s := by
    intro h
    unfold RetE at h
    split at h
    · rename_i c r hres
      obtain ⟨hc, hm, hrefs, hR⟩ := h
      exact ⟨s, c, r, r.nrm, [], fun j => j, Sub.refl, hres, hc, by rw [AT.ren_id], by rw [hrefs]; simp, by simp [hm], by simp, by simp [hm], by simp, by simp, hR⟩
    · exact h.elim
  cases e with
  | normal => exact key h
  | ret => exact key h
  | _ => exact h.elim

/-- a function that returns no block of its own -/
theorem AC.plain {P : Program} {g : FuncId} {fn : Func} {c : Code} {N : Nat} {rs : List ResultVar} {args : List AT} {R : AT → List (Option Blk) → Prop} (hf : P.funcs[g]? = some fn) (hb : fn.body = some c)
    (hname : (fn.name == "runtime.NumGoroutine") = false) (hN : fn.ntmps = N) (hrs : fn.results.toList = rs) (hn : args.length ≤ N)
    (h : wpc ⟨P, N, 0⟩ c (RetP ⟨P, N, 0⟩ rs R) ⟨fun k => args[k]?, fun _ => none⟩) : AC P g args [] R := by
  subst hN; subst hrs
  exact AC.intro hf hb hname hn (Nat.zero_le _) (WP.mono (WP.of h) fun _ _ h => h.k)

def resJ : Option (Prop × AT) → Option (Prop × List AT) → Option (Prop × List AT)
  | some (c, x), some (d, xs) => some (c ∧ d, x :: xs)
  | _, _ => none
def resE : Option (Prop × List AT) → Option (Prop × AT)
  | some (c, [x]) => some (c, x)
  | some (c, xs) => some (c, .tup xs)
  | none => none
theorem resOf_eq {P : Program} {s : ASt} {l : List ResultVar} : resOf P s l = resE (resAll P s l) := by
  unfold resOf resE
  generalize resAll P s l = x
  rcases x with _ | ⟨c, xs⟩
  · rfl
  · match xs with
    | [] => rfl
    | [x] => rfl
    | x :: y :: l => rfl
theorem resAll_nil {P : Program} {s : ASt} : resAll P s [] = some (True, []) := rfl
theorem resAll_cons {P : Program} {s : ASt} {v : ResultVar} {l : List ResultVar} : resAll P s (v :: l) = resJ (resVar P s v) (resAll P s l) := by
  rw [resAll]
  generalize resVar P s v = x
  generalize resAll P s l = y
  rcases x with _ | ⟨c, xs⟩ <;> rcases y with _ | ⟨d, ys⟩ <;> rfl
theorem resJ_some {c d : Prop} {x : AT} {xs : List AT} : resJ (some (c, x)) (some (d, xs)) = some (c ∧ d, x :: xs) := rfl
theorem resE_one {c : Prop} {x : AT} : resE (some (c, [x])) = some (c, x) := rfl
theorem resE_nil {c : Prop} : resE (some (c, [])) = some (c, .tup []) := rfl
theorem resE_more {c : Prop} {x y : AT} {l : List AT} : resE (some (c, x :: y :: l)) = some (c, .tup (x :: y :: l)) := rfl
theorem RetE_some {C : Cx} {R : AT → List (Option Blk) → Prop} {c : Prop} {r : AT} : RetE C R (some (c, r)) = (c ∧ C.m0 = 0 ∧ r.nrm.refs = [] ∧ R r.nrm []) := rfl
def resVT (x : Option AT) : Option (Prop × AT) := x.map fun x => (True, x)
theorem resVT_some {x : AT} : resVT (some x) = some (True, x) := rfl
def resVL : Eff → Option (Prop × AT)
  | .val c x => some (c, x)
  | _ => none
theorem resVL_val {c : Prop} {x : AT} : resVL (.val c x) = some (c, x) := rfl
theorem resVar_tmp {P : Program} {t : Nat → Option AT} {h : Heap} {k : Nat} : resVar P ⟨t, h⟩ (.tmp k) = resVT (t k) := rfl
theorem resVar_cell {P : Program} {t : Nat → Option AT} {h : Heap} {a : Nat} {ty : TypeId} : resVar P ⟨t, h⟩ (.cell a ty) = resVL (effLoad P h ty (t a)) := by
  rw [resVar]
  show (match effLoad P h ty (t a) with | .val c x => some (c, x) | _ => none) = _
  generalize effLoad P h ty (t a) = e
  cases e <;> rfl

theorem getElem?_lit_zero {α : Type} {x : α} {l : List α} : (x :: l)[0]? = some x := rfl
theorem getElem?_lit_succ {α : Type} {x : α} {l : List α} {k : Nat} : (x :: l)[k + 1]? = l[k]? := rfl

/-- a function that returns one thing, and no memory -/
theorem RetK.pure {C : Cx} {s : ASt} {rs : List ResultVar} {R : AT → List (Option Blk) → Prop} {c : Prop} {r : AT} (hm : C.m0 = 0) (hres : resOf C.P s rs = some (c, r)) (hc : c) (hr : r.nrm = r) (hrefs : r.refs = []) (hR : R r []) : RetK C rs R .ret s :=
  ⟨s, c, r, r, [], fun j => j, Sub.refl, hres, hc, by rw [hr, AT.ren_id], by rw [hrefs]; simp, by simp [hm], by simp, by simp [hm], by simp, by simp, hR⟩
theorem RetK.normal {C : Cx} {s : ASt} {rs : List ResultVar} {R : AT → List (Option Blk) → Prop} (h : RetK C rs R .ret s) : RetK C rs R .normal s := h
end
end Go.Ab
