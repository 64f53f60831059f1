/- RANKS AND NODES, as plain values. -/
import Derived.Test.YtpikidekdeglcaaAb30
namespace Go.Ab
open Go

theorem hL_zero {b : Option Blk} {l : List (Option Blk)} : hL (b :: l) 0 = some b := rfl
theorem hL_succ {b : Option Blk} {l : List (Option Blk)} {k : Nat} : hL (b :: l) (k + 1) = hL l k := rfl
theorem hL_nil {k : Nat} : hL [] k = none := rfl

theorem splice_zero {cs xs : List AV} : splice cs 0 xs = xs ++ cs.drop xs.length := by simp [splice]
theorem splice_succ {c : AV} {cs xs : List AV} {n : Nat} : splice (c :: cs) (n + 1) xs = c :: splice cs n xs := by
  simp [splice, Nat.add_right_comm]

structure U where
  a : Int
  b : Int
  c : Int
  d : Int
structure RankV where
  dist : Int
  tip : U
structure NodeV where
  acct : Int
  rank : RankV

def iP (n : Int) : PV := .one (.int .i64 n)
def uP (n : Int) : PV := .one (.int .u64 n)
def U.pv (u : U) : List PV := [uP u.a, uP u.b, uP u.c, uP u.d]
def RankV.pv (r : RankV) : List PV := [iP r.dist, uP r.tip.a, uP r.tip.b, uP r.tip.c, uP r.tip.d]
def NodeV.pv (n : NodeV) : List PV := [iP n.acct, iP n.rank.dist, uP n.rank.tip.a, uP n.rank.tip.b, uP n.rank.tip.c, uP n.rank.tip.d]
def iA (n : Int) : AV := .s (.int .i64 n)
def uA (n : Int) : AV := .s (.int .u64 n)
def U.cells (u : U) : List AV := [uA u.a, uA u.b, uA u.c, uA u.d]
def RankV.cells (r : RankV) : List AV := [iA r.dist, uA r.tip.a, uA r.tip.b, uA r.tip.c, uA r.tip.d]
def NodeV.cells (n : NodeV) : List AV := [iA n.acct, iA n.rank.dist, uA n.rank.tip.a, uA n.rank.tip.b, uA n.rank.tip.c, uA n.rank.tip.d]
/-- a row of nodes that is read -/
def nodesA (l : List NodeV) : AT := .c (.sl false (l.map NodeV.pv))

def cmpU (x y : U) : Int := if x.d < y.d then -1 else if x.d > y.d then 1 else if x.c < y.c then -1 else if x.c > y.c then 1 else if x.b < y.b then -1 else if x.b > y.b then 1 else if x.a < y.a then -1 else if x.a > y.a then 1 else 0
def cmpR (x y : RankV) : Int := if x.dist < y.dist then -1 else if x.dist > y.dist then 1 else cmpU x.tip y.tip
def orderN (x y : NodeV) : Int := if cmpR x.rank y.rank ≠ 0 then cmpR x.rank y.rank else IntKind.i64.wrap (x.acct - y.acct)
def belowN (x y : NodeV) : Bool := decide (cmpR x.rank y.rank < 0) || (decide (cmpR x.rank y.rank = 0) && decide (x.acct < y.acct))
def okR (r : RankV) : Bool := decide (-4096 ≤ r.dist) && decide (r.dist ≤ 0)
def okN (n : NodeV) : Bool := decide (0 ≤ n.acct) && decide (n.acct < 8) && okR n.rank
def findN (l : List NodeV) (a : Int) : Int := match l.findIdx? (fun n => n.acct == a) with
  | some i => (i : Int)
  | none => -1
theorem findN_at {l : List NodeV} {a : Int} {k : Nat} {n : NodeV} (hk : l[k]? = some n) (ha : n.acct = a) (hb : ∀ j m, j < k → l[j]? = some m → m.acct ≠ a) : findN l a = k := by
  have : l.findIdx? (fun n => n.acct == a) = some k := by
    rw [List.findIdx?_eq_some_iff_getElem]
    obtain ⟨hlt, hget⟩ := List.getElem?_eq_some_iff.1 hk
    refine ⟨hlt, by rw [hget]; simpa using ha, fun j hj => ?_⟩
    have := hb j l[j] hj (List.getElem?_eq_getElem (by omega))
    simpa using this
  simp [findN, this]
theorem findN_none {l : List NodeV} {a : Int} (hb : ∀ j m, j < l.length → l[j]? = some m → m.acct ≠ a) : findN l a = -1 := by
  have : l.findIdx? (fun n => n.acct == a) = none := by
    rw [List.findIdx?_eq_none_iff]
    intro n hn
    obtain ⟨j, hj, rfl⟩ := List.getElem_of_mem hn
    have := hb j l[j] hj (List.getElem?_eq_getElem hj)
    simpa using this
  simp [findN, this]
theorem getD_pv {l : List NodeV} {k : Nat} {n : NodeV} (hk : l[k]? = some n) : (l.map NodeV.pv).getD k [] = n.pv := by simp [hk]
/-- may this one stand where it stands? -/
def heapAt (l : List NodeV) (i : Nat) : Bool := match l[i]? with
  | some n => okN n && (findN l n.acct == (i : Int)) && (i == 0 || match l[(i - 1) / 2]? with
    | some p => !belowN n p
    | none => true)
  | none => true
def heapOk (l : List NodeV) : Bool := decide (l.length ≤ 8) && (List.range l.length).all (heapAt l)
theorem heapOk_false {l : List NodeV} {k : Nat} (hk : k < l.length) (h : heapAt l k = false) : heapOk l = false := by
  cases hh : heapOk l with
  | false => rfl
  | true =>
    simp only [heapOk, Bool.and_eq_true, decide_eq_true_eq, List.all_eq_true, List.mem_range] at hh
    rw [hh.2 k hk] at h; cases h
theorem order_below {x y : NodeV} (hx : okN x = true) (hy : okN y = true) : orderN x y < 0 ↔ belowN x y = true := by
  simp only [okN, Bool.and_eq_true, decide_eq_true_eq] at hx hy
  have e : IntKind.i64.wrap (x.acct - y.acct) = x.acct - y.acct := by
    simp only [IntKind.wrap, IntKind.bits, IntKind.signed]
    simp
    omega
  unfold orderN belowN
  rw [e]
  split
  · rename_i h
    simp [h]
  · rename_i h
    simp at h
    simp [h]; omega
end Go.Ab
