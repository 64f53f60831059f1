/- WHAT ONE OPERATION DOES TO AN ABSTRACT STATE. -/
import Derived.Test.YtpikidekdeglcaaAb8
namespace Go.Ab
open Go
noncomputable section

inductive Eff where
  | val (c : Prop) (x : AT)
  | put (c : Prop) (id : Nat) (b : TypeId × List AV) (x : Option AT)
  | alt (c p : Prop) (x y : AT)
  | bad

def site (d : Nat) : Nat := 16 * (d + 1)

/-- the values of cells that hold no memory -/
def valsOf : List AV → Option (List Value)
  | [] => some []
  | .s v :: r => (valsOf r).map (v :: ·)
  | _ :: _ => none

/-- a comparison of structs or arrays: what the machine's comparison comes to is whether the cells are the same -/
def EqT (P : Program) (t : TypeId) (xs ys : List AV) : Prop :=
  ∃ vx vy, valsOf xs = some vx ∧ valsOf ys = some vy ∧ P.eqGuardType P.depth t = false ∧
    ∀ w, (Op.equal t (.agg vx.toArray) (.agg vy.toArray)).run P w = .ok (@decide (xs = ys) (Classical.propDecidable _)) w

def effMove (x : Option AT) : Eff := match x with
  | some t => .val True t
  | none => .bad

def effPick (t : Option AT) (x y : Option AT) : Eff := match t with
  | some (.c (.s (.bool true))) => effMove x
  | some (.c (.s (.bool false))) => effMove y
  | _ => .bad

def effBin (P : Program) (op : BinOp) (t : TypeId) : Option AT → Option AT → Eff
  | some (.c (.s (.int k a))), some (.c (.s (.int k' b))) => .val (intBin op k k' a b).1 (.c (.s (intBin op k k' a b).2))
  | some (.c (.s (.string a))), some (.c (.s (.string b))) => .val (strBin op a b).1 (.c (.s (strBin op a b).2))
  | some (.c (.s (.bool a))), some (.c (.s (.bool b))) =>
    match op with
    | .eql => .val ((tiOf P t).map TI.k = some .bool) (.c (.s (.bool (a == b))))
    | .neq => .val ((tiOf P t).map TI.k = some .bool) (.c (.s (.bool (!(a == b)))))
    | _ => .bad
  | some (.agg xs), some (.agg ys) =>
    match op with
    | .eql => .val (EqT P t xs ys) (.c (.s (.bool (@decide (xs = ys) (Classical.propDecidable _)))))
    | .neq => .val (EqT P t xs ys) (.c (.s (.bool (!(@decide (xs = ys) (Classical.propDecidable _))))))
    | _ => .bad
  | some (.c (.sl _ xs)), some (.c (.s (.slice none 0 0))) =>
    match op with
    | .eql => .alt (∃ e, (tiOf P t).map TI.k = some (.slice e)) (xs = []) (.c (.s (.bool true))) (.c (.s (.bool false)))
    | .neq => .alt (∃ e, (tiOf P t).map TI.k = some (.slice e)) (xs = []) (.c (.s (.bool false))) (.c (.s (.bool true)))
    | _ => .bad
  | some (.c (.fn _ _)), some (.c (.s .nilFunc)) =>
    match op with
    | .eql => .val (∃ i ps rs v, P.info? t = some i ∧ P.underlying t = some (.func ps rs v)) (.c (.s (.bool false)))
    | .neq => .val (∃ i ps rs v, P.info? t = some i ∧ P.underlying t = some (.func ps rs v)) (.c (.s (.bool true)))
    | _ => .bad
  | _, _ => .bad

def effUn (op : UnOp) : Option AT → Eff
  | some (.c (.s (.bool a))) => match op with
    | .not => .val True (.c (.s (.bool (!a))))
    | _ => .bad
  | some (.c (.s (.int k n))) => match op with
    | .neg => .val True (.c (.s (.int k (k.wrap (0 - n)))))
    | _ => .bad
  | _ => .bad

def effConv (P : Program) (src dst : TypeId) : Option AT → Eff
  | some (.c (.s (.int _ n))) => match (tiOf P dst).map TI.k with
    | some (.int k) => .val ((tiOf P src).isSome = true) (.c (.s (.int k (k.wrap n))))
    | _ => .bad
  | some (.c (.s (.string b))) => match (tiOf P src).map TI.k, (tiOf P dst).map TI.k with
    | some .str, some .str => .val True (.c (.s (.string b)))
    | _, _ => .bad
  | _ => .bad

def effLen (P : Program) (h : Heap) (t : TypeId) : Option AT → Eff
  | some (.c (.s (.string b))) => .val ((tiOf P t).map TI.k = some .str) (.c (.s (.int .i64 b.size)))
  | some (.c (.s (.slice none 0 0))) => .val (∃ e, (tiOf P t).map TI.k = some (.slice e)) (.c (.s (.int .i64 0)))
  | some (.c (.sl _ xs)) => .val (∃ e, (tiOf P t).map TI.k = some (.slice e)) (.c (.s (.int .i64 xs.length)))
  | some (.c (.msl _ id st _ len)) => .val (Cur h id st ∧ ∃ e, (tiOf P t).map TI.k = some (.slice e)) (.c (.s (.int .i64 len)))
  | _ => .bad

def effMinMax (mx : Bool) : Option AT → Option AT → Eff
  | some (.c (.s (.int k a))), some (.c (.s (.int _ b))) => .val True (.c (.s (.int k (if mx then (if b > a then b else a) else (if b < a then b else a)))))
  | _, _ => .bad

def effFieldAddr (P : Program) (h : Heap) (t : TypeId) (f : Nat) : Option AT → Eff
  | some (.c (.ptr id st o)) => match (tiOf P t).map TI.k with
    | some (.struct fs) => match fs[f]? with
      | some (off, ft) => .val (Cur h id st ∧ ∃ fi, tiOf P ft = some fi ∧ fi.size ≠ 0) (.c (.ptr id st (o + off)))
      | none => .bad
    | _ => .bad
  | some (.c (.ipt fr cs)) => match (tiOf P t).map TI.k with
    | some (.struct fs) => match fs[f]? with
      | some (off, ft) => .val (∃ fi, tiOf P ft = some fi ∧ fi.size ≠ 0) (.c (.ipt fr (cs.drop off)))
      | none => .bad
    | _ => .bad
  | _ => .bad

def effField (P : Program) (t : TypeId) (f : Nat) : Option AT → Eff
  | some (.agg cs) => match (tiOf P t).map TI.k with
    | some (.struct fs) => match fs[f]? with
      | some (off, ft) => match tiOf P ft with
        | some fi => .val ((fi.k.agg = false → fi.size = 1) ∧ off + fi.size ≤ cs.length) (partOf fi cs off)
        | none => .bad
      | none => .bad
    | _ => .bad
  | _ => .bad

/-- an element's description, of a slice's type -/
def slE (P : Program) (t : TypeId) : Option (TypeId × TI) :=
  match (tiOf P t).map TI.k with
  | some (.slice e) => (tiOf P e).map fun i => (e, i)
  | _ => none
def arE (P : Program) (t : TypeId) : Option (Nat × TI) :=
  match (tiOf P t).map TI.k with
  | some (.array n e) => (tiOf P e).map fun i => (n, i)
  | _ => none

def effIndexAddr (P : Program) (h : Heap) (t : TypeId) : Option AT → Option AT → Eff
  | some (.c (.sl fr xs)), some (.c (.s (.int _ n))) => match slE P t with
    | some (_, ie) => .val (0 ≤ n ∧ n < (xs.length : Int) ∧ (xs.getD n.toNat []).length = ie.size) (.c (.ipt fr (xs.getD n.toNat [])))
    | none => .bad
  | some (.c (.msl E id st off len)), some (.c (.s (.int _ n))) => match slE P t with
    | some (_, ie) => .val (Cur h id st ∧ 0 ≤ n ∧ n < (len : Int) ∧ E = ie.size) (.c (.ptr id st (off + n.toNat * E)))
    | none => .bad
  | some (.c (.ptr id st o)), some (.c (.s (.int _ n))) => match arE P t with
    | some (len, ie) => .val (Cur h id st ∧ 0 ≤ n ∧ n < (len : Int)) (.c (.ptr id st (o + n.toNat * ie.size)))
    | none => .bad
  | some (.c (.ipt fr cs)), some (.c (.s (.int _ n))) => match arE P t with
    | some (len, ie) => .val (0 ≤ n ∧ n < (len : Int)) (.c (.ipt fr (cs.drop (n.toNat * ie.size))))
    | none => .bad
  | _, _ => .bad

def effIndex (P : Program) (t : TypeId) : Option AT → Option AT → Eff
  | some (.agg cs), some (.c (.s (.int _ n))) => match arE P t with
    | some (len, ie) => .val ((ie.k.agg = false → ie.size = 1) ∧ 0 ≤ n ∧ n < (len : Int) ∧ n.toNat * ie.size + ie.size ≤ cs.length) (partOf ie cs (n.toNat * ie.size))
    | none => .bad
  | some (.c (.s (.string b))), some (.c (.s (.int _ n))) => .val ((tiOf P t).map TI.k = some .str ∧ 0 ≤ n ∧ n < (b.size : Int)) (.c (.s (.int .u8 ((b.data.toList.getD n.toNat 0).toNat : Int))))
  | _, _ => .bad

def effLoad (P : Program) (h : Heap) (t : TypeId) : Option AT → Eff
  | some (.c (.ptr id st off)) => match tiOf P t with
    | some i => match h id with
      | some (some (_, cs)) => .val (cs.length = st ∧ (i.k.agg = false → i.size = 1) ∧ off + i.size ≤ cs.length) (partOf i cs off)
      | _ => .bad
    | none => .bad
  | some (.c (.ipt fr cs)) => match tiOf P t with
    | some i => .val ((i.k.agg = false → i.size = 1) ∧ i.size ≤ cs.length) (partOf i (cs.map (PV.up fr)) 0)
    | none => .bad
  | _ => .bad

def effStore (P : Program) (h : Heap) (t : TypeId) : Option AT → Option AT → Eff
  | some (.c (.ptr id st off)), some x => match tiOf P t with
    | some i => match h id with
      | some (some (ty, cs)) => .put (cs.length = st ∧ x.flat = true ∧ x.cells.length = i.size ∧ off + x.cells.length ≤ cs.length) id (ty, splice cs off x.cells) none
      | _ => .bad
    | none => .bad
  | _, _ => .bad

def effAlloc (P : Program) (h : Heap) (d : Nat) (t : TypeId) : Eff := match tiOf P t with
  | some i => .put (h (site d) = none) (site d) (t, i.zero.map (PV.up true)) (some (.c (.ptr (site d) i.zero.length 0)))
  | none => .bad

def effBox (h : Heap) (d : Nat) (t : TypeId) : Option AT → Eff
  | some x => .put (h (site d) = none ∧ x.flat = true) (site d) (t, x.cells) (some (.c (.ptr (site d) x.cells.length 0)))
  | none => .bad

def evParts (s : ASt) : List (Nat × Operand) → Option (List (Nat × AT))
  | [] => some []
  | (i, x) :: r => match s.ev x, evParts s r with
    | some t, some l => some ((i, t) :: l)
    | _, _ => none

def effBuild (P : Program) (t : TypeId) : Option (List (Nat × AT)) → Eff
  | some parts => match buildA P t parts with
    | some out => .val True (.agg out)
    | none => .bad
  | none => .bad

def effBuildSlice (P : Program) (h : Heap) (d : Nat) (t : TypeId) (n : Nat) : Option (List (Nat × AT)) → Eff
  | some parts => match slE P t with
    | some (e, ie) => .put (h (site d) = none ∧ n * ie.size ≤ 16777216 ∧ 0 < ie.size ∧ ie.zero.length = ie.size ∧ parts.map (·.1) = List.range n ∧ ∀ x ∈ parts.map (·.2), x.flat = true ∧ x.cells.length = ie.size)
        (site d) (e, (parts.map (·.2)).flatMap AT.cells) (some (.c (.msl ie.size (site d) (n * ie.size) 0 n)))
    | none => .bad
  | none => .bad

def evOpt (s : ASt) : Option Operand → Option (Option AT)
  | none => some none
  | some x => match s.ev x with
    | some t => some (some t)
    | none => none

def effSlice (P : Program) (h : Heap) (t : TypeId) : Option AT → Option AT → Option AT → Eff
  | some (.c (.s (.string b))), lo, hi => match loOf lo, hiOf b.size hi with
    | some l, some u => .val ((tiOf P t).map TI.k = some .str ∧ 0 ≤ l ∧ l ≤ u ∧ u ≤ (b.size : Int)) (.c (.s (.string (b.extract l.toNat u.toNat))))
    | _, _ => .bad
  | some (.c (.sl fr xs)), lo, hi => match loOf lo, hiOf xs.length hi, slE P t with
    | some l, some u, some (_, ie) => .val (0 ≤ l ∧ l ≤ u ∧ u ≤ (xs.length : Int) ∧ ∀ z ∈ xs, z.length = ie.size) (.c (.sl fr ((xs.drop l.toNat).take (u.toNat - l.toNat))))
    | _, _, _ => .bad
  | some (.c (.msl E id st off len)), lo, hi => match loOf lo, hiOf len hi, slE P t with
    | some l, some u, some (_, ie) => .val (Cur h id st ∧ E = ie.size ∧ 0 ≤ l ∧ l ≤ u ∧ u ≤ (len : Int)) (.c (.msl E id st (off + l.toNat * E) (u.toNat - l.toNat)))
    | _, _, _ => .bad
  | some (.c (.ptr id st o)), lo, hi => match arE P t with
    | some (n, ie) => match loOf lo, hiOf n hi with
      | some l, some u => .val (Cur h id st ∧ 0 ≤ l ∧ l ≤ u ∧ u ≤ (n : Int) ∧ o + n * ie.size ≤ st ∧ n ≤ maxLen) (.c (.msl ie.size id st (o + l.toNat * ie.size) (u.toNat - l.toNat)))
      | _, _ => .bad
    | none => .bad
  | _, _, _ => .bad

def effNil (h : Heap) : Option AT → Eff
  | some (.c (.ptr id st o)) => .val (Cur h id st) (.c (.ptr id st o))
  | some (.c (.ipt fr cs)) => .val True (.c (.ipt fr cs))
  | some (.c (.fn f caps)) => .val True (.c (.fn f caps))
  | _ => .bad

def effExtract (k : Nat) : Option AT → Eff
  | some (.tup l) => match l[k]? with
    | some x => .val True x
    | none => .bad
  | _ => .bad

def evCaps (s : ASt) : List Operand → Option (List AV)
  | [] => some []
  | x :: r => match s.ev x, evCaps s r with
    | some (.c v), some l => some (v :: l)
    | _, _ => none

def effFunc : Fn → Option (List AV) → Eff
  | .func f, some caps => .val True (.c (.fn f caps))
  | _, _ => .bad

/-- the cells that an append's second operand hands on, and how many elements -/
def srcOf (h : Heap) (E : Nat) : Option AT → Option (Prop × Nat × List AV)
  | some (.c (.sl fr xs)) => some (∀ z ∈ xs, z.length = E, xs.length, xs.flatten.map (PV.up fr))
  | some (.c (.s (.slice none 0 0))) => some (True, 0, [])
  | some (.c (.s (.string b))) => some (E = 1, b.size, b.data.toList.map fun x => AV.s (.int .u8 x.toNat))
  | some (.c (.msl E' id st off len)) => match h id with
    | some (some (_, cs)) => some (cs.length = st ∧ E' = E ∧ off + len * E ≤ st, len, (cs.drop off).take (len * E))
    | _ => none
  | _ => none

def effAppend (P : Program) (h : Heap) (d : Nat) (t xt : TypeId) : Option AT → Option AT → Eff
  | some (.c (.msl E id st off len)), x => match slE P t, h id with
    | some (e, ie), some (some (ty, cs)) => match srcOf h E x with
      | some (c, m, xs) => .put (c ∧ cs.length = st ∧ ty = e ∧ E = ie.size ∧ off = 0 ∧ st = len * E ∧ 0 < E ∧ ie.zero.length = ie.size ∧ (len + m) * ie.bytes ≤ 140737488355328 ∧ len + m ≤ 9223372036854775807 ∧
            (∃ xi, tiOf P xt = some xi ∧ ∀ k, xi.k ≠ .int k)) id (e, cs ++ xs) (some (.c (.msl E id ((len + m) * E) 0 (len + m))))
      | none => .bad
    | _, _ => .bad
  | some (.c (.s (.slice none 0 0))), x => match slE P t with
    | some (e, ie) => match srcOf h ie.size x with
      | some (c, m, xs) => .put (c ∧ h (site d) = none ∧ 0 < ie.size ∧ ie.zero.length = ie.size ∧ m * ie.bytes ≤ 140737488355328 ∧ m ≤ 9223372036854775807 ∧
            (∃ xi, tiOf P xt = some xi ∧ ∀ k, xi.k ≠ .int k)) (site d) (e, xs) (some (.c (.msl ie.size (site d) (m * ie.size) 0 m)))
      | none => .bad
    | none => .bad
  | _, _ => .bad

def effBuiltin (P : Program) (s : ASt) (d : Nat) (b : Builtin) (args : List Operand) (ts : List TypeId) : Eff :=
  match b, args, ts with
  | .len, [x], [t] => effLen P s.h t (s.ev x)
  | .max, [x, y], _ => effMinMax true (s.ev x) (s.ev y)
  | .min, [x, y], _ => effMinMax false (s.ev x) (s.ev y)
  | .append, [x, y], [t, u] => effAppend P s.h d t u (s.ev x) (s.ev y)
  | _, _, _ => .bad

def eff (P : Program) (s : ASt) (d : Nat) (op : Op) : Eff :=
  match op with
  | .move x | .assign x => effMove (s.ev x)
  | .pick c x y => effPick (s.ev c) (s.ev x) (s.ev y)
  | .alloc t => effAlloc P s.h d t
  | .box t x => effBox s.h d t (s.ev x)
  | .build t ps => effBuild P t (evParts s ps.toList)
  | .buildSlice t n ps => effBuildSlice P s.h d t n (evParts s ps.toList)
  | .load t x => effLoad P s.h t (s.ev x)
  | .store t x y => effStore P s.h t (s.ev x) (s.ev y)
  | .nilCheck x => effNil s.h (s.ev x)
  | .binOp op t x y _ => effBin P op t (s.ev x) (s.ev y)
  | .unOp op _ x => effUn op (s.ev x)
  | .convert a b x => effConv P a b (s.ev x)
  | .makeFunc f first caps => if first.size = 0 then effFunc f (evCaps s caps.toList) else .bad
  | .slice t x lo hi none => match evOpt s lo, evOpt s hi with
    | some l, some u => effSlice P s.h t (s.ev x) l u
    | _, _ => .bad
  | .fieldAddr t x f => effFieldAddr P s.h t f (s.ev x)
  | .field t x f => effField P t f (s.ev x)
  | .indexAddr t x i => effIndexAddr P s.h t (s.ev x) (s.ev i)
  | .index t x i => effIndex P t (s.ev x) (s.ev i)
  | .extract x k => effExtract k (s.ev x)
  | .call c => match c.callee with
    | .builtin b => effBuiltin P s d b c.args.toList c.argTypes.toList
    | _ => .bad
  | _ => .bad
end
end Go.Ab
