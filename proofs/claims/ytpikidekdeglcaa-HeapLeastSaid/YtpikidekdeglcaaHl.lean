/- WHAT HeapLeast KEEPS, in plain Lean. -/
import Derived.Test.YtpikidekdeglcaaRws
set_option linter.all false
namespace Go.Ab
open Go

/-! ### rows of whatever is of one length -/
section
variable {α : Type} {f : α → List AV} {E : Nat}
theorem rowsG_len (hf : ∀ x, (f x).length = E) (l : List α) : (l.flatMap f).length = l.length * E := by
  induction l with
  | nil => simp
  | cons n l ih => simp only [List.flatMap_cons, List.length_append, List.length_cons, hf, ih]; rw [Nat.add_mul, Nat.one_mul]; omega
theorem rowsG_drop (hf : ∀ x, (f x).length = E) : ∀ (l : List α) (i : Nat), (l.flatMap f).drop (i * E) = (l.drop i).flatMap f
  | l, 0 => by simp
  | [], i + 1 => by simp
  | n :: l, i + 1 => by
    rw [List.flatMap_cons, show (i + 1) * E = (f n).length + i * E by rw [hf, Nat.add_mul, Nat.one_mul]; omega, List.drop_length_add_append, rowsG_drop hf l i]
    rfl
theorem rowsG_take (hf : ∀ x, (f x).length = E) : ∀ (l : List α) (i : Nat), (l.flatMap f).take (i * E) = (l.take i).flatMap f
  | l, 0 => by simp
  | [], i + 1 => by simp
  | n :: l, i + 1 => by
    rw [List.flatMap_cons, show (i + 1) * E = (f n).length + i * E by rw [hf, Nat.add_mul, Nat.one_mul]; omega, List.take_length_add_append, rowsG_take hf l i]
    rfl
theorem rowsG_at (hf : ∀ x, (f x).length = E) {l : List α} {i : Nat} {n : α} (h : l[i]? = some n) : ((l.flatMap f).drop (i * E)).take E = f n := by
  rw [rowsG_drop hf]
  obtain ⟨hi, rfl⟩ := List.getElem?_eq_some_iff.1 h
  rw [List.drop_eq_getElem_cons hi, List.flatMap_cons, List.take_append_of_le_length (by rw [hf]; exact Nat.le_refl _), List.take_of_length_le (by rw [hf]; exact Nat.le_refl _)]
theorem rowsG_splice (hf : ∀ x, (f x).length = E) {l : List α} {i : Nat} (n : α) (h : i < l.length) : splice (l.flatMap f) (i * E) (f n) = (l.set i n).flatMap f := by
  unfold splice
  rw [rowsG_take hf, hf, show i * E + E = (i + 1) * E by rw [Nat.add_mul, Nat.one_mul], rowsG_drop hf]
  rw [List.set_eq_take_append_cons_drop, if_pos h, List.flatMap_append, List.flatMap_cons, List.append_assoc]
theorem rowsG_refs (hf : ∀ x, AV.refsL (f x) = []) (l : List α) : AV.refsL (l.flatMap f) = [] := by
  induction l with
  | nil => rfl
  | cons n l ih => rw [List.flatMap_cons, refsL_append, hf, ih]; rfl
end
def ranksA (l : List RankV) : List AV := l.flatMap RankV.cells
def boolC (b : Bool) : List AV := [.s (.bool b)]
def boolsA (l : List Bool) : List AV := l.flatMap boolC
theorem ranksA_len (l : List RankV) : (ranksA l).length = l.length * 5 := rowsG_len (f := RankV.cells) (fun _ => rfl) l
theorem ranksA_at {l : List RankV} {i : Nat} {n : RankV} (h : l[i]? = some n) : ((ranksA l).drop (i * 5)).take 5 = n.cells := rowsG_at (f := RankV.cells) (fun _ => rfl) h
theorem ranksA_splice {l : List RankV} {i : Nat} (n : RankV) (h : i < l.length) : splice (ranksA l) (i * 5) n.cells = ranksA (l.set i n) := rowsG_splice (f := RankV.cells) (fun _ => rfl) n h
theorem ranksA_refs (l : List RankV) : AV.refsL (ranksA l) = [] := rowsG_refs (f := RankV.cells) (fun _ => rfl) l
theorem boolsA_len (l : List Bool) : (boolsA l).length = l.length := by have := rowsG_len (f := boolC) (E := 1) (fun _ => rfl) l; simpa [boolsA] using this
theorem boolsA_get {l : List Bool} {i : Nat} {b : Bool} (h : l[i]? = some b) : (boolsA l).getD i .junk = .s (.bool b) := by
  have h1 := rowsG_at (f := boolC) (E := 1) (fun _ => rfl) h
  rw [Nat.mul_one] at h1
  have h2 := congrArg (fun m : List AV => m[0]?) h1
  simp only [List.getElem?_take, List.getElem?_drop, boolC] at h2
  simp only [List.getD_eq_getElem?_getD]
  simp at h2
  rw [boolsA, h2]; rfl
theorem boolsA_splice {l : List Bool} {i : Nat} (b : Bool) (h : i < l.length) : splice (boolsA l) i [.s (.bool b)] = boolsA (l.set i b) := by
  have := rowsG_splice (f := boolC) (E := 1) (fun _ => rfl) b h
  rw [Nat.mul_one] at this; exact this
theorem boolsA_refs (l : List Bool) : AV.refsL (boolsA l) = [] := rowsG_refs (f := boolC) (fun _ => rfl) l
attribute [go_sem] ranksA_len ranksA_refs boolsA_len boolsA_refs

theorem pv_all6 (l : List NodeV) : ∀ z ∈ List.map NodeV.pv l, z.length = 6 := fun z hz => by obtain ⟨n, _, rfl⟩ := List.mem_map.1 hz; rfl
theorem pv_flat (l : List NodeV) : ((l.flatMap NodeV.pv).drop 0).take (l.length * 6) = (l.map NodeV.pv).flatten := by
  rw [List.drop_zero, ← List.flatMap_def]
  refine List.take_of_length_le ?_
  have := rowsA_len l
  rw [rowsA_up l true, List.length_map] at this
  omega
theorem leastR_nil : leastR [] = .tup [.agg zeroN.cells, .c (iA 3)] := by
  have : heapOk [] = true := by decide
  simp [leastR, this]
theorem leastR_cons {n : NodeV} {l : List NodeV} (h : heapOk (n :: l) = true) : leastR (n :: l) = .tup [.agg n.cells, .c (iA 0)] := by
  simp [leastR, h, headN]
/-! ### acts -/
structure ActV where
  act : Int
  n : NodeV
def ActV.pv (a : ActV) : List PV := iP a.act :: a.n.pv
def inI (x : Int) : Prop := -2 ^ 63 ≤ x ∧ x < 2 ^ 63
structure ActOk (a : ActV) : Prop where
  acct : inI a.n.acct
  dist : inI a.n.rank.dist

/-! ### what is kept -/
structure RB (h : List NodeV) (rs : List RankV) (bs : List Bool) : Prop where
  rl : rs.length = 8
  bl : bs.length = 8
  iff : ∀ a : Nat, a < 8 → (bs[a]? = some true ↔ ∃ n ∈ h, n.acct = (a : Int))
  rk : ∀ n ∈ h, ∀ a : Nat, n.acct = (a : Int) → rs[a]? = some n.rank
theorem RB.none_of {h : List NodeV} {rs : List RankV} {bs : List Bool} (hr : RB h rs bs) {a : Nat} (ha : a < 8) (hb : bs[a]? = some false) : ∀ m ∈ h, m.acct ≠ (a : Int) := by
  intro m hm e
  have := (hr.iff a ha).2 ⟨m, hm, e⟩
  rw [hb] at this; cases this
theorem RB.push {h h' : List NodeV} {rs : List RankV} {bs : List Bool} {n : NodeV} {a : Nat} (hr : RB h rs bs) (ha : a < 8) (hn : n.acct = (a : Int)) (hb : bs[a]? = some false) (hp : h'.Perm (n :: h)) : RB h' (rs.set a n.rank) (bs.set a true) := by
  refine ⟨by simp [hr.rl], by simp [hr.bl], fun c hc => ?_, fun m hm c hmc => ?_⟩
  · rw [List.getElem?_set]
    by_cases e : a = c
    · subst e
      simp only [if_true, hr.bl, ha]
      exact ⟨fun _ => ⟨n, hp.mem_iff.2 (by simp), hn⟩, fun _ => trivial⟩
    · rw [if_neg e, hr.iff c hc]
      constructor
      · rintro ⟨m, hm, e2⟩; exact ⟨m, hp.mem_iff.2 (by simp [hm]), e2⟩
      · rintro ⟨m, hm, e2⟩
        rcases List.mem_cons.1 (hp.mem_iff.1 hm) with rfl | h1
        · exfalso; rw [hn] at e2; apply e; omega
        · exact ⟨m, h1, e2⟩
  · rw [List.getElem?_set]
    rcases List.mem_cons.1 (hp.mem_iff.1 hm) with rfl | h1
    · have : a = c := by omega
      subst this
      simp [hr.rl, ha]
    · by_cases e : a = c
      · subst e; exact absurd hmc (hr.none_of ha hb m h1)
      · rw [if_neg e]; exact hr.rk m h1 c hmc
theorem acct_inj {l : List NodeV} (h : (l.map NodeV.acct).Nodup) {x y : NodeV} (hx : x ∈ l) (hy : y ∈ l) (e : x.acct = y.acct) : x = y := by
  obtain ⟨i, hi, rfl⟩ := List.getElem_of_mem hx
  obtain ⟨j, hj, rfl⟩ := List.getElem_of_mem hy
  unfold List.Nodup at h
  rw [List.pairwise_iff_getElem] at h
  rcases Nat.lt_trichotomy i j with h1 | h1 | h1
  · have := h i j (by simpa using hi) (by simpa using hj) h1
    simp only [List.getElem_map] at this; exact absurd e this
  · subst h1; rfl
  · have := h j i (by simpa using hj) (by simpa using hi) h1
    simp only [List.getElem_map] at this; exact absurd e.symm this
theorem RB.set {h h' : List NodeV} {rs : List RankV} {bs : List Bool} {n m : NodeV} {a : Nat} (hr : RB h rs bs) (hnd : (h'.map NodeV.acct).Nodup) (ha : a < 8) (hn : n.acct = (a : Int)) (hm : m ∈ h) (hma : m.acct = (a : Int)) (hp : (m :: h').Perm (n :: h)) : RB h' (rs.set a n.rank) (bs.set a true) := by
  have hacc : (h'.map NodeV.acct).Perm (h.map NodeV.acct) := by
    have := hp.map NodeV.acct
    simp only [List.map_cons, hma, hn] at this
    exact List.Perm.cons_inv this
  have hin : ∀ c : Int, (∃ x ∈ h', x.acct = c) ↔ (∃ x ∈ h, x.acct = c) := fun c => by
    have := hacc.mem_iff (a := c)
    simpa [List.mem_map] using this
  have hn' : n ∈ h' := by
    rcases List.mem_cons.1 (hp.mem_iff.2 (List.mem_cons_self (a := n) (l := h))) with e | h1
    · subst e; exact (List.Perm.cons_inv hp).mem_iff.2 hm
    · exact h1
  refine ⟨by simp [hr.rl], by simp [hr.bl], fun c hc => ?_, fun x hx c hxc => ?_⟩
  · rw [List.getElem?_set, hin]
    by_cases e : a = c
    · subst e
      simp only [if_true, hr.bl, ha]
      exact ⟨fun _ => ⟨m, hm, hma⟩, fun _ => trivial⟩
    · rw [if_neg e]; exact hr.iff c hc
  · rw [List.getElem?_set]
    by_cases e : a = c
    · subst e
      have := acct_inj hnd hx hn' (by omega)
      subst this
      simp [hr.rl, ha]
    · rw [if_neg e]
      rcases List.mem_cons.1 (hp.mem_iff.1 (List.mem_cons_of_mem m hx)) with rfl | h1
      · exfalso; omega
      · exact hr.rk x h1 c hxc
theorem RB.drop {h h' : List NodeV} {rs rs' : List RankV} {bs : List Bool} {m : NodeV} {a : Nat} (hr : RB h rs bs) (hnd : (h.map NodeV.acct).Nodup) (ha : a < 8) (hma : m.acct = (a : Int)) (hp : (m :: h').Perm h) (hl : rs'.length = 8) (hrs : ∀ c : Nat, c ≠ a → rs'[c]? = rs[c]?) : RB h' rs' (bs.set a false) := by
  have hnd2 := (hp.map NodeV.acct).nodup_iff.2 hnd
  rw [List.map_cons, List.nodup_cons] at hnd2
  have hne : ∀ x ∈ h', x.acct ≠ (a : Int) := fun x hx e => hnd2.1 (List.mem_map.2 ⟨x, hx, by rw [e, hma]⟩)
  refine ⟨hl, by simp [hr.bl], fun c hc => ?_, fun x hx c hxc => ?_⟩
  · rw [List.getElem?_set]
    by_cases e : a = c
    · subst e
      simp only [if_true, hr.bl, ha]
      constructor
      · intro h; cases h
      · rintro ⟨x, hx, e⟩; exact absurd e (hne x hx)
    · rw [if_neg e, hr.iff c hc]
      constructor
      · rintro ⟨x, hx, e2⟩
        rcases List.mem_cons.1 (hp.mem_iff.2 hx) with rfl | h1
        · exfalso; omega
        · exact ⟨x, h1, e2⟩
      · rintro ⟨x, hx, e2⟩; exact ⟨x, hp.mem_iff.1 (List.mem_cons_of_mem m hx), e2⟩
  · have : c ≠ a := fun e => hne x hx (by omega)
    rw [hrs c this]
    exact hr.rk x (hp.mem_iff.1 (List.mem_cons_of_mem m hx)) c hxc
theorem Hok.nil : Hok [] := Hok.of (fun n hn => by cases hn) List.nodup_nil (fun j _ => nb_out (by simp))
theorem RB.init : RB [] (List.replicate 8 ⟨0, ⟨0, 0, 0, 0⟩⟩) (List.replicate 8 false) := by
  refine ⟨rfl, rfl, fun a ha => ?_, fun n hn => by cases hn⟩
  have : (List.replicate 8 false)[a]? = some false := by rw [List.getElem?_replicate, if_pos ha]
  rw [this]; simp
theorem RB.get {h : List NodeV} {rs : List RankV} {bs : List Bool} (hr : RB h rs bs) {a : Nat} (ha : a < 8) : ∃ b, bs[a]? = some b := ⟨_, List.getElem?_eq_getElem (by rw [hr.bl]; exact ha)⟩
theorem RB.getr {h : List NodeV} {rs : List RankV} {bs : List Bool} (hr : RB h rs bs) {a : Nat} (ha : a < 8) : ∃ b, rs[a]? = some b := ⟨_, List.getElem?_eq_getElem (by rw [hr.rl]; exact ha)⟩
/-- the first one is below all others -/
theorem head_least {n : NodeV} {t h' : List NodeV} (h : Hok (n :: t)) (hp : (n :: h').Perm (n :: t)) : ∀ m ∈ h', belowN n m = true := by
  intro m hm
  have hm2 : m ∈ n :: t := hp.mem_iff.1 (List.mem_cons_of_mem _ hm)
  obtain ⟨j, hj, rfl⟩ := List.getElem_of_mem hm2
  have h1 := least_ok h.hp j
  unfold nb at h1
  rw [List.getElem?_eq_getElem hj] at h1
  change belowN (n :: t)[j] n = false at h1
  cases hb : belowN n (n :: t)[j] with
  | true => rfl
  | false =>
    have e := below_total hb h1
    have hnd := (hp.map NodeV.acct).nodup_iff.2 h.nd
    rw [List.map_cons, List.nodup_cons] at hnd
    exact absurd (List.mem_map.2 ⟨_, hm, by rw [← e]⟩) hnd.1
theorem findN_head {n : NodeV} {t : List NodeV} : findN (n :: t) n.acct = 0 := by
  have := findN_at (l := n :: t) (k := 0) (n := n) (a := n.acct) rfl rfl (fun j m hj => by omega)
  simpa using this

section
variable {P : Program} {g : FuncId} {l : List NodeV} {n : NodeV} {a : Int} {T : TypeId} {e1 e2 : AT}
theorem drop_none (h : AC P g [nodesA l, .c (iA a)] [] (fun r l' =>
    if heapOk l = true then (if findN l a < 0 then r = .tup [.c (.sl true []), .c (iA 3)] ∧ l' = [] else r = .tup [.c (mslA (dropL l (findN l a).toNat)), .c (iA 0)] ∧ l' = [some (T, rowsA (dropL l (findN l a).toNat))])
    else r = e2 ∧ l' = [])) (h1 : Hok l) (h2 : ∀ m ∈ l, m.acct ≠ a) : AC P g [nodesA l, .c (iA a)] [] (fun r l' => r = .tup [.c (.sl true []), .c (iA 3)] ∧ l' = []) :=
  h.mono fun r l' hr => by rw [if_pos (heapOk_iff.2 h1), if_pos (by rw [findN_neg h2]; decide)] at hr; exact hr
theorem drop_at (h : AC P g [nodesA l, .c (iA a)] [] (fun r l' =>
    if heapOk l = true then (if findN l a < 0 then r = e1 ∧ l' = [] else r = .tup [.c (mslA (dropL l (findN l a).toNat)), .c (iA 0)] ∧ l' = [some (T, rowsA (dropL l (findN l a).toNat))])
    else r = e2 ∧ l' = [])) (h1 : Hok l) (h2 : n ∈ l) (h3 : n.acct = a) : ∃ h' m, m ∈ l ∧ m.acct = a ∧ Hok h' ∧ (m :: h').Perm l ∧ AC P g [nodesA l, .c (iA a)] [] (fun r l' => r = .tup [.c (mslA h'), .c (iA 0)] ∧ l' = [some (T, rowsA h')]) := by
  rcases findN_cases l a with ⟨_, hf⟩ | ⟨i, m, hf, hi, hm⟩
  · exact absurd h3 (hf n h2)
  · obtain ⟨k1, k2⟩ := drop_ok h1 hi
    refine ⟨dropL l i, m, List.mem_of_getElem? hi, hm, k1, k2, h.mono fun r l' hr => ?_⟩
    rw [if_pos (heapOk_iff.2 h1), if_neg (by rw [hf]; omega), hf] at hr
    exact hr
theorem set_at (h : AC P g [nodesA l, .agg n.cells] [] (fun r l' =>
    if heapOk l = true ∧ okN n = true then (if findN l n.acct < 0 then r = e1 ∧ l' = [] else r = .tup [.c (mslA (setL l (findN l n.acct).toNat n)), .c (iA 0)] ∧ l' = [some (T, rowsA (setL l (findN l n.acct).toNat n))])
    else r = e2 ∧ l' = [])) (h1 : Hok l) (h2 : okN n = true) {m0 : NodeV} (h3 : m0 ∈ l) (h4 : m0.acct = n.acct) : ∃ h' m, m ∈ l ∧ m.acct = n.acct ∧ Hok h' ∧ (m :: h').Perm (n :: l) ∧ AC P g [nodesA l, .agg n.cells] [] (fun r l' => r = .tup [.c (mslA h'), .c (iA 0)] ∧ l' = [some (T, rowsA h')]) := by
  rcases findN_cases l n.acct with ⟨_, hf⟩ | ⟨i, m, hf, hi, hm⟩
  · exact absurd h4 (hf m0 h3)
  · obtain ⟨k1, k2⟩ := set_ok h1 h2 hi hm
    refine ⟨setL l i n, m, List.mem_of_getElem? hi, hm, k1, k2, h.mono fun r l' hr => ?_⟩
    rw [if_pos ⟨heapOk_iff.2 h1, h2⟩, if_neg (by rw [hf]; omega), hf] at hr
    exact hr
theorem push_at' (h : AC P g [nodesA l, .agg n.cells] [] (fun r l' =>
    if heapOk l = true ∧ okN n = true then (if findN l n.acct < 0 then r = .tup [.c (mslA (pushL l n)), .c (iA 0)] ∧ l' = [some (T, rowsA (pushL l n))] else r = e1 ∧ l' = [])
    else r = e2 ∧ l' = [])) (h1 : Hok l) (h2 : okN n = true) (h3 : ∀ m ∈ l, m.acct ≠ n.acct) : ∃ h', Hok h' ∧ h'.Perm (n :: l) ∧ AC P g [nodesA l, .agg n.cells] [] (fun r l' => r = .tup [.c (mslA h'), .c (iA 0)] ∧ l' = [some (T, rowsA h')]) := by
  obtain ⟨k1, k2⟩ := push_ok h1 h2 h3
  exact ⟨_, k1, k2, push_at h (heapOk_iff.2 h1) h2 (by rw [findN_neg h3]; decide)⟩
end
end Go.Ab
