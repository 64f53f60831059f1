/- HEAPS OF NODES, in plain Lean. -/
import Derived.Test.YtpikidekdeglcaaAb31
namespace Go.Ab
open Go

/-! ### the order -/
def ltL : List Int → List Int → Bool
  | a :: l, b :: m => decide (a < b) || (decide (a = b) && ltL l m)
  | _, _ => false
theorem ltL_irr : ∀ l, ltL l l = false
  | [] => rfl
  | a :: l => by simp [ltL, ltL_irr l]
theorem ltL_trans : ∀ {x y z : List Int}, ltL x y = true → ltL y z = true → ltL x z = true
  | [], _, _, h, _ => by cases h
  | _ :: _, [], _, h, _ => by cases h
  | _ :: _, _ :: _, [], _, h => by cases h
  | a :: x, b :: y, c :: z, h1, h2 => by
    simp only [ltL, Bool.or_eq_true, Bool.and_eq_true, decide_eq_true_eq] at h1 h2 ⊢
    rcases h1 with h1 | ⟨h1, g1⟩ <;> rcases h2 with h2 | ⟨h2, g2⟩
    · exact .inl (by omega)
    · exact .inl (by omega)
    · exact .inl (by omega)
    · exact .inr ⟨by omega, ltL_trans g1 g2⟩
theorem ltL_total : ∀ {x y : List Int}, x.length = y.length → ltL x y = false → ltL y x = false → x = y
  | [], [], _, _, _ => rfl
  | [], _ :: _, h, _, _ => by simp at h
  | _ :: _, [], h, _, _ => by simp at h
  | a :: x, b :: y, h, h1, h2 => by
    simp only [ltL, Bool.or_eq_false_iff, Bool.and_eq_false_iff, decide_eq_false_iff_not] at h1 h2
    have e : a = b := by omega
    subst e
    have := ltL_total (x := x) (y := y) (by simpa using h) (by simpa using h1.2) (by simpa using h2.2)
    rw [this]
def keyN (n : NodeV) : List Int := [n.rank.dist, n.rank.tip.d, n.rank.tip.c, n.rank.tip.b, n.rank.tip.a, n.acct]
theorem below_key (x y : NodeV) : belowN x y = ltL (keyN x) (keyN y) := by
  rw [Bool.eq_iff_iff]
  simp only [belowN, cmpR, cmpU, keyN, ltL, Bool.or_eq_true, Bool.and_eq_true, decide_eq_true_eq, Bool.and_false, Bool.or_false]
  repeat' split
  all_goals (simp; try omega)
theorem key_inj {x y : NodeV} (h : keyN x = keyN y) : x = y := by
  obtain ⟨a, ⟨d, ⟨t1, t2, t3, t4⟩⟩⟩ := x
  obtain ⟨a', ⟨d', ⟨s1, s2, s3, s4⟩⟩⟩ := y
  simp [keyN] at h
  simp [h]
theorem below_irr (x : NodeV) : belowN x x = false := by rw [below_key]; exact ltL_irr _
theorem below_trans {x y z : NodeV} (h1 : belowN x y = true) (h2 : belowN y z = true) : belowN x z = true := by
  rw [below_key] at *; exact ltL_trans h1 h2
theorem below_asym {x y : NodeV} (h : belowN x y = true) : belowN y x = false := by
  cases e : belowN y x with
  | false => rfl
  | true => have := below_trans h e; rw [below_irr] at this; cases this
theorem below_total {x y : NodeV} (h1 : belowN x y = false) (h2 : belowN y x = false) : x = y := by
  rw [below_key] at *; exact key_inj (ltL_total rfl h1 h2)
/-- 'not below' goes on -/
theorem nb_trans {x y z : NodeV} (h1 : belowN y x = false) (h2 : belowN z y = false) : belowN z x = false := by
  cases e : belowN z x with
  | false => rfl
  | true =>
    cases e2 : belowN x y with
    | true => have := below_trans e e2; rw [h2] at this; cases this
    | false => have := below_total e2 h1; subst this; rw [h2] at e; cases e

/-! ### places -/
def belowO : Option NodeV → Option NodeV → Bool
  | some x, some y => belowN x y
  | _, _ => false
theorem nbO_trans {x z : Option NodeV} {y : NodeV} (h1 : belowO (some y) x = false) (h2 : belowO z (some y) = false) : belowO z x = false := by
  cases x with
  | none => cases z <;> rfl
  | some x => cases z with
    | none => rfl
    | some z => exact nb_trans h1 h2
def swapL (l : List NodeV) (i j : Nat) : List NodeV := match l[i]?, l[j]? with
  | some x, some y => (l.set i y).set j x
  | _, _ => l
theorem swapL_len {l : List NodeV} {i j : Nat} : (swapL l i j).length = l.length := by
  unfold swapL; split <;> simp
theorem swapL_get {l : List NodeV} {i j : Nat} (hi : i < l.length) (hj : j < l.length) (hne : i ≠ j) (k : Nat) : (swapL l i j)[k]? = if k = i then l[j]? else if k = j then l[i]? else l[k]? := by
  unfold swapL
  rw [List.getElem?_eq_getElem hi, List.getElem?_eq_getElem hj]
  simp only [List.getElem?_set, List.length_set]
  by_cases e1 : k = i
  · subst e1
    simp [hne.symm, hi]
  · by_cases e2 : k = j
    · subst e2; simp [hj, e1]
    · simp [e1, e2, Ne.symm e1, Ne.symm e2]
theorem set_cons_perm : ∀ (l : List NodeV) (i : Nat) (hi : i < l.length) (a : NodeV), (l[i] :: l.set i a).Perm (a :: l)
  | x :: t, 0, _, a => by simpa using List.Perm.swap a x t
  | x :: t, i + 1, hi, a => by
    have hi' : i < t.length := by simpa using hi
    have ih := set_cons_perm t i hi' a
    simp only [List.getElem_cons_succ, List.set_cons_succ]
    exact (List.Perm.swap x t[i] _).trans ((ih.cons x).trans (List.Perm.swap a x t))
theorem swapL_perm {l : List NodeV} {i j : Nat} (hi : i < l.length) (hj : j < l.length) (hne : i ≠ j) : (swapL l i j).Perm l := by
  unfold swapL
  rw [List.getElem?_eq_getElem hi, List.getElem?_eq_getElem hj]
  simp only
  have h1 := set_cons_perm l i hi l[j]
  have h2 := set_cons_perm (l.set i l[j]) j (by simpa using hj) l[i]
  have e : (l.set i l[j])[j]'(by simpa using hj) = l[j] := List.getElem_set_ne hne _
  rw [e] at h2
  exact (List.Perm.cons_inv (h2.trans h1))
def par (j : Nat) : Nat := (j - 1) / 2

def riseL (l : List NodeV) (i : Nat) : List NodeV × Nat :=
  if 0 < i ∧ belowO l[i]? l[par i]? = true then riseL (swapL l i (par i)) (par i) else (l, i)
termination_by i
decreasing_by unfold par; omega

def kidL (l : List NodeV) (i : Nat) : Nat := if 2 * i + 2 < l.length ∧ belowO l[2 * i + 2]? l[2 * i + 1]? = true then 2 * i + 2 else 2 * i + 1

def sinkL (l : List NodeV) (i : Nat) : List NodeV :=
  if 2 * i + 1 < l.length ∧ belowO l[kidL l i]? l[i]? = true then sinkL (swapL l i (kidL l i)) (kidL l i) else l
termination_by l.length - i
decreasing_by rw [swapL_len]; unfold kidL; split <;> omega

def settleL (l : List NodeV) (i : Nat) : List NodeV := if (riseL l i).2 = i then sinkL (riseL l i).1 i else (riseL l i).1
def pushL (l : List NodeV) (n : NodeV) : List NodeV := (riseL (l ++ [n]) l.length).1
def setL (l : List NodeV) (i : Nat) (n : NodeV) : List NodeV := settleL (l.set i n) i
def dropL (l : List NodeV) (i : Nat) : List NodeV :=
  if i < l.length - 1 then settleL ((l.take (l.length - 1)).set i (l.getD (l.length - 1) ⟨0, 0, 0, 0, 0, 0⟩)) i else l.take (l.length - 1)

theorem riseL_le (l : List NodeV) (i : Nat) : (riseL l i).2 ≤ i ∧ ((riseL l i).2 = i → (riseL l i).1 = l ∧ ¬ (0 < i ∧ belowO l[i]? l[par i]? = true)) := by
  fun_induction riseL l i with
  | case1 l i h ih =>
    have : par i < i := by unfold par; omega
    exact ⟨by omega, fun e => by omega⟩
  | case2 l i h => exact ⟨Nat.le_refl _, fun _ => ⟨rfl, h⟩⟩

theorem getElem?_isSome {l : List NodeV} {i : Nat} {y : Option NodeV} (h : belowO l[i]? y = true) : i < l.length := by
  rcases Nat.lt_or_ge i l.length with h1 | h1
  · exact h1
  · rw [List.getElem?_eq_none h1] at h; cases y <;> cases h

theorem riseL_perm (l : List NodeV) (i : Nat) : (riseL l i).1.Perm l := by
  fun_induction riseL l i with
  | case1 l i h ih =>
    have h1 := getElem?_isSome h.2
    have hlt : par i < i := by unfold par; omega
    exact ih.trans (swapL_perm h1 (by omega) (by omega))
  | case2 l i h => exact .refl _
theorem kidL_spec {l : List NodeV} {i : Nat} (h : 2 * i + 1 < l.length) : i < kidL l i ∧ kidL l i < l.length ∧ par (kidL l i) = i := by
  unfold kidL par; split <;> omega
theorem sinkL_perm (l : List NodeV) (i : Nat) : (sinkL l i).Perm l := by
  fun_induction sinkL l i with
  | case1 l i h ih =>
    have := kidL_spec h.1
    exact ih.trans (swapL_perm (by omega) this.2.1 (by omega))
  | case2 l i h => exact .refl _
theorem settleL_perm (l : List NodeV) (i : Nat) : (settleL l i).Perm l := by
  unfold settleL
  split
  · exact (sinkL_perm _ _).trans (riseL_perm _ _)
  · exact riseL_perm _ _

/-- a place is not below another one -/
def nb (l : List NodeV) (j p : Nat) : Prop := belowO l[j]? l[p]? = false
def HP (l : List NodeV) : Prop := ∀ j, 0 < j → nb l j (par j)
def Inv1 (l : List NodeV) (i : Nat) : Prop := (∀ j, 0 < j → j ≠ i → nb l j (par j)) ∧ (0 < i → ∀ j, 0 < j → par j = i → nb l j (par i))
def Inv2 (l : List NodeV) (i : Nat) : Prop := (∀ j, 0 < j → par j ≠ i → nb l j (par j)) ∧ (0 < i → ∀ j, 0 < j → par j = i → nb l j (par i))
theorem nb_trans' {l : List NodeV} {a b c : Nat} (hb : b < l.length) (h1 : nb l b a) (h2 : nb l c b) : nb l c a := by
  unfold nb at *
  rw [List.getElem?_eq_getElem hb] at h1 h2
  exact nbO_trans h1 h2
theorem nb_asym {l : List NodeV} {a b : Nat} (h : belowO l[a]? l[b]? = true) : nb l b a := by
  unfold nb
  cases ha : l[a]? <;> cases hb : l[b]? <;> simp [ha, hb, belowO] at h ⊢
  exact below_asym h
theorem nb_out {l : List NodeV} {j p : Nat} (h : l.length ≤ j) : nb l j p := by
  unfold nb; rw [List.getElem?_eq_none h]; cases l[p]? <;> rfl

theorem riseL_HP (l : List NodeV) (i : Nat) (h : Inv1 l i) : HP (riseL l i).1 := by
  fun_induction riseL l i with
  | case1 l i hc ih =>
    refine ih ?_
    obtain ⟨hi0, hbl⟩ := hc
    have hi := getElem?_isSome hbl
    have hp : par i < i := by unfold par; omega
    have g := swapL_get (l := l) hi (by omega) (by omega : i ≠ par i)
    have up : ∀ {j p : Nat}, belowO (if j = i then l[par i]? else if j = par i then l[i]? else l[j]?) (if p = i then l[par i]? else if p = par i then l[i]? else l[p]?) = false → nb (swapL l i (par i)) j p := by
      intro j p h; unfold nb; rw [g j, g p]; exact h
    have hasy : nb l (par i) i := nb_asym hbl
    refine ⟨fun j hj hji => up ?_, fun hp0 j hj hjp => up ?_⟩
    · by_cases e1 : j = i
      · subst e1
        rw [if_pos rfl, if_neg (by omega), if_pos rfl]; exact hasy
      · rw [if_neg e1, if_neg hji]
        by_cases e2 : par j = i
        · rw [if_pos e2]; exact h.2 hi0 j hj e2
        · rw [if_neg e2]
          by_cases e3 : par j = par i
          · rw [if_pos e3]
            have h1 : nb l j (par i) := by rw [← e3]; exact h.1 j hj e1
            exact nb_trans' (by omega) hasy h1
          · rw [if_neg e3]; exact h.1 j hj e1
    · have hpp : par (par i) < par i := by unfold par at *; omega
      have h0 : nb l (par i) (par (par i)) := h.1 (par i) hp0 (by omega)
      rw [if_neg (by omega : ¬ par (par i) = i), if_neg (by omega : ¬ par (par i) = par i)]
      by_cases e1 : j = i
      · rw [if_pos e1]; exact h0
      · rw [if_neg e1]
        have : j ≠ par i := by intro e; rw [e] at hjp; unfold par at *; omega
        rw [if_neg this]
        have h1 : nb l j (par i) := by rw [← hjp]; exact h.1 j hj e1
        exact nb_trans' (by omega) h0 h1
  | case2 l i hc =>
    intro j hj
    by_cases e : j = i
    · subst e
      unfold nb
      cases hb : belowO l[j]? l[par j]? with
      | false => rfl
      | true => exact absurd ⟨hj, hb⟩ hc
    · exact h.1 j hj e

theorem kid_least {l : List NodeV} {i j : Nat} (hj : 0 < j) (hp : par j = i) : nb l j (kidL l i) := by
  rcases Nat.lt_or_ge j l.length with hlt | hge
  · have hj2 : j = 2 * i + 1 ∨ j = 2 * i + 2 := by unfold par at hp; omega
    unfold kidL
    split
    · rename_i h
      rcases hj2 with rfl | rfl
      · exact nb_asym h.2
      · unfold nb; cases l[2 * i + 2]? <;> simp [belowO, below_irr]
    · rename_i h
      rcases hj2 with rfl | rfl
      · unfold nb; cases l[2 * i + 1]? <;> simp [belowO, below_irr]
      · unfold nb
        cases hb : belowO l[2 * i + 2]? l[2 * i + 1]? with
        | false => rfl
        | true => exact absurd ⟨hlt, hb⟩ h
  · exact nb_out hge

theorem sinkL_HP (l : List NodeV) (i : Nat) (h : Inv2 l i) : HP (sinkL l i) := by
  fun_induction sinkL l i with
  | case1 l i hc ih =>
    refine ih ?_
    obtain ⟨hlt, hbl⟩ := hc
    obtain ⟨k1, k2, k3⟩ := kidL_spec hlt
    have kl : ∀ j, 0 < j → par j = i → nb l j (kidL l i) := fun j hj hp => kid_least hj hp
    revert hbl k1 k2 k3 kl
    generalize kidL l i = k
    intro hbl k1 k2 k3 kl
    have g := swapL_get (l := l) (by omega : i < l.length) k2 (by omega : i ≠ k)
    have up : ∀ {j p : Nat}, belowO (if j = i then l[k]? else if j = k then l[i]? else l[j]?) (if p = i then l[k]? else if p = k then l[i]? else l[p]?) = false → nb (swapL l i k) j p := by
      intro j p h; unfold nb; rw [g j, g p]; exact h
    have hasy : nb l i k := nb_asym hbl
    refine ⟨fun j hj hjk => up ?_, fun hk0 j hj hjk => up ?_⟩
    · by_cases e1 : j = i
      · subst e1
        have hpj : par j < j := by unfold par; omega
        rw [if_pos rfl, if_neg (by omega), if_neg (by omega)]
        exact h.2 hj k (by omega) k3
      · rw [if_neg e1]
        by_cases e2 : j = k
        · rw [if_pos e2, e2, if_pos k3]; exact hasy
        · rw [if_neg e2]
          by_cases e3 : par j = i
          · rw [if_pos e3]; exact kl j hj e3
          · rw [if_neg e3, if_neg hjk]; exact h.1 j hj e3
    · have hj2 : k < j := by unfold par at hjk; omega
      rw [k3, if_pos rfl, if_neg (by omega), if_neg (by omega)]
      have := h.1 j hj (by omega)
      rw [hjk] at this; exact this
  | case2 l i hc =>
    intro j hj
    by_cases e : par j = i
    · rcases Nat.lt_or_ge j l.length with hlt | hge
      · have h1 : 2 * i + 1 < l.length := by unfold par at e; omega
        obtain ⟨k1, k2, k3⟩ := kidL_spec h1
        have hn : nb l (kidL l i) i := by
          unfold nb
          cases hb : belowO l[kidL l i]? l[i]? with
          | false => rfl
          | true => exact absurd ⟨h1, hb⟩ hc
        rw [e]
        exact nb_trans' k2 hn (kid_least hj e)
      · exact nb_out hge
    · exact h.1 j hj e

theorem settleL_HP (l : List NodeV) (i : Nat) (n : NodeV) (hi : i < l.length) (h : HP l) : HP (settleL (l.set i n) i) := by
  have g : ∀ k, k ≠ i → (l.set i n)[k]? = l[k]? := fun k hk => List.getElem?_set_ne (Ne.symm hk)
  have gi : (l.set i n)[i]? = some n := by simp [hi]
  have kids : ∀ j, 0 < j → par j = i → 0 < i → nb (l.set i n) j (par i) := by
    intro j hj hp h0
    have h1 : par i < i := by unfold par; omega
    have h2 : i < j := by unfold par at hp; omega
    unfold nb
    rw [g j (by omega), g (par i) (by omega)]
    have h3 := h j hj
    rw [hp] at h3
    exact nb_trans' hi (h i h0) h3
  have far : ∀ j, 0 < j → j ≠ i → par j ≠ i → nb (l.set i n) j (par j) := by
    intro j hj h1 h2
    unfold nb
    rw [g j h1, g _ h2]
    exact h j hj
  have hle := riseL_le (l.set i n) i
  unfold settleL
  split
  · rename_i e
    obtain ⟨e1, e2⟩ := hle.2 e
    rw [e1]
    refine sinkL_HP _ _ ⟨fun j hj hp => ?_, fun h0 j hj hp => kids j hj hp h0⟩
    by_cases ej : j = i
    · subst ej
      unfold nb
      cases hb : belowO (l.set j n)[j]? (l.set j n)[par j]? with
      | false => rfl
      | true => exact absurd ⟨hj, hb⟩ e2
    · exact far j hj ej hp
  · rename_i e
    refine riseL_HP _ _ ⟨fun j hj hji => ?_, fun h0 j hj hp => kids j hj hp h0⟩
    by_cases hp : par j = i
    · -- it has risen: it is below what stood above
      have hm : 0 < i ∧ belowO (l.set i n)[i]? (l.set i n)[par i]? = true := by
        rcases Classical.em (0 < i ∧ belowO (l.set i n)[i]? (l.set i n)[par i]? = true) with h1 | h1
        · exact h1
        · exfalso; apply e; unfold riseL; rw [if_neg h1]
      have h3 := kids j hj hp hm.1
      rw [hp]
      have hpl : par i < i := by have := hm.1; unfold par; omega
      exact nb_trans' (by simp; omega) (nb_asym hm.2) h3
    · exact far j hj hji hp

theorem pushL_HP (l : List NodeV) (n : NodeV) (h : HP l) : HP (pushL l n) := by
  unfold pushL
  refine riseL_HP _ _ ⟨fun j hj hji => ?_, fun h0 j hj hp => nb_out ?_⟩
  · rcases Nat.lt_or_ge j l.length with h1 | h1
    · have hp : par j < l.length := by unfold par; omega
      unfold nb
      rw [List.getElem?_append_left h1, List.getElem?_append_left hp]
      exact h j hj
    · exact nb_out (by simp; omega)
  · unfold par at hp; simp; omega
theorem take_HP (l : List NodeV) (k : Nat) (h : HP l) : HP (l.take k) := by
  intro j hj
  rcases Nat.lt_or_ge j k with h1 | h1
  · have hp : par j < k := by unfold par; omega
    unfold nb
    rw [List.getElem?_take, List.getElem?_take, if_pos h1, if_pos hp]
    exact h j hj
  · exact nb_out (by simp; omega)

/-! ### heaps that may be -/
theorem findN_nodup {l : List NodeV} : (∀ (i : Nat) (n : NodeV), l[i]? = some n → findN l n.acct = (i : Int)) ↔ (l.map NodeV.acct).Nodup := by
  unfold List.Nodup
  rw [List.pairwise_iff_getElem]
  constructor
  · intro h i j hi hj hij e
    simp only [List.getElem_map, List.length_map] at *
    have hi' : i < l.length := by simpa using hi
    have hj' : j < l.length := by simpa using hj
    have h1 := h i _ (List.getElem?_eq_getElem hi')
    have h2 := h j _ (List.getElem?_eq_getElem hj')
    rw [e] at h1; omega
  · intro h i n hn
    obtain ⟨hi, rfl⟩ := List.getElem?_eq_some_iff.1 hn
    refine findN_at hn rfl (fun j m hj hm e => ?_)
    obtain ⟨hj2, rfl⟩ := List.getElem?_eq_some_iff.1 hm
    have := h j i (by simpa using hj2) (by simpa using hi) hj
    simp only [List.getElem_map] at this
    exact this e
structure Hok (l : List NodeV) : Prop where
  len : l.length ≤ 8
  ok : ∀ n ∈ l, okN n = true
  nd : (l.map NodeV.acct).Nodup
  hp : HP l
theorem heapOk_iff {l : List NodeV} : heapOk l = true ↔ Hok l := by
  simp only [heapOk, Bool.and_eq_true, decide_eq_true_eq, List.all_eq_true, List.mem_range]
  constructor
  · rintro ⟨h1, h2⟩
    have key : ∀ (i : Nat) (n : NodeV), l[i]? = some n → okN n = true ∧ findN l n.acct = (i : Int) ∧ (0 < i → nb l i (par i)) := by
      intro i n hn
      have hi : i < l.length := (List.getElem?_eq_some_iff.1 hn).1
      have h3 := h2 i hi
      simp only [heapAt, hn, Bool.and_eq_true, beq_iff_eq, Bool.or_eq_true] at h3
      refine ⟨h3.1.1, h3.1.2, fun h0 => ?_⟩
      rcases h3.2 with h4 | h4
      · omega
      · unfold nb
        rw [hn]
        show belowO (some n) l[(i - 1) / 2]? = false
        cases hp : l[(i - 1) / 2]? with
        | none => rfl
        | some p => rw [hp] at h4; simpa [belowO] using h4
    refine ⟨h1, fun n hn => ?_, findN_nodup.1 (fun i n hn => (key i n hn).2.1), fun j hj => ?_⟩
    · obtain ⟨i, hi, rfl⟩ := List.getElem_of_mem hn
      exact (key i _ (List.getElem?_eq_getElem hi)).1
    · rcases Nat.lt_or_ge j l.length with h3 | h3
      · exact (key j _ (List.getElem?_eq_getElem h3)).2.2 hj
      · exact nb_out h3
  · rintro ⟨h1, h2, h3, h4⟩
    refine ⟨h1, fun i hi => ?_⟩
    have hn := List.getElem?_eq_getElem hi
    have h5 := findN_nodup.2 h3 i _ hn
    have h6 := h2 l[i] (List.getElem_mem hi)
    simp only [heapAt, hn, Bool.and_eq_true, beq_iff_eq, Bool.or_eq_true]
    refine ⟨⟨h6, h5⟩, ?_⟩
    rcases Nat.eq_zero_or_pos i with h0 | h0
    · exact .inl h0
    · refine .inr ?_
      have h7 := h4 i h0
      unfold nb at h7
      rw [hn] at h7
      change belowO (some l[i]) l[(i - 1) / 2]? = false at h7
      cases hp : l[(i - 1) / 2]? with
      | none => rfl
      | some p => rw [hp] at h7; simpa [belowO] using h7

/-- numbers from 0 below n, none twice: at most n -/
theorem nodup_le : ∀ (n : Nat) (l : List Int), l.Nodup → (∀ x ∈ l, 0 ≤ x ∧ x < n) → l.length ≤ n
  | 0, l, _, h => by
    cases l with
    | nil => simp
    | cons x l => have := h x (by simp); omega
  | n + 1, l, hn, h => by
    have h1 := nodup_le n (l.erase (n : Int)) (hn.erase _) (fun x hx => by
      have h2 := h x (List.mem_of_mem_erase hx)
      have h3 : x ≠ n := fun e => by subst e; exact (List.Nodup.not_mem_erase hn) hx
      omega)
    have h4 : l.length ≤ (l.erase (n : Int)).length + 1 := by
      rw [List.length_erase]; split <;> omega
    omega
theorem okN_acct {n : NodeV} (h : okN n = true) : 0 ≤ n.acct ∧ n.acct < 8 := by
  simp only [okN, Bool.and_eq_true, decide_eq_true_eq] at h; exact h.1
theorem Hok.of {l : List NodeV} (h1 : ∀ n ∈ l, okN n = true) (h2 : (l.map NodeV.acct).Nodup) (h3 : HP l) : Hok l := by
  refine ⟨?_, h1, h2, h3⟩
  have := nodup_le 8 (l.map NodeV.acct) h2 (fun x hx => by
    obtain ⟨n, hn, rfl⟩ := List.mem_map.1 hx
    have := okN_acct (h1 n hn); omega)
  simpa using this
theorem findN_neg {l : List NodeV} {a : Int} (h : ∀ n ∈ l, n.acct ≠ a) : findN l a = -1 := findN_none (fun j m _ hm => h m (List.mem_of_getElem? hm))
theorem findN_cases (l : List NodeV) (a : Int) : (findN l a = -1 ∧ ∀ n ∈ l, n.acct ≠ a) ∨ ∃ (i : Nat) (n : NodeV), findN l a = i ∧ l[i]? = some n ∧ n.acct = a := by
  unfold findN
  cases h : l.findIdx? (fun n => n.acct == a) with
  | none =>
    refine .inl ⟨rfl, fun n hn => ?_⟩
    have := List.findIdx?_eq_none_iff.1 h n hn
    simpa using this
  | some i =>
    obtain ⟨hi, h1, _⟩ := List.findIdx?_eq_some_iff_getElem.1 h
    exact .inr ⟨i, l[i], rfl, List.getElem?_eq_getElem hi, by simpa using h1⟩

theorem push_ok {l : List NodeV} {n : NodeV} (h : Hok l) (hn : okN n = true) (hf : ∀ m ∈ l, m.acct ≠ n.acct) : Hok (pushL l n) ∧ (pushL l n).Perm (n :: l) := by
  have hp : (pushL l n).Perm (n :: l) := (riseL_perm _ _).trans (List.perm_append_comm (l₁ := l) (l₂ := [n]))
  refine ⟨Hok.of (fun m hm => ?_) ?_ (pushL_HP l n h.hp), hp⟩
  · rcases List.mem_cons.1 (hp.mem_iff.1 hm) with rfl | hm
    · exact hn
    · exact h.ok m hm
  · rw [(hp.map NodeV.acct).nodup_iff, List.map_cons, List.nodup_cons]
    exact ⟨fun hm => by obtain ⟨m, h1, h2⟩ := List.mem_map.1 hm; exact hf m h1 h2, h.nd⟩
theorem set_ok {l : List NodeV} {n m : NodeV} {i : Nat} (h : Hok l) (hn : okN n = true) (hi : l[i]? = some m) (hm : m.acct = n.acct) : Hok (setL l i n) ∧ (m :: setL l i n).Perm (n :: l) := by
  obtain ⟨hlt, rfl⟩ := List.getElem?_eq_some_iff.1 hi
  have hp : (setL l i n).Perm (l.set i n) := settleL_perm _ _
  have hp2 := set_cons_perm l i hlt n
  have hacc : (l.set i n).map NodeV.acct = l.map NodeV.acct := by
    rw [List.map_set, ← hm]
    apply List.ext_getElem?
    intro k
    rw [List.getElem?_set]
    split
    · rename_i e; subst e; simp [hlt]
    · rfl
  refine ⟨Hok.of (fun x hx => ?_) ?_ (settleL_HP l i n hlt h.hp), (hp.cons _).trans hp2⟩
  · rcases List.mem_or_eq_of_mem_set (hp.mem_iff.1 hx) with h1 | rfl
    · exact h.ok x h1
    · exact hn
  · rw [(hp.map NodeV.acct).nodup_iff, hacc]; exact h.nd
theorem drop_ok {l : List NodeV} {m : NodeV} {i : Nat} (h : Hok l) (hi : l[i]? = some m) : Hok (dropL l i) ∧ (m :: dropL l i).Perm l := by
  obtain ⟨hlt, rfl⟩ := List.getElem?_eq_some_iff.1 hi
  have hsplit : l.take (l.length - 1) ++ [l[l.length - 1]] = l := by
    have := List.take_append_drop (l.length - 1) l
    rw [List.drop_eq_getElem_cons (by omega), List.drop_of_length_le (by omega)] at this
    exact this
  have key : (l[i] :: dropL l i).Perm l ∧ HP (dropL l i) := by
    unfold dropL
    split
    · rename_i hlast
      have e : l.getD (l.length - 1) ⟨0, 0, 0, 0, 0, 0⟩ = l[l.length - 1] := by
        rw [List.getD_eq_getElem?_getD, List.getElem?_eq_getElem (by omega)]; rfl
      rw [e]
      have hlt' : i < (l.take (l.length - 1)).length := by simp; omega
      have h1 := set_cons_perm (l.take (l.length - 1)) i hlt' l[l.length - 1]
      rw [List.getElem_take] at h1
      refine ⟨((settleL_perm _ _).cons _).trans (h1.trans ?_), settleL_HP _ i _ hlt' (take_HP l _ h.hp)⟩
      have h2 : (l[l.length - 1] :: l.take (l.length - 1)).Perm (l.take (l.length - 1) ++ [l[l.length - 1]]) := List.perm_append_comm (l₁ := [l[l.length - 1]]) (l₂ := l.take (l.length - 1))
      rw [hsplit] at h2
      exact h2
    · rename_i hlast
      have hie : i = l.length - 1 := by omega
      subst hie
      refine ⟨?_, take_HP l _ h.hp⟩
      have h2 : (l[l.length - 1] :: l.take (l.length - 1)).Perm (l.take (l.length - 1) ++ [l[l.length - 1]]) := List.perm_append_comm (l₁ := [l[l.length - 1]]) (l₂ := l.take (l.length - 1))
      rw [hsplit] at h2
      exact h2
  refine ⟨Hok.of (fun x hx => h.ok x (key.1.mem_iff.1 (by simp [hx]))) ?_ key.2, key.1⟩
  have := (key.1.map NodeV.acct).nodup_iff.2 h.nd
  exact (List.nodup_cons.1 this).2

/-- the first one is below no other -/
theorem least_ok {l : List NodeV} (h : HP l) : ∀ j, nb l j 0 := by
  intro j
  induction j using Nat.strongRecOn with
  | _ j ih =>
    rcases Nat.eq_zero_or_pos j with rfl | hj
    · unfold nb; cases l[0]? <;> simp [belowO, below_irr]
    · rcases Nat.lt_or_ge j l.length with hlt | hge
      · have hp : par j < j := by unfold par; omega
        exact nb_trans' (by omega) (ih (par j) hp) (h j hj)
      · exact nb_out hge
end Go.Ab
