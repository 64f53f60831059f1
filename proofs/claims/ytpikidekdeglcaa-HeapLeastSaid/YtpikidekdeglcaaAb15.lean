/- CONTRACTS OF FUNCTIONS; A CALL BY ITS CONTRACT. -/
import Derived.Test.YtpikidekdeglcaaAb14
namespace Go.Ab
open Go
noncomputable section

def hL (l : List (Option Blk)) : Heap := fun id => l[id]?

/-- **A FUNCTION's CONTRACT**: called on these values, with these blocks of its own, it returns; R says what, and what the blocks are then (new ones behind). -/
def AC (P : Program) (g : FuncId) (args : List AT) (l : List (Option Blk)) (R : AT → List (Option Blk) → Prop) : Prop :=
  (∀ as w, (callFunc g as).run P w = .ok (.enter g as) w) ∧ l.length ≤ 16 ∧
  ∀ (w : World) (φ : Nat → Option Nat) (Im Th : Nat → Prop) (cargs : Array Value), Ok w φ Im Th w.heap.size (hL l) → cargs.size = args.length →
    (∀ (i : Nat) (hi : i < args.length), RelT w φ Im w.heap.size (hL l) (cargs.getD i undef) args[i]) →
    CallsIn (Fw none) 0 P g cargs w (fun e w' => ∃ v r l' φ' Im', e = .returned v ∧ R r l' ∧ l.length ≤ l'.length ∧ Ok w' φ' Im' Th w.heap.size (hL l') ∧ RelT w' φ' Im' w.heap.size (hL l') v r ∧
      Ext l.length w φ Im Th (hL l) w' φ' Im' (hL l') ∧ ∀ j b, l.length ≤ j → Live (hL l') j → φ' j = some b → w.heap.size ≤ b)

/-- a contract without memory -/
def ACp (P : Program) (g : FuncId) (args : List AT) (r : AT) : Prop := AC P g args [] (fun r' l' => r' = r ∧ l' = [])

theorem AC.mono {P : Program} {g : FuncId} {args : List AT} {l : List (Option Blk)} {R R' : AT → List (Option Blk) → Prop} (h : AC P g args l R) (hR : ∀ r l', R r l' → R' r l') : AC P g args l R' :=
  ⟨h.1, h.2.1, fun w φ Im Th cargs h1 h2 h3 => CallsIn.mono (h.2.2 w φ Im Th cargs h1 h2 h3) fun _ _ ⟨v, r, l', φ', Im', k1, k2, k3⟩ => ⟨v, r, l', φ', Im', k1, hR _ _ k2, k3⟩⟩

/-! ### what a function returns -/
def resVar (P : Program) (s : ASt) : ResultVar → Option (Prop × AT)
  | .tmp t => (s.t t).map fun x => (True, x)
  | .cell a ty => match effLoad P s.h ty (s.t a) with
    | .val c x => some (c, x)
    | _ => none

def resAll (P : Program) (s : ASt) : List ResultVar → Option (Prop × List AT)
  | [] => some (True, [])
  | v :: l => match resVar P s v, resAll P s l with
    | some (c, x), some (d, xs) => some (c ∧ d, x :: xs)
    | _, _ => none

def resOf (P : Program) (s : ASt) (l : List ResultVar) : Option (Prop × AT) :=
  match resAll P s l with
  | some (c, [x]) => some (c, x)
  | some (c, xs) => some (c, .tup xs)
  | none => none

section
variable {P : Program} {w : World} {φ : Nat → Option Nat} {Im Th : Nat → Prop} {base N : Nat} {D : List Deferred} {s : ASt} {a : Act}

theorem ptr_of_load {h : Heap} {t : TypeId} {x : Option AT} {u : Value} {c : Prop} {r : AT} (hx : ∀ t, x = some t → RelT w φ Im base h u t) (he : effLoad P h t x = .val c r) (hc : c) : ∃ b, u = .pointer (some b) := by
  unfold effLoad at he
  split at he
  · split at he
    · split at he
      · rename_i ty cs hb
        cases he
        have := (hx _ rfl).c_inv
        cases this with
        | ptr hid hv hst H => obtain ⟨b, _, rfl⟩ := H _ _ hb hc.1; exact ⟨_, rfl⟩
      · cases he
    · cases he
  · split at he
    · cases he
      have := (hx _ rfl).c_inv
      cases this with
      | ipt => exact ⟨_, rfl⟩
    · cases he
  · cases he

def resSem (tmps : Array Value) : ResultVar → Sem Value
  | .tmp t => pure (tmps.getD t undef)
  | .cell a t => do loadVar t (← asAddr (tmps.getD a undef))

theorem rel_resVar (hr : RelS w φ Im Th base N D s a) {v : ResultVar} {c : Prop} {x : AT} (he : resVar P s v = some (c, x)) (hc : c) : ∃ u, (resSem a.tmps v).run P w = .ok u w ∧ RelT w φ Im base s.h u x := by
  cases v with
  | tmp t =>
    simp only [resVar] at he
    cases ht : s.t t with
    | none => rw [ht] at he; cases he
    | some y => rw [ht] at he; cases he; exact ⟨_, rfl, hr.tmps t _ ht⟩
  | cell b ty =>
    simp only [resVar] at he
    split at he
    · rename_i c' x' hl
      cases he
      have hx : ∀ y, s.t b = some y → RelT w φ Im base s.h (a.tmps.getD b undef) y := fun y hy => hr.tmps b y hy
      obtain ⟨u, h1, h2⟩ := val_load (P := P) hr.ok hx hl hc
      obtain ⟨p, hp⟩ := ptr_of_load (P := P) hx hl hc
      refine ⟨u, ?_, h2⟩
      simp only [resSem, hp, asAddr]
      rw [hp] at h1
      simpa [Instr.loadAt, Instr.sureAddr] using h1
    · cases he

theorem rel_resAll (hr : RelS w φ Im Th base N D s a) : ∀ (l : List ResultVar) (c : Prop) (xs : List AT), resAll P s l = some (c, xs) → c →
    ∃ vs : List Value, (l.mapM (resSem a.tmps)).run P w = .ok vs w ∧ vs.length = xs.length ∧ ∀ (i : Nat) (hi : i < xs.length), RelT w φ Im base s.h (vs.getD i undef) xs[i]
  | [], c, xs, he, hc => by cases he; exact ⟨[], rfl, rfl, fun i hi => by simp at hi⟩
  | v :: l, c, xs, he, hc => by
    unfold resAll at he
    split at he
    · rename_i c1 x d xs' h1 h2
      cases he
      obtain ⟨u, g1, g2⟩ := rel_resVar hr h1 hc.1
      obtain ⟨vs, g3, g4, g5⟩ := rel_resAll hr l d xs' h2 hc.2
      refine ⟨u :: vs, by rw [List.mapM_cons]; simp only [Sem.run_bind, g1, Result.andThen_ok, g3, Sem.run_pure], by simpa using g4, fun i hi => ?_⟩
      cases i with
      | zero => exact g2
      | succ i => exact g5 i (by simpa using hi)
    · cases he

theorem rel_resOf (hr : RelS w φ Im Th base N D s a) {fn : Func} {c : Prop} {r : AT} (he : resOf P s fn.results.toList = some (c, r)) (hc : c) : ∃ u, (results fn a.tmps).run P w = .ok u w ∧ RelT w φ Im base s.h u r := by
  unfold resOf at he
  have key : ∀ xs, resAll P s fn.results.toList = some (c, xs) → ∃ vs : List Value, (fn.results.mapM (resSem a.tmps)).run P w = .ok vs.toArray w ∧ vs.length = xs.length ∧ ∀ (i : Nat) (hi : i < xs.length), RelT w φ Im base s.h (vs.getD i undef) xs[i] := by
    intro xs hx
    obtain ⟨vs, h1, h2, h3⟩ := rel_resAll hr _ _ _ hx hc
    refine ⟨vs, ?_, h2, h3⟩
    rw [Array.mapM_eq_mapM_toList]
    simp only [Sem.run_map, h1]
    rfl
  have hres : ∀ vs : List Value, (fn.results.mapM (resSem a.tmps)).run P w = .ok vs.toArray w → (results fn a.tmps).run P w = .ok (if h : vs.toArray.size = 1 then vs.toArray[0] else .tuple vs.toArray) w := by
    intro vs h1
    have hfun : results fn a.tmps = (do
        let vs ← fn.results.mapM (resSem a.tmps)
        pure (if h : vs.size = 1 then vs[0] else .tuple vs)) := by
      unfold results
      congr 1
    rw [hfun]
    simp [h1]
  split at he
  · rename_i c' x hx
    cases he
    obtain ⟨vs, h1, h2, h3⟩ := key _ hx
    refine ⟨_, hres vs h1, ?_⟩
    have : vs.toArray.size = 1 := by simpa using h2
    rw [dif_pos this]
    have h4 := h3 0 (by simp)
    have hl : 0 < vs.length := by simp at h2; omega
    simpa [hl] using h4
  · rename_i c' xs hne hx
    cases he
    obtain ⟨vs, h1, h2, h3⟩ := key _ hx
    refine ⟨_, hres vs h1, ?_⟩
    have : ¬ vs.toArray.size = 1 := by
      intro e
      have : xs.length = 1 := by rw [← h2]; simpa using e
      match xs, this with
      | [x], _ => exact hne _ rfl
    rw [dif_neg this]
    exact .tup (by simpa using h2) (fun i hi => by simpa using h3 i hi)
  · cases he

theorem RelC.nrm {h : Heap} {v : Value} {x : AV} (hx : RelC w φ Im base h v x) : RelC w φ Im base h v x.nrm := by
  unfold AV.nrm
  split
  · cases hx; exact .sl .nil
  · exact hx

theorem RelT.nrm {h : Heap} {v : Value} {x : AT} (hx : RelT w φ Im base h v x) : RelT w φ Im base h v x.nrm := by
  induction hx with
  | c hx => exact .c hx.nrm
  | agg hs hr => exact .agg (by simpa using hs) (fun i hi => by simp only [List.getElem_map]; exact (hr i (by simpa using hi)).nrm)
  | tup hs _ ih => exact .tup (by rw [nrmL_map]; simpa using hs) (fun i hi => by simp only [nrmL_map, List.getElem_map]; exact ih i (by rw [nrmL_map] at hi; simpa using hi))

theorem RelC.dom {h : Heap} {v : Value} {x : AV} (hx : RelC w φ Im base h v x) : ∀ id ∈ x.refs, h id ≠ none := by
  induction hx with
  | s => intro id hid; cases hid
  | sl => intro id hid; cases hid
  | ptr hd => intro id hid; simp [AV.refs] at hid; subst hid; exact hd
  | msl hd => intro id hid; simp [AV.refs] at hid; subst hid; exact hd
  | ipt => intro id hid; cases hid
  | @fn f caps cv hs _ ih =>
    intro id hid
    simp only [AV.refs] at hid
    have : ∀ (l : List AV), (∀ x ∈ l, ∀ id ∈ x.refs, h id ≠ none) → ∀ id ∈ AV.refsL l, h id ≠ none := by
      intro l
      induction l with
      | nil => intro _ id hid; cases hid
      | cons y l ihl =>
        intro hl id hid
        simp only [AV.refsL, List.mem_append] at hid
        rcases hid with h1 | h1
        · exact hl y (by simp) id h1
        · exact ihl (fun x hx => hl x (by simp [hx])) id h1
    exact this caps (fun x hx id hid => by
      obtain ⟨i, hi, rfl⟩ := List.getElem_of_mem hx
      exact ih i hi id hid) id hid
  | junk => intro id hid; cases hid

theorem RelT.dom {h : Heap} {v : Value} {x : AT} (hx : RelT w φ Im base h v x) : ∀ id ∈ x.refs, h id ≠ none := by
  induction hx with
  | c hx => exact hx.dom
  | @agg arr cs hs hr =>
    intro id hid
    simp only [AT.refs] at hid
    have : ∀ (l : List AV), (∀ x ∈ l, ∀ id ∈ x.refs, h id ≠ none) → ∀ id ∈ AV.refsL l, h id ≠ none := by
      intro l
      induction l with
      | nil => intro _ id hid; cases hid
      | cons y l ihl =>
        intro hl id hid
        simp only [AV.refsL, List.mem_append] at hid
        rcases hid with h1 | h1
        · exact hl y (by simp) id h1
        · exact ihl (fun x hx => hl x (by simp [hx])) id h1
    exact this cs (fun x hx id hid => by
      obtain ⟨i, hi, rfl⟩ := List.getElem_of_mem hx
      exact (hr i hi).dom id hid) id hid
  | @tup arr l hs _ ih =>
    intro id hid
    simp only [AT.refs] at hid
    have : ∀ (l : List AT), (∀ x ∈ l, ∀ id ∈ x.refs, h id ≠ none) → ∀ id ∈ AT.refsL l, h id ≠ none := by
      intro l
      induction l with
      | nil => intro _ id hid; cases hid
      | cons y l ihl =>
        intro hl id hid
        simp only [AT.refsL, List.mem_append] at hid
        rcases hid with h1 | h1
        · exact hl y (by simp) id h1
        · exact ihl (fun x hx => hl x (by simp [hx])) id h1
    exact this l (fun x hx id hid => by
      obtain ⟨i, hi, rfl⟩ := List.getElem_of_mem hx
      exact ih i hi id hid) id hid
end

def bnrm (b : Option Blk) : Option Blk := b.map fun p => (p.1, p.2.map AV.nrm)

/-- how a function's end gives its contract -/
def RetK (C : Cx) (rs : List ResultVar) (R : AT → List (Option Blk) → Prop) : Exit → ASt → Prop
  | .normal, s | .ret, s => ∃ s' c r0 r l' τ, Sub C s s' ∧ resOf C.P s' rs = some (c, r0) ∧ c ∧ r0.nrm = AT.ren τ r ∧ (∀ id ∈ r.refs, id < l'.length) ∧ C.m0 ≤ l'.length ∧
      (∀ (j : Nat) (hj : j < l'.length), ∃ b, s'.h (τ j) = some b ∧ bnrm b = bren τ l'[j] ∧ ∀ id ∈ brefs l'[j], id < l'.length) ∧
      (∀ j, j < C.m0 → τ j = j) ∧ (∀ j, C.m0 ≤ j → j < l'.length → 16 ≤ τ j) ∧ (∀ i j, i < l'.length → j < l'.length → τ i = τ j → i = j) ∧ R r l'
  | _, _ => False

/-- the marks are come to: their blocks are shut -/
def shutAll : List Deferred → World → World
  | [], w => w
  | m :: ms, w => shutAll ms (match m.target with | .collected b => w.putObj b (.deferred none) | _ => w)

theorem shutAll_spec {Im Th : Nat → Prop} {base : Nat} : ∀ (ms : List Deferred) (w : World), MarksOk w Im Th base ms →
    (shutAll ms w).heap.size = w.heap.size ∧ (shutAll ms w).os = w.os ∧ (shutAll ms w).tape = w.tape ∧ (shutAll ms w).output = w.output ∧
    (∀ b, (∀ m ∈ ms, m ≠ { target := .collected b, args := #[] }) → (shutAll ms w).heap[b]? = w.heap[b]?) ∧
    ∀ (P : Program) (fn : Func) (tmps : Array Value) (R : Ending → World → Prop), LeavesIn (Fw none) 0 P fn tmps R [] .returning (shutAll ms w) → LeavesInM (Fw none) 0 P fn tmps R ms .returning w
  | [], w, _ => ⟨rfl, rfl, rfl, rfl, fun _ _ => rfl, fun _ _ _ _ h => h⟩
  | m :: ms, w, hm => by
    obtain ⟨b, rfl, h2, h3, h4, h5⟩ := hm.2 m (by simp)
    have hnd := List.nodup_cons.1 hm.1
    have hm' : MarksOk (w.putObj b (.deferred none)) Im Th base ms := ⟨hnd.2, fun m' hmem => by
      obtain ⟨b', g1, g2, g3, g4, g5⟩ := hm.2 m' (by simp [hmem])
      have hne : b' ≠ b := fun e => by subst e; subst g1; exact hnd.1 hmem
      exact ⟨b', g1, (World.putObj_heap_other hne).trans g2, g3, g4, g5⟩⟩
    obtain ⟨k1, k2, k3, k4, k5, k6⟩ := shutAll_spec ms _ hm'
    refine ⟨by rw [shutAll]; simpa using k1, k2, k3, k4, fun b' hb' => ?_, fun P fn tmps R h => ⟨by simp, .inl ⟨b, _, rfl, run_takeDeferred h2, k6 P fn tmps R h⟩⟩⟩
    have hne : b' ≠ b := fun e => by subst e; exact hb' _ (List.mem_cons_self ..) rfl
    exact (k5 b' (fun m' hmem => hb' m' (by simp [hmem]))).trans (World.putObj_heap_other hne)

/-- behind a function's end -/
theorem RelS.shut {P : Program} {w0 w : World} {φ0 φ : Nat → Option Nat} {Im0 Im Th : Nat → Prop} {N m0 : Nat} {D : List Deferred} {s : ASt} {a : Act} {h0 : Heap} (hok0 : Ok w0 φ0 Im0 Th w0.heap.size h0)
    (hr : RelS w φ Im Th w0.heap.size N [] s a) (hx : Ext m0 w0 φ0 Im0 Th h0 w φ Im s.h) :
    ∃ ws, (∀ (P : Program) (fn : Func) (tmps : Array Value) (R : Ending → World → Prop), LeavesIn (Fw none) 0 P fn tmps R [] .returning ws → LeavesInM (Fw none) 0 P fn tmps R a.defers .returning w) ∧
      RelS ws φ Im Th w0.heap.size N a.defers s a ∧ Ext m0 w0 φ0 Im0 Th h0 ws φ Im s.h := by
  obtain ⟨ms, h1, hm⟩ := hr.defers
  simp only [List.append_nil] at h1
  obtain ⟨k1, k2, k3, k4, k5, k6⟩ := shutAll_spec ms w hm
  have keep : ∀ (b : Nat) (o : Obj), w.heap[b]? = some o → (∀ ds, o ≠ Obj.deferred ds) → (shutAll ms w).heap[b]? = some o := fun b o hb hn => by
    refine (k5 b (fun m hmem e => ?_)).trans hb
    obtain ⟨b', g1, g2, _⟩ := hm.2 m hmem
    rw [e] at g1
    cases g1
    rw [hb] at g2; cases g2; exact hn _ rfl
  have low : ∀ b, b < w0.heap.size → (shutAll ms w).heap[b]? = w.heap[b]? := fun b hb => k5 b (fun m hmem e => by
    obtain ⟨b', g1, _, _, _, g5⟩ := hm.2 m hmem
    rw [e] at g1
    cases g1; omega)
  have prot : ∀ b, Im b ∨ Th b → (shutAll ms w).heap[b]? = w.heap[b]? := fun b hb => k5 b (fun m hmem e => by
    obtain ⟨b', g1, _, g3, g4, _⟩ := hm.2 m hmem
    rw [e] at g1
    cases g1; exact hb.elim g3 g4)
  have hst : Stp0 w φ Im Th s.h (shutAll ms w) φ Im s.h :=
    ⟨by omega, k2, k3, k4, prot, fun _ h => h, fun _ h => .inl h, fun _ h => .inl h, fun b c T fr hb => ⟨c, keep b _ hb (fun ds e => by cases e), rfl⟩,
     fun id hid => ⟨hid, fun ty cs h => ⟨ty, cs, h, Nat.le_refl _, fun _ => rfl, fun _ hb => .inl hb⟩⟩⟩
  refine ⟨shutAll ms w, fun P fn tmps R h => by rw [h1]; exact k6 P fn tmps R h, ⟨⟨fun id ty cs hid => ?_, hr.ok.inj, hr.ok.disj, fun b hb => by rw [k1]; exact hr.ok.lt b hb, hr.ok.new, by rw [k1]; exact hr.ok.base_le⟩, hr.size, ⟨[], rfl, List.nodup_nil, fun m hm => by cases hm⟩, fun k x hk => (hr.tmps k x hk).mono0 hst⟩, ?_⟩
  · rcases hr.ok.heap id ty cs hid with h | ⟨b, c, g1, g2, g3, g4⟩
    · exact .inl h
    · exact .inr ⟨b, c, g1, keep b _ g2 (fun ds e => by cases e), g3, fun j hj => (g4 j hj).mono0 hst⟩
  · refine ⟨by rw [k1]; exact hx.size, k2.trans hx.os, k3.trans hx.tape, k4.trans hx.output, fun b hb => (low b (hok0.lt b hb)).trans (hx.same b hb), fun b hb hn => (low b hb).trans (hx.all b hb hn), hx.pi, hx.own, hx.pi', fun b c T fr hb => ?_, hx.ids⟩
    obtain ⟨c', g1, g2⟩ := hx.cells b c T fr hb
    exact ⟨c', keep b _ g1 (fun ds e => by cases e), g2⟩

theorem AC.intro {P : Program} {g : FuncId} {fn : Func} {c : Code} {args : List AT} {l : List (Option Blk)} {R : AT → List (Option Blk) → Prop} (hf : P.funcs[g]? = some fn) (hb : fn.body = some c)
    (hname : (fn.name == "runtime.NumGoroutine") = false) (hn : args.length ≤ fn.ntmps) (h16 : l.length ≤ 16)
    (h : WP ⟨P, fn.ntmps, l.length⟩ c (RetK ⟨P, fn.ntmps, l.length⟩ fn.results.toList R) ⟨fun k => args[k]?, hL l⟩) : AC P g args l R := by
  refine ⟨fun as w => ?_, h16, fun w φ Im Th cargs hok hsz hrel => ?_⟩
  · simp only [callFunc, Sem.run_bind, run_program, Result.andThen_ok, hf]
    simp [hname, hb]
  · refine callsIn_of_wp_marks hf hb trivial (wpIn_mono (h Th w.heap.size [] none w φ Im _ ⟨hok, ?_, ⟨[], rfl, List.nodup_nil, fun m hm => by cases hm⟩, ?_⟩ (Nat.le_refl _) Rnd.none) ?_) rfl
    · simp [hsz]; omega
    · intro k x hx
      have hk : k < args.length := by
        rcases Nat.lt_or_ge k args.length with h1 | h1
        · exact h1
        · simp [List.getElem?_eq_none h1] at hx
      have := hrel k hk
      simp only [List.getElem?_eq_getElem hk, Option.some.injEq] at hx
      subst hx
      have h2 : k < cargs.size := by omega
      simpa [Array.getElem?_append, h2] using this
    · rintro e a' w'0 ⟨s', φ', Im', k1, k2, k3⟩
      obtain ⟨w', hleave, k2, k3⟩ := RelS.shut (P := P) (D := []) hok k2 k3
      have fin : (∃ s'' c r0 r l' τ, Sub ⟨P, fn.ntmps, l.length⟩ s' s'' ∧ resOf P s'' fn.results.toList = some (c, r0) ∧ c ∧ r0.nrm = AT.ren τ r ∧ (∀ id ∈ r.refs, id < l'.length) ∧ l.length ≤ l'.length ∧
      (∀ (j : Nat) (hj : j < l'.length), ∃ b, s''.h (τ j) = some b ∧ bnrm b = bren τ l'[j] ∧ ∀ id ∈ brefs l'[j], id < l'.length) ∧
      (∀ j, j < l.length → τ j = j) ∧ (∀ j, l.length ≤ j → j < l'.length → 16 ≤ τ j) ∧ (∀ i j, i < l'.length → j < l'.length → τ i = τ j → i = j) ∧ R r l') →
        ∃ v, (results fn a'.tmps).run P w' = .ok v w' ∧ ∃ v' r l' φ' Im', Ending.returned v = .returned v' ∧ R r l' ∧ l.length ≤ l'.length ∧ Ok w' φ' Im' Th w.heap.size (hL l') ∧ RelT w' φ' Im' w.heap.size (hL l') v' r ∧
      Ext l.length w φ Im Th (hL l) w' φ' Im' (hL l') ∧ ∀ j b, l.length ≤ j → Live (hL l') j → φ' j = some b → w.heap.size ≤ b := by
        rintro ⟨s'', c, r0, r, l', τ, hsub, hres, hc, hr0, hrr, hml, hbl, hτ0, hτ16, hτi, hR⟩
        obtain ⟨φ2, Im2, hr2, hx2⟩ := hsub Th w.heap.size a'.defers w' φ' Im' a' k2
        obtain ⟨v, hv1, hv2⟩ := rel_resOf hr2 hres hc
        have hext := k3.trans hx2
        refine ⟨v, hv1, v, r, l', fun j => if j < l'.length then φ2 (τ j) else none, Im2, rfl, hR, hml, ?_, ?_, ?_, ?_⟩
        all_goals
          have hren : ∀ id, id < l'.length → RenOk τ φ2 s''.h (fun j => if j < l'.length then φ2 (τ j) else none) (hL l') id := by
            intro id hid
            refine ⟨by simp [hL, hid], fun ty2 cs2 he => ⟨?_, by simp [hid]⟩⟩
            obtain ⟨b, hb1, hb2, hb3⟩ := hbl id hid
            simp only [hL, List.getElem?_eq_getElem hid, Option.some.injEq] at he
            rw [he] at hb2
            cases b with
            | none => simp [bnrm, bren] at hb2
            | some p =>
              obtain ⟨ty, cs⟩ := p
              refine ⟨ty, cs, hb1, ?_⟩
              simp only [bnrm, bren, Option.map_some, Option.some.injEq, Prod.mk.injEq] at hb2
              have := congrArg List.length hb2.2
              simpa [renL_map] using this
          have hlive : ∀ j, Live (hL l') j → j < l'.length ∧ Live s''.h (τ j) := by
            rintro j ⟨ty2, cs2, hj⟩
            have hlt : j < l'.length := by
              rcases Nat.lt_or_ge j l'.length with h1 | h1
              · exact h1
              · simp [hL, List.getElem?_eq_none h1] at hj
            obtain ⟨⟨ty, cs, h1, _⟩, _⟩ := (hren j hlt).2 ty2 cs2 hj
            exact ⟨hlt, ty, cs, h1⟩
        · -- Ok
          refine ⟨fun j ty cs hj => ?_, fun i j b hi hj hbi hbj => ?_, fun b hb => ?_, hr2.ok.lt, fun j b h16' hl hb => ?_, hr2.ok.base_le⟩
          · obtain ⟨hlt, _⟩ := hlive j ⟨ty, cs, hj⟩
            obtain ⟨b, hb1, hb2, hb3⟩ := hbl j hlt
            simp only [hL, List.getElem?_eq_getElem hlt, Option.some.injEq] at hj
            rw [hj] at hb2 hb3
            cases b with
            | none => simp [bnrm, bren] at hb2
            | some p =>
              obtain ⟨ty0, cs0⟩ := p
              simp only [bnrm, bren, Option.map_some, Option.some.injEq, Prod.mk.injEq] at hb2
              obtain ⟨rfl, hcs⟩ := hb2
              have hlen : cs0.length = cs.length := by have := congrArg List.length hcs; simpa [renL_map] using this
              rcases hr2.ok.heap _ _ _ hb1 with ⟨h1, h2⟩ | ⟨b, cc, hφ, hw, hl, hr⟩
              · refine .inl ⟨by simp [hlt, h1], ?_⟩
                subst h2
                exact List.eq_nil_of_length_eq_zero (by simpa using hlen.symm)
              · refine .inr ⟨b, cc, by simp [hlt, hφ], hw, by omega, fun k hk => ?_⟩
                have h3 := (hr k (by omega)).nrm
                have h4 : (cs0[k]'(by omega)).nrm = (cs[k]).ren τ := by
                  have := congrArg (fun l : List AV => l[k]?) hcs
                  simpa [renL_map, hk, show k < cs0.length by omega] using this
                rw [h4] at h3
                exact h3.unren rfl (fun id hid => hren id (hb3 id (by simp only [brefs]; exact mem_refsL (by simp) hid)))
          · obtain ⟨li, ti⟩ := hlive i hi
            obtain ⟨lj, tj⟩ := hlive j hj
            simp only [li, lj, if_true] at hbi hbj
            exact hτi i j li lj (hr2.ok.inj _ _ b ti tj hbi hbj)
          · obtain ⟨j, hj, hb⟩ := hb
            obtain ⟨lj, tj⟩ := hlive j hj
            simp only [lj, if_true] at hb
            exact hr2.ok.disj b ⟨_, tj, hb⟩
          · obtain ⟨lj, tj⟩ := hlive j hl
            simp only [lj, if_true] at hb
            exact hr2.ok.new _ _ (hτ16 j (by omega) lj) tj hb
        · have h1 := hv2.nrm
          rw [hr0] at h1
          exact h1.unren rfl (fun id hid => hren id (hrr id hid))
        · refine ⟨hext.size, hext.os, hext.tape, hext.output, hext.same, hext.all, hext.pi, fun b hb => ?_, hext.pi', hext.cells, fun id hid hne => ?_⟩
          · obtain ⟨j, hj, hb⟩ := hb
            obtain ⟨lj, tj⟩ := hlive j hj
            simp only [lj, if_true] at hb
            exact hext.own b ⟨_, tj, hb⟩
          · have hlt : id < l'.length := Nat.lt_of_lt_of_le hid hml
            refine ⟨(hren id hlt).1, fun ty' cs' he => ?_⟩
            obtain ⟨⟨ty, cs, h1, h2⟩, _⟩ := (hren id hlt).2 ty' cs' he
            rw [hτ0 id hid] at h1
            obtain ⟨ty0, cs0, e0, e1, e2, e3⟩ := (hext.ids id hid hne).2 ty cs h1
            refine ⟨ty0, cs0, e0, by omega, fun e => ?_, fun b hb => ?_⟩
            · show (if id < l'.length then φ2 (τ id) else none) = φ id
              rw [if_pos hlt, hτ0 id hid]
              exact e2 (by omega)
            · have hb' : φ2 id = some b := by
                have : (if id < l'.length then φ2 (τ id) else none) = some b := hb
                rwa [if_pos hlt, hτ0 id hid] at this
              exact e3 b hb'
        · intro j b hj hl hb
          obtain ⟨lj, tj⟩ := hlive j hl
          simp only [lj, if_true] at hb
          exact hr2.ok.new _ _ (hτ16 j hj lj) tj hb
      cases e with
      | normal => exact hleave P fn a'.tmps _ (fin k1)
      | ret => exact hleave P fn a'.tmps _ (fin k1)
      | _ => exact k1.elim
end
end Go.Ab
