/- APPEND. -/
import Derived.Test.YtpikidekdeglcaaAb4
namespace Go.Ab
open Go

section
variable {P : Program} {w w' : World} {φ : Nat → Option Nat} {Im Th : Nat → Prop} {base N : Nat} {D : List Deferred} {s : ASt} {a : Act} {h : Heap}

theorem cell_heap {w W : World} (hW : W.heap = w.heap) (a : Addr) : W.cell? a = w.cell? a := by simp [World.cell?, hW]

/-- a source of cells: so many elements, these cells, whatever has been drawn -/
structure Src (P : Program) (w : World) (size : Nat) (x : Value) (m : Nat) (news : List Value) : Prop where
  len : ∀ W : World, (Builtin.lenOf x).run P W = .ok m W
  cells : ∀ W : World, W.heap = w.heap → (Builtin.firstCells size m x).run P W = .ok news.toArray W
  size : news.length = m * size
  one : ∀ u ∈ news, u.oneCell' = true

theorem src_slice {size m c : Nat} {b off : Nat} {news : List Value} (hl : news.length = m * size) (hc : ∀ j, j < news.length → w.cell? ⟨b, off + j, none⟩ = some (news.getD j undef)) (h1 : ∀ u ∈ news, u.oneCell' = true) :
    Src P w size (.slice (some ⟨b, off, none⟩) m c) m news := by
  refine ⟨fun W => by simp [Builtin.lenOf], fun W hW => ?_, hl, h1⟩
  refine run_firstCells_some (P := P) W size m ⟨b, off, none⟩ m c news hl (fun j v hj => ?_)
  rw [Addr.add_lit, cell_heap hW]
  have hlt : j < news.length := by
    rcases Nat.lt_or_ge j news.length with h1 | h1
    · exact h1
    · rw [List.getElem?_eq_none h1] at hj; cases hj
  rw [hc j hlt]
  simp [hj]

theorem src_none {size m : Nat} (base : Option Addr) (c : Nat) (hm : m = 0) : Src P w size (.slice base m c) m [] := by
  subst hm
  refine ⟨fun W => by simp [Builtin.lenOf], fun W hW => ?_, by simp, by simp⟩
  cases base with
  | none => simp [Builtin.firstCells]
  | some a => simp [Builtin.firstCells, loadCells, loadCellsFrom]

theorem src_string {b : ByteArray} : Src P w 1 (.string b) b.size (b.data.toList.map fun x => Value.int .u8 x.toNat) := by
  refine ⟨fun W => by simp [Builtin.lenOf], fun W hW => ?_, by simp, by simp [Value.oneCell']⟩
  simp only [Builtin.firstCells, Sem.run_pure, ByteArray.extract_zero_size]
  congr 1
  apply Array.ext'
  simp

/-- append where there is room -/
theorem run_append_in {t xt ty e : TypeId} {i : TI} (hu : P.underlying t = some (.slice e)) (hi : tiOf P e = some i) {dx : TypeDesc} (hx : P.underlying xt = some dx) (hnx : ∀ k, dx ≠ .int k)
    {b n cap m : Nat} {c : Array Value} {T : TypeId} (hw : w.heap[b]? = some (Obj.cells c T (0, 0))) (hcap : cap * i.size ≤ c.size) {x : Value} {news : List Value} (hsrc : Src P w i.size x m news) (hroom : n + m ≤ cap) :
    (Builtin.append_ #[t, xt] ty #[.slice (some ⟨b, 0, none⟩) n cap, x]).run P w =
      .ok (.slice (some ⟨b, 0, none⟩) (n + m) cap) (w.setRow b (c.toList.take (n * i.size) ++ news ++ c.toList.drop (n * i.size + news.length)).toArray) := by
  have hfit : n * i.size + news.length ≤ c.size := by
    rw [hsrc.size, ← Nat.add_mul]; exact Nat.le_trans (Nat.mul_le_mul_right _ hroom) hcap
  have hst := run_storeCells_at P b (n * i.size) T news 0 c w hw (by simpa using hfit) hsrc.one
  simp only [Nat.add_zero] at hst
  have hz : (match dx with | .int _ => true | _ => false) = false := by cases dx <;> first | rfl | (exact absurd rfl (hnx _))
  simp [Builtin.append_, run_underlying hu, run_underlying hx, run_sizeOf' hi, hsrc.len w, hroom, hsrc.cells w rfl, Addr.add_lit, hst, hz]

theorem run_append_out {t xt ty e : TypeId} {i : TI} (hu : P.underlying t = some (.slice e)) (hi : tiOf P e = some i) {dx : TypeDesc} (hx : P.underlying xt = some dx) (hnx : ∀ k, dx ≠ .int k)
    {bs : Option Addr} {n cap m : Nat} {x : Value} {olds news : List Value} (hsrc : Src P w i.size x m news) (hold : Src P w i.size (.slice bs n cap) n olds)
    (hroom : cap < n + m) (hbytes : (n + m) * i.bytes ≤ 140737488355328) (h63 : n + m ≤ 9223372036854775807) :
    ∃ z : Value, z.cells.size = i.zero.length ∧ (Builtin.append_ #[t, xt] ty #[.slice bs n cap, x]).run P w =
      .ok (.slice (some ⟨w.heap.size, 0, none⟩) (n + m) (grownCap w (n + m) cap e))
        (w.drew.alloc (.cells (olds.toArray ++ news.toArray ++ Builtin.zeroCells z.cells (grownCap w (n + m) cap e - (n + m))) e)) := by
  obtain ⟨info, d, z, h1, h2, h3, h4, h5, h6, h7, h8⟩ := tiOf_spec hi
  refine ⟨z, by rw [← h6]; simp, ?_⟩
  have hz : (match dx with | .int _ => true | _ => false) = false := by cases dx <;> first | rfl | (exact absurd rfl (hnx _))
  have hfit := growslice_fits (need := n + m) (old := cap) (bytes := i.bytes) hroom hbytes
  have hnr : ¬ (n + m ≤ cap) := by omega
  have hbig : ¬ (((n + m : Nat) : Int) > IntKind.i64.max ∧ info.bytes = 0) := by
    intro hc
    have := hc.1
    simp only [IntKind.max] at this
    simp [IntKind.bits] at this
    omega
  have hnf : ¬ (Builtin.nextslicecap (n + m) cap * info.bytes > 2 ^ 48) := by rw [h5]; omega
  have hq : (Question.appendCap (n + m) cap e).forced = false := rfl
  have hd1 := hold.cells w.drew rfl
  have hd2 := hsrc.cells w.drew rfl
  have hbig' : ¬ (9223372036854775807 < (n : Int) + (m : Int) ∧ info.bytes = 0) := by
    intro hc
    have := hc.1
    omega
  simp [Builtin.append_, run_underlying hu, run_underlying hx, run_sizeOf' hi, hsrc.len w, hnr, hz, typeInfo, h1, hnf, hq, zeroValue, h3, hd1, hd2, newRow]
  rw [if_neg hbig']
  simp only [grownCap, Result.ok.injEq, true_and]
  congr 2
  apply Array.ext'
  simp

/-- a nil slice may be taken for a row that is not there yet -/
theorem nil_step (hok : Ok w φ Im Th base h) {id : Nat} (hid : h id = none) (e : TypeId) :
    Stp w φ Im Th h w (upd φ id none) Im (upd h id (some (some (e, [])))) ∧ Ok w (upd φ id none) Im Th base (upd h id (some (some (e, [])))) := by
  have hown : ∀ b, Own (upd φ id none) (upd h id (some (some (e, [])))) b → Own φ h b := by
    rintro b ⟨j, ⟨ty, cs, hj⟩, hb⟩
    by_cases ej : j = id
    · subst ej; rw [upd_same] at hb; cases hb
    · rw [upd_ne _ _ ej] at hj hb; exact ⟨j, ⟨ty, cs, hj⟩, hb⟩
  have hstp : Stp w φ Im Th h w (upd φ id none) Im (upd h id (some (some (e, [])))) := by
    refine ⟨Nat.le_refl _, rfl, rfl, rfl, fun _ _ => rfl, fun _ _ _ => rfl, fun _ hb => hb, fun b hb => .inl (hown b hb), fun _ hb => .inl hb, fun b c T fr hb => ⟨c, hb, rfl⟩, fun j hj => ?_⟩
    by_cases ej : j = id
    · subst ej; exact absurd hid hj
    · refine ⟨by rw [upd_ne _ _ ej]; exact hj, fun ty' cs' he => ?_⟩
      rw [upd_ne _ _ ej] at he
      exact ⟨ty', cs', he, Nat.le_refl _, fun _ => upd_ne _ _ ej, fun b hb => by rw [upd_ne _ _ ej] at hb; exact .inl hb⟩
  refine ⟨hstp, ⟨fun j ty cs hj => ?_, fun i j b hi hj hbi hbj => ?_, fun b hb => hok.disj b (hown b hb), hok.lt, fun j b h16 hl hb => ?_, hok.base_le⟩⟩
  · by_cases ej : j = id
    · subst ej; rw [upd_same] at hj; cases hj
      exact .inl ⟨upd_same _ _ _, rfl⟩
    · rw [upd_ne _ _ ej] at hj
      rcases hok.heap j ty cs hj with ⟨h1, h2⟩ | ⟨b, c, hφ, hw, hl, hr⟩
      · exact .inl ⟨by rw [upd_ne _ _ ej]; exact h1, h2⟩
      · exact .inr ⟨b, c, by rw [upd_ne _ _ ej]; exact hφ, hw, hl, fun k hk => (hr k hk).mono hstp⟩
  · have key : ∀ k, Live (upd h id (some (some (e, [])))) k → upd φ id none k = some b → Live h k ∧ φ k = some b := by
      intro k ⟨ty, cs, hk⟩ hb
      by_cases ek : k = id
      · subst ek; rw [upd_same] at hb; cases hb
      · rw [upd_ne _ _ ek] at hk hb; exact ⟨⟨ty, cs, hk⟩, hb⟩
    obtain ⟨l1, b1⟩ := key i hi hbi
    obtain ⟨l2, b2⟩ := key j hj hbj
    exact hok.inj i j b l1 l2 b1 b2
  · obtain ⟨ty, cs, hk⟩ := hl
    by_cases ek : j = id
    · subst ek; rw [upd_same] at hb; cases hb
    · rw [upd_ne _ _ ek] at hk hb; exact hok.new j b h16 ⟨ty, cs, hk⟩ hb

theorem step_append (hok : Ok w φ Im Th base h) {t xt ty e : TypeId} {i it : TI} (hit : tiOf P t = some it) (hk : it.k = .slice e) (hi : tiOf P e = some i) (hz : i.zero.length = i.size) {dx : TypeDesc} (hx : P.underlying xt = some dx) (hnx : ∀ k, dx ≠ .int k)
    {v x : Value} {id len m : Nat} {cs xs : List AV} {news : List Value} (hv : RelC w φ Im base h v (.msl i.size id (len * i.size) 0 len)) (hb : h id = some (some (e, cs))) (hst : cs.length = len * i.size)
    (hsrc : Src P w i.size x m news) (hxs : xs.length = m * i.size) (hrel : ∀ (j : Nat) (hj : j < xs.length), RelC w φ Im base h (news.getD j undef) xs[j])
    (hbytes : (len + m) * i.bytes ≤ 140737488355328) (h63 : len + m ≤ 9223372036854775807) (hpos : 0 < i.size) :
    ∃ v' w' φ', (Builtin.append_ #[t, xt] ty #[v, x]).run P w = .ok v' w' ∧ Stp w φ Im Th h w' φ' Im (upd h id (some (some (e, cs ++ xs)))) ∧
      Ok w' φ' Im Th base (upd h id (some (some (e, cs ++ xs)))) ∧ RelC w' φ' Im base (upd h id (some (some (e, cs ++ xs)))) v' (.msl i.size id ((len + m) * i.size) 0 (len + m)) := by
  have hu := under_slice hit hk
  have hnl : news.length = xs.length := by rw [hsrc.size, hxs]
  have hlen' : (cs ++ xs).length = (len + m) * i.size := by simp [hst, hxs, Nat.add_mul]
  cases hv with
  | msl hid hv hst' H =>
    -- what all growing has alike
    have grow : ∀ (bs : Option Addr) (cap : Nat) (olds : List Value), v = .slice bs len cap → olds.length = cs.length → (∀ (j : Nat) (hj : j < cs.length), RelC w φ Im base h (olds.getD j undef) cs[j]) →
        Src P w i.size (.slice bs len cap) len olds → cap < len + m → ∃ v' w' φ', (Builtin.append_ #[t, xt] ty #[v, x]).run P w = .ok v' w' ∧ Stp w φ Im Th h w' φ' Im (upd h id (some (some (e, cs ++ xs)))) ∧
      Ok w' φ' Im Th base (upd h id (some (some (e, cs ++ xs)))) ∧ RelC w' φ' Im base (upd h id (some (some (e, cs ++ xs)))) v' (.msl i.size id ((len + m) * i.size) 0 (len + m)) := by
      intro bs cap olds hve hol hor hold hroom
      subst hve
      obtain ⟨z, hzs, hrun⟩ := run_append_out (ty := ty) hu hi hx hnx hsrc hold hroom hbytes h63
      have hge := grownCap_ge w (len + m) cap e
      have hmax : grownCap w (len + m) cap e ≤ maxLen := grownCap_le_maxLen w (len + m) cap e (by simp only [maxLen]; omega)
      have hcsz : (olds.toArray ++ news.toArray ++ Builtin.zeroCells z.cells (grownCap w (len + m) cap e - (len + m))).size = grownCap w (len + m) cap e * i.size := by
        simp only [Array.size_append, List.size_toArray, size_zeroCells, hzs, hz, hol, hnl, hst, hxs, ← Nat.add_mul]
        congr 1; omega
      have hm0 : 0 < m := by
        rcases Nat.eq_zero_or_pos m with h0 | h0
        · subst h0
          exfalso
          have := hold
          rcases H e cs hb hst with ⟨_, _, hl0, hv0⟩ | ⟨b, off', cap', c, T, hφ, hv1, hw, ho, hcap, hlc, _⟩
          · cases hv0; omega
          · cases hv1; omega
        · exact h0
      obtain ⟨g1, g2⟩ := one_step (w := w) (w' := w.drew.alloc (.cells (olds.toArray ++ news.toArray ++ Builtin.zeroCells z.cells (grownCap w (len + m) cap e - (len + m))) e)) hok id w.heap.size e (cs ++ xs) _
        (by simp) rfl rfl rfl (fun b hb _ => @heap_alloc_old w.drew _ b hb) (.inr (Nat.le_refl _)) (.inr ⟨e, cs, hb, by simp, fun e1 => by
          have : 0 < m * i.size := Nat.mul_pos hm0 hpos
          simp [hxs] at e1; omega⟩) (heap_alloc_new w.drew _) (by rw [hlen', hcsz]; exact Nat.mul_le_mul_right _ hge)
        (fun j hj => by
          have hlt : j < (olds ++ news).length := by simp [hol, hnl]; simpa using hj
          have hget : (olds.toArray ++ news.toArray ++ Builtin.zeroCells z.cells (grownCap w (len + m) cap e - (len + m))).getD j undef = (olds ++ news).getD j undef := by
            simp only [Array.getD_eq_getD_getElem?, List.getD_eq_getElem?_getD]
            rw [Array.getElem?_append_left (by simpa using hlt)]
            simp
          rw [hget]
          by_cases h1 : j < cs.length
          · rw [List.getElem_append_left h1]
            have := hor j h1
            rw [List.getD_eq_getElem?_getD] at this ⊢
            rw [List.getElem?_append_left (by omega)]
            exact this
          · rw [List.getElem_append_right (by omega)]
            have := hrel (j - cs.length) (by simp at hj; omega)
            rw [List.getD_eq_getElem?_getD] at this ⊢
            rw [List.getElem?_append_right (by omega), hol]
            exact this)
      refine ⟨_, _, _, hrun, g1, g2, .msl (by simp [upd_same]) rfl (fun ty' cs' he => ?_) (fun ty' cs' he _ => .inr ⟨w.heap.size, 0, _, _, e, upd_same _ _ _, rfl, heap_alloc_new w.drew _, fun _ => rfl, ?_, hge, hmax⟩)⟩
      · rw [upd_same] at he; cases he; omega
      · rw [hcsz]; omega
    rcases Nat.eq_zero_or_pos m with h0 | h0
    · -- nothing is appended
      subst h0
      have hxs0 : xs = [] := List.eq_nil_of_length_eq_zero (by simpa using hxs)
      subst hxs0
      have hn0 : news = [] := List.eq_nil_of_length_eq_zero (by simpa using hnl)
      subst hn0
      have hz0 : (match dx with | .int _ => true | _ => false) = false := by cases dx <;> first | rfl | (exact absurd rfl (hnx _))
      have he : upd h id (some (some (e, cs ++ []))) = h := by
        funext j; by_cases ej : j = id
        · subst ej; rw [upd_same, hb, List.append_nil]
        · rw [upd_ne _ _ ej]
      rw [he]
      refine ⟨v, w, φ, ?_, Stp.refl, hok, .msl hid hv (by simpa using hst') (fun ty' cs' he2 hl2 => H ty' cs' he2 (by simpa using hl2))⟩
      rcases H e cs hb hst with ⟨hφ, _, hl0, hv0⟩ | ⟨b, off', cap, c, T, hφ, hv1, hw, ho, hcap, hlc, hcm⟩
      · subst hv0
        simp [Builtin.append_, run_underlying hu, run_underlying hx, run_sizeOf' hi, hsrc.len w, hsrc.cells w rfl, hz0]
      · subst hv1
        simp [Builtin.append_, run_underlying hu, run_underlying hx, run_sizeOf' hi, hsrc.len w, hsrc.cells w rfl, hz0, hlc, storeCells]
    · rcases H e cs hb hst with ⟨hφ, _, hl0, hv0⟩ | ⟨b, off', cap, c, T, hφ, hv1, hw, ho, hcap, hlc, hcm⟩
      · subst hl0; subst hv0
        have hcs : cs = [] := List.eq_nil_of_length_eq_zero (by simpa using hst)
        subst hcs
        exact grow none 0 [] rfl rfl (fun j hj => by simp at hj) (src_none none 0 rfl) (by omega)
      · subst hv1
        obtain ⟨c2, hw2, hl2, hcell, hr⟩ := own_cells hok hb hφ
        rw [hw] at hw2; cases hw2
        by_cases hroom : len + m ≤ cap
        · obtain rfl := ho (by omega)
          have hrun := run_append_in (ty := ty) hu hi hx hnx hw (by omega) hsrc hroom
          have hfit : len * i.size + news.length ≤ c.size := by
            rw [hsrc.size, ← Nat.add_mul]; exact Nat.le_trans (Nat.mul_le_mul_right _ hroom) (by omega)
          obtain ⟨g1, g2⟩ := one_step (w := w) hok id b e (cs ++ xs) (c.toList.take (len * i.size) ++ news ++ c.toList.drop (len * i.size + news.length)).toArray
            (w' := w.setRow b (c.toList.take (len * i.size) ++ news ++ c.toList.drop (len * i.size + news.length)).toArray)
            (by simp) rfl rfl rfl (fun k hk hne => setRow_other w b k _ hne) (.inl ⟨⟨e, cs, hb⟩, hφ, c, hw, by simp; omega⟩)
            (.inr ⟨e, cs, hb, by simp, fun _ => hφ⟩) (setRow_heap w b c _ e _ hw) (by simp; omega)
            (fun j hj => by
              have hjl : j < cs.length + xs.length := by simpa using hj
              rw [getD_splice hfit]
              by_cases h1 : j < cs.length
              · rw [if_pos (by omega), List.getElem_append_left h1]; exact hr j h1
              · rw [if_neg (by omega), if_pos (by omega), List.getElem_append_right (by omega)]
                have := hrel (j - cs.length) (by omega)
                rw [show j - len * i.size = j - cs.length by rw [hst]]
                exact this)
          refine ⟨_, _, _, hrun, g1, g2, .msl (by simp [upd_same]) rfl (fun ty' cs' he => ?_) (fun ty' cs' he _ => .inr ⟨b, 0, cap, _, e, upd_same _ _ _, rfl, setRow_heap w b c _ e _ hw, fun _ => rfl, ?_, hroom, hcm⟩)⟩
          · rw [upd_same] at he; cases he; omega
          · simp; omega
        · refine grow (some ⟨b, off', none⟩) cap (c.toList.take cs.length) rfl (by simp; omega) (fun j hj => ?_) ?_ (by omega)
          · have hj2 : j < c.size := by omega
            have := hr j hj
            simpa [hj, hj2] using this
          · rcases Nat.eq_zero_or_pos cap with hc0 | hc0
            · have hl0 : len = 0 := by omega
              subst hl0
              have hcs : cs = [] := List.eq_nil_of_length_eq_zero (by simpa using hst)
              subst hcs
              exact src_none _ _ rfl
            · obtain rfl := ho hc0
              refine src_slice (by simp; omega) (fun j hj => ?_) (fun u hu => ?_)
              · have hj1 : j < cs.length := by simp at hj; omega
                have hj2 : j < c.size := by omega
                rw [Nat.zero_add, hcell j hj1]
                simp [hj1, hj2]
              · obtain ⟨j, hj, rfl⟩ := List.getElem_of_mem hu
                have hj1 : j < cs.length := by simp at hj; omega
                have hj2 : j < c.size := by omega
                have := (hr j hj1).oneCell
                simpa [hj2] using this
end
end Go.Ab
