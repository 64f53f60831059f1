/- YtpikidekdeglcaaEQ: part of the proof; written by a program of mine. -/
import Derived.Test.YtpikidekdeglcaaTy
import Derived.DeepKeys
set_option linter.all false
set_option maxRecDepth 20000
namespace Go.Ab.Try
open Go Go.Proofs Go.Ab
noncomputable section
theorem huU64 : Try.prog.underlying 27 = some (.int .u64) := by kernel_rfl
theorem huI64 : Try.prog.underlying 3 = some (.int .i64) := by kernel_rfl
theorem eqU (d : Nat) (a b c e a' b' c' e' : Int) (w : World) : (Op.equalIn (d + 2) 29 (.agg #[.int .u64 a, .int .u64 b, .int .u64 c, .int .u64 e]) (.agg #[.int .u64 a', .int .u64 b', .int .u64 c', .int .u64 e'])).run Try.prog w
    = .ok (a == a' && (b == b' && (c == c' && e == e'))) w := by
  obtain ⟨i, hi⟩ := info_of_underlying huU64
  have hc : Try.prog.cellsOf 27 = 1 := by kernel_rfl
  rw [run_equalIn_array (w := w) (d + 1) (t := 29) (e := 27) (n := 4) (i := i) _ _ (by kernel_rfl) hi, hc]
  have hp : ∀ (xs : Array Value) (off : Nat) (v : Value), xs[off]? = some v → (part 27 xs off).run Try.prog w = .ok v w := fun xs off v h => run_part_plain w (by kernel_rfl) h
  have he : ∀ (x y : Int), (Op.equalIn (d + 1) 27 (.int .u64 x) (.int .u64 y)).run Try.prog w = .ok (x == y) w := fun x y => by simp [Op.equalIn, run_underlying huU64]
  have hr : List.range 4 = [0, 1, 2, 3] := rfl
  rw [hr]
  simp only [Op.eqItems, Sem.run_bind]
  rw [hp _ (0 * 1) (.int .u64 a) rfl]
  simp only [Result.andThen_ok]
  rw [hp _ (0 * 1) (.int .u64 a') rfl]
  simp only [Result.andThen_ok, he]
  cases h0 : (a == a') with
  | false => simp
  | true =>
    simp only [Bool.not_true, Bool.false_eq_true, if_false, Sem.run_bind]
    rw [hp _ (1 * 1) (.int .u64 b) rfl]
    simp only [Result.andThen_ok]
    rw [hp _ (1 * 1) (.int .u64 b') rfl]
    simp only [Result.andThen_ok, he]
    cases h1 : (b == b') with
    | false => simp
    | true =>
      simp only [Bool.not_true, Bool.false_eq_true, if_false, Sem.run_bind]
      rw [hp _ (2 * 1) (.int .u64 c) rfl]
      simp only [Result.andThen_ok]
      rw [hp _ (2 * 1) (.int .u64 c') rfl]
      simp only [Result.andThen_ok, he]
      cases h2 : (c == c') with
      | false => simp
      | true =>
        simp only [Bool.not_true, Bool.false_eq_true, if_false, Sem.run_bind]
        rw [hp _ (3 * 1) (.int .u64 e) rfl]
        simp only [Result.andThen_ok]
        rw [hp _ (3 * 1) (.int .u64 e') rfl]
        simp only [Result.andThen_ok, he]
        cases h3 : (e == e') with
        | false => simp
        | true =>
          simp only [Bool.not_true, Bool.false_eq_true, if_false, Sem.run_bind]
          simp
theorem part_int (xs : Array Value) (off : Nat) (v : Value) (w : World) (h : xs[off]? = some v) : (part 3 xs off).run Try.prog w = .ok v w := run_part_plain w (by kernel_rfl) h
theorem part_U (xs : Array Value) (off : Nat) (w : World) : (part 29 xs off).run Try.prog w = .ok (.agg (xs.extract off (off + 4))) w := by
  have h1 : Try.prog.underlying 29 = some (.array 4 27) := by kernel_rfl
  have h2 := run_sizeOf' (P := Try.prog) ti29 w
  simp [part, isAgg, run_underlying h1, h2]
theorem eq_int (d : Nat) (x y : Int) (w : World) : (Op.equalIn (d + 1) 3 (.int .i64 x) (.int .i64 y)).run Try.prog w = .ok (x == y) w := by simp [Op.equalIn, run_underlying huI64]
theorem eqR (d : Nat) (x a b c e x' a' b' c' e' : Int) (w : World) : (Op.equalIn (d + 3) 31 (.agg #[.int .i64 x, .int .u64 a, .int .u64 b, .int .u64 c, .int .u64 e]) (.agg #[.int .i64 x', .int .u64 a', .int .u64 b', .int .u64 c', .int .u64 e'])).run Try.prog w
    = .ok (x == x' && (a == a' && (b == b' && (c == c' && e == e')))) w := by
  have hf : (Try.prog.fieldsOf 31).toList = [{ name := "Dist", type := 3, offset := 0, embedded := false, tag := "", pkgPath := "", byteOffset := 0 }, { name := "Tip", type := 29, offset := 1, embedded := false, tag := "", pkgPath := "", byteOffset := 8 }] := by kernel_rfl
  rw [run_equalIn_struct (w := w) (d + 2) 31 _ _ (by kernel_rfl) (by kernel_rfl), hf]
  simp only [Op.eqFields, ne_eq, String.reduceEq, not_false_eq_true, if_true, Sem.run_bind]
  rw [part_int _ 0 (.int .i64 x) w rfl]
  simp only [Result.andThen_ok]
  rw [part_int _ 0 (.int .i64 x') w rfl]
  simp only [Result.andThen_ok]
  rw [eq_int (d + 1)]
  simp only [Result.andThen_ok]
  cases h0 : (x == x') with
  | false => simp
  | true =>
    simp only [Bool.not_true, Bool.false_eq_true, if_false, Sem.run_bind, part_U, Result.andThen_ok]
    have e1 : ∀ (x a b c e : Int), (#[Value.int .i64 x, .int .u64 a, .int .u64 b, .int .u64 c, .int .u64 e].extract 1 (1 + 4)) = #[.int .u64 a, .int .u64 b, .int .u64 c, .int .u64 e] := fun _ _ _ _ _ => rfl
    rw [e1, e1, eqU d]
    simp only [Result.andThen_ok]
    cases (a == a' && (b == b' && (c == c' && e == e'))) <;> simp
theorem eqT_rank (x a b c e x' a' b' c' e' : Int) : EqT Try.prog 31 [.s (.int .i64 x), .s (.int .u64 a), .s (.int .u64 b), .s (.int .u64 c), .s (.int .u64 e)] [.s (.int .i64 x'), .s (.int .u64 a'), .s (.int .u64 b'), .s (.int .u64 c'), .s (.int .u64 e')] := by
  refine ⟨_, _, rfl, rfl, by kernel_rfl, fun w => ?_⟩
  have := eqR 9997 x a b c e x' a' b' c' e' w
  show (Op.equalIn 10000 _ _ _).run _ w = _
  rw [show (10000 : Nat) = 9997 + 3 from rfl]
  refine this.trans ?_
  congr 1
  rw [Bool.eq_iff_iff]
  simp [and_assoc]
end
end Go.Ab.Try
