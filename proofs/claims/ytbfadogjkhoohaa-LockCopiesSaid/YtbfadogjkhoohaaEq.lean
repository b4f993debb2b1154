/- equality of the lock's structs -/
import Derived.Test.YtbfadogjkhoohaaLockJ
import Derived.Laws.StructEq
namespace Go.Proofs.Ytbfadogjkhoohaa
open Go.RowKit

/-- eight numbers agree -/
def all8 (X Y : Nat → Int) : Bool := X 0 == Y 0 && (X 1 == Y 1 && (X 2 == Y 2 && (X 3 == Y 3 && (X 4 == Y 4 && (X 5 == Y 5 && (X 6 == Y 6 && X 7 == Y 7))))))
theorem all8_iff {X Y : Nat → Int} : all8 X Y = true ↔ ∀ k, k < 8 → X k = Y k := by
  unfold all8
  simp only [Bool.and_eq_true, beq_iff_eq]
  constructor
  · rintro ⟨h0, h1, h2, h3, h4, h5, h6, h7⟩ k hk
    match k, hk with
    | 0, _ => exact h0
    | 1, _ => exact h1
    | 2, _ => exact h2
    | 3, _ => exact h3
    | 4, _ => exact h4
    | 5, _ => exact h5
    | 6, _ => exact h6
    | 7, _ => exact h7
  · intro h
    exact ⟨h 0 (by omega), h 1 (by omega), h 2 (by omega), h 3 (by omega), h 4 (by omega), h 5 (by omega), h 6 (by omega), h 7 (by omega)⟩

def row8 (X : Nat → Int) : Array Value := #[.int .i64 (X 0), .int .i64 (X 1), .int .i64 (X 2), .int .i64 (X 3), .int .i64 (X 4), .int .i64 (X 5), .int .i64 (X 6), .int .i64 (X 7)]

theorem size3 (w : World) : (sizeOf 3).run Try.prog w = .ok 1 w := by kernel_rfl

theorem eq8 (d t : Nat) (ht : Try.prog.underlying t = some (.array 8 3)) (X Y : Nat → Int) (w : World) :
    (Op.equalIn (d + 2) t (.agg (row8 X)) (.agg (row8 Y))).run Try.prog w = .ok (all8 X Y) w := by
  have px : ∀ (Z : Nat → Int) (i : Nat) (w : World), i < 8 → (part 3 (row8 Z) i).run Try.prog w = .ok (.int .i64 (Z i)) w := by
    intro Z i w hi
    match i, hi with
    | 0, _ => simp [part, isAgg, run_underlying Try.underlying3, row8]
    | 1, _ => simp [part, isAgg, run_underlying Try.underlying3, row8]
    | 2, _ => simp [part, isAgg, run_underlying Try.underlying3, row8]
    | 3, _ => simp [part, isAgg, run_underlying Try.underlying3, row8]
    | 4, _ => simp [part, isAgg, run_underlying Try.underlying3, row8]
    | 5, _ => simp [part, isAgg, run_underlying Try.underlying3, row8]
    | 6, _ => simp [part, isAgg, run_underlying Try.underlying3, row8]
    | 7, _ => simp [part, isAgg, run_underlying Try.underlying3, row8]
  have hr : List.range' 0 8 = [0, 1, 2, 3, 4, 5, 6, 7] := by decide
  unfold Op.equalIn
  simp only [Sem.run_bind, run_underlying ht, Result.andThen_ok, size3, Std.Legacy.Range.forIn_eq_forIn_range', Std.Legacy.Range.size, Nat.sub_zero, Nat.add_sub_cancel, Nat.div_one, hr, Nat.mul_one,  List.forIn_cons, List.forIn_nil, px,
    Nat.reduceLT, run_equalIn_int w d 3 .i64 .i64 _ _ Try.underlying3]
  unfold all8
  cases h0 : (X 0 == Y 0)
  · simp
  simp only [Bool.not_true, Bool.false_eq_true, if_false, Sem.run_pure, Sem.run_bind, Result.andThen_ok, px, Nat.reduceLT, run_equalIn_int w d 3 .i64 .i64 _ _ Try.underlying3, Bool.true_and]
  cases h1 : (X 1 == Y 1)
  · simp
  simp only [Bool.not_true, Bool.false_eq_true, if_false, Sem.run_pure, Sem.run_bind, Result.andThen_ok, px, Nat.reduceLT, run_equalIn_int w d 3 .i64 .i64 _ _ Try.underlying3, Bool.true_and]
  cases h2 : (X 2 == Y 2)
  · simp
  simp only [Bool.not_true, Bool.false_eq_true, if_false, Sem.run_pure, Sem.run_bind, Result.andThen_ok, px, Nat.reduceLT, run_equalIn_int w d 3 .i64 .i64 _ _ Try.underlying3, Bool.true_and]
  cases h3 : (X 3 == Y 3)
  · simp
  simp only [Bool.not_true, Bool.false_eq_true, if_false, Sem.run_pure, Sem.run_bind, Result.andThen_ok, px, Nat.reduceLT, run_equalIn_int w d 3 .i64 .i64 _ _ Try.underlying3, Bool.true_and]
  cases h4 : (X 4 == Y 4)
  · simp
  simp only [Bool.not_true, Bool.false_eq_true, if_false, Sem.run_pure, Sem.run_bind, Result.andThen_ok, px, Nat.reduceLT, run_equalIn_int w d 3 .i64 .i64 _ _ Try.underlying3, Bool.true_and]
  cases h5 : (X 5 == Y 5)
  · simp
  simp only [Bool.not_true, Bool.false_eq_true, if_false, Sem.run_pure, Sem.run_bind, Result.andThen_ok, px, Nat.reduceLT, run_equalIn_int w d 3 .i64 .i64 _ _ Try.underlying3, Bool.true_and]
  cases h6 : (X 6 == Y 6)
  · simp
  simp only [Bool.not_true, Bool.false_eq_true, if_false, Sem.run_pure, Sem.run_bind, Result.andThen_ok, px, Nat.reduceLT, run_equalIn_int w d 3 .i64 .i64 _ _ Try.underlying3, Bool.true_and]
  cases h7 : (X 7 == Y 7)
  · simp
  simp

theorem stood65 : Try.prog.stoodInHeld 65 = false := by kernel_rfl
theorem stood60 : Try.prog.stoodInHeld 60 = false := by kernel_rfl
theorem guard65 : Try.prog.eqGuardType Try.prog.depth 65 = false := by kernel_rfl
theorem guard66 : Try.prog.eqGuardType Try.prog.depth 66 = false := by kernel_rfl
theorem guard60 : Try.prog.eqGuardType Try.prog.depth 60 = false := by kernel_rfl
theorem fields65 : Try.prog.underlying 65 = some (.struct (Try.prog.fieldsOf 65)) := by kernel_rfl
theorem fields60 : Try.prog.underlying 60 = some (.struct (Try.prog.fieldsOf 60)) := by kernel_rfl

theorem run_guard65 (x y : Operand) (xs ys : Array Value) (w : World) : (eqGuard .eql 65 x y (.agg xs) (.agg ys)).run Try.prog w = .ok () w := run_eqGuard_agg w .eql 65 x y xs ys guard65
theorem run_guard66 (x y : Operand) (xs ys : Array Value) (w : World) : (eqGuard .eql 66 x y (.agg xs) (.agg ys)).run Try.prog w = .ok () w := run_eqGuard_agg w .eql 66 x y xs ys guard66
theorem run_guard60 (x y : Operand) (xs ys : Array Value) (w : World) : (eqGuard .eql 60 x y (.agg xs) (.agg ys)).run Try.prog w = .ok () w := run_eqGuard_agg w .eql 60 x y xs ys guard60

theorem run_eql66 (X Y : Nat → Int) (w : World) : (binOp .eql 66 (.agg (row8 X)) (.agg (row8 Y))).run Try.prog w = .ok (.bool (all8 X Y)) w := by
  rw [run_eql_struct, eq8 9998 66 Try.underlying66]
  rfl

theorem run_eql65 (a b : Int) (g h : Bool) (w : World) : (binOp .eql 65 (.agg #[.int .i64 a, .bool g]) (.agg #[.int .i64 b, .bool h])).run Try.prog w = .ok (.bool (a == b && g == h)) w := by
  rw [run_eql_struct, run_equalIn_struct w 9999 65 _ _ fields65 stood65]
  simp only [Program.fieldsOf, Try.underlying65, Op.eqFields]
  have h3 : ∀ (x y : Int) (w : World), (Op.equalIn 9999 3 (.int .i64 x) (.int .i64 y)).run Try.prog w = .ok (x == y) w := fun x y w => run_equalIn_int w 9998 3 .i64 .i64 _ _ Try.underlying3
  have h4 : ∀ (x y : Bool) (w : World), (Op.equalIn 9999 4 (.bool x) (.bool y)).run Try.prog w = .ok (x == y) w := fun x y w => run_equalIn_bool' w 9998 4 _ _ Try.underlying4
  cases h0 : (a == b) <;> cases h1 : (g == h) <;> simp [part, isAgg, run_underlying Try.underlying3, run_underlying Try.underlying4, h3, h4, h0, h1, -beq_eq_false_iff_ne, -beq_iff_eq]

theorem run_eql60 (c d : Int) (S T : Nat → Int) (w : World) : (binOp .eql 60 (refV c S) (refV d T)).run Try.prog w = .ok (.bool (c == d && all8 S T)) w := by
  unfold refV
  rw [run_eql_struct, run_equalIn_struct w 9999 60 _ _ fields60 stood60]
  simp only [Program.fieldsOf, Try.underlying60, Op.eqFields]
  have h3 : ∀ (x y : Int) (w : World), (Op.equalIn 9999 3 (.int .i64 x) (.int .i64 y)).run Try.prog w = .ok (x == y) w := fun x y w => run_equalIn_int w 9998 3 .i64 .i64 _ _ Try.underlying3
  have h58 : ∀ (w : World), (Op.equalIn 9999 58 (.agg (row8 S)) (.agg (row8 T))).run Try.prog w = .ok (all8 S T) w := fun w => eq8 9997 58 Try.underlying58 S T w
  unfold row8 at h58
  cases h0 : (c == d) <;> cases h1 : all8 S T <;> simp [part, isAgg, run_underlying Try.underlying3, run_underlying Try.underlying58, h3, h58, h0, h1, -beq_eq_false_iff_ne, -beq_iff_eq]

end Go.Proofs.Ytbfadogjkhoohaa
