/- contracts: the document's lock (ref16), whose -/
import Derived.Test.YtbfadogjkhoohaaLockI
import Derived.Handy
namespace Go.Proofs.Ytbfadogjkhoohaa
open Go.RowKit
attribute [local go_sem] Oper.semAt_some undef

/-- the document's lock as a value -/
def refV (c : Int) (S : Nat → Int) : Value := .agg #[.int .i64 c, .int .i64 (S 0), .int .i64 (S 1), .int .i64 (S 2), .int .i64 (S 3), .int .i64 (S 4), .int .i64 (S 5), .int .i64 (S 6), .int .i64 (S 7)]

theorem whose_none (S : Nat → Int) (w : World) : Calls Try.prog 58 #[refV 0 S] w fun e w' =>
    e = .returned (.tuple #[.int .i64 0, .bool false]) ∧ Grow (fun _ => False) w w' := by
  unfold refV
  go_enter Try.func58, Try.ntmps58
  go_wp2
  go_ret2
  exact ⟨rfl, Grow.alloc _ _ _⟩
theorem whose_some (t : Int) (ht : 0 ≤ t ∧ t < 8) (S : Nat → Int) (w : World) : Calls Try.prog 58 #[refV (t + 1) S] w fun e w' =>
    e = .returned (.tuple #[.int .i64 t, .bool true]) ∧ Grow (fun _ => False) w w' := by
  unfold refV
  have hw : wrap64 (t + 1 - 1) = t := by unfold wrap64; omega
  have hn : t + 1 ≠ 0 := by omega
  go_enter Try.func58, Try.ntmps58
  go_wp2
  go_ret2
  exact ⟨rfl, Grow.alloc _ _ _⟩

theorem refFree_bad (c : Int) (S : Nat → Int) (t : Int) (h : ¬(0 ≤ t ∧ t < 8)) (w : World) : Calls Try.prog 57 #[refV c S, .int .i64 t] w fun e w' =>
    e = .returned (.tuple #[refV c S, .int .i64 2]) ∧ Grow (fun _ => False) w w' := by
  unfold refV
  have h' : decide (0 ≤ t ∧ t < 8) = false := by simpa using h
  refine (callsIn_wide (n := 0)).1 ?_
  gi_enter Try.func57, Try.ntmps57
  gi_wp2_with (first | (gi_at_call 59; refine (callsIn_wide.2 (thread_any _ _)).mono ?_; rintro e w' ⟨rfl, rfl⟩))
  go_returns
  exact ⟨rfl, (Grow.alloc _ _ _).trans (Grow.alloc _ _ _)⟩

theorem refFree_no (c : Int) (S : Nat → Int) (t : Int) (h : 0 ≤ t ∧ t < 8) (hc : c ≠ t + 1) (w : World) : Calls Try.prog 57 #[refV c S, .int .i64 t] w fun e w' =>
    e = .returned (.tuple #[refV c S, .int .i64 261]) ∧ Grow (fun _ => False) w w' := by
  unfold refV
  have hw : wrap64 (t + 1) = t + 1 := by unfold wrap64; omega
  obtain ⟨h0, h8⟩ := h
  refine (callsIn_wide (n := 0)).1 ?_
  gi_enter Try.func57, Try.ntmps57
  gi_wp2_with (first | (gi_at_call 59; refine (callsIn_wide.2 (thread_any _ _)).mono ?_; rintro e w' ⟨rfl, rfl⟩))
  go_returns
  exact ⟨rfl, (Grow.alloc _ _ _).trans (Grow.alloc _ _ _)⟩

theorem refFree_ok (S : Nat → Int) (t : Int) (h : 0 ≤ t ∧ t < 8) (w : World) : Calls Try.prog 57 #[refV (t + 1) S, .int .i64 t] w fun e w' =>
    e = .returned (.tuple #[refV 0 S, .int .i64 0]) ∧ Grow (fun _ => False) w w' := by
  unfold refV
  have hw : wrap64 (t + 1) = t + 1 := by unfold wrap64; omega
  obtain ⟨h0, h8⟩ := h
  refine (callsIn_wide (n := 0)).1 ?_
  gi_enter Try.func57, Try.ntmps57
  gi_wp2_with (first | (gi_at_call 59; refine (callsIn_wide.2 (thread_any _ _)).mono ?_; rintro e w' ⟨rfl, rfl⟩))
  go_returns
  exact ⟨rfl, (Grow.alloc _ _ _).trans (Grow.alloc _ _ _)⟩

theorem refTry_bad (c : Int) (S : Nat → Int) (t : Int) (h : ¬(0 ≤ t ∧ t < 8)) (w : World) : Calls Try.prog 56 #[refV c S, .int .i64 t] w fun e w' =>
    e = .returned (.tuple #[refV c S, .bool false, .int .i64 2]) ∧ Grow (fun _ => False) w w' := by
  unfold refV
  have h' : decide (0 ≤ t ∧ t < 8) = false := by simpa using h
  refine (callsIn_wide (n := 0)).1 ?_
  gi_enter Try.func56, Try.ntmps56
  gi_wp2_with (first | (gi_at_call 59; refine (callsIn_wide.2 (thread_any _ _)).mono ?_; rintro e w' ⟨rfl, rfl⟩))
  go_returns
  exact ⟨rfl, (Grow.alloc _ _ _).trans (Grow.alloc _ _ _)⟩

theorem refTry_own (S : Nat → Int) (t : Int) (h : 0 ≤ t ∧ t < 8) (w : World) : Calls Try.prog 56 #[refV (t + 1) S, .int .i64 t] w fun e w' =>
    e = .returned (.tuple #[refV (t + 1) S, .bool false, .int .i64 260]) ∧ Grow (fun _ => False) w w' := by
  unfold refV
  have hw : wrap64 (t + 1) = t + 1 := by unfold wrap64; omega
  obtain ⟨h0, h8⟩ := h
  refine (callsIn_wide (n := 0)).1 ?_
  gi_enter Try.func56, Try.ntmps56
  gi_wp2_with (first | (gi_at_call 59; refine (callsIn_wide.2 (thread_any _ _)).mono ?_; rintro e w' ⟨rfl, rfl⟩))
  go_returns
  exact ⟨rfl, (Grow.alloc _ _ _).trans (Grow.alloc _ _ _)⟩

set_option maxHeartbeats 3200000 in
theorem refTry_lose (c : Int) (S : Nat → Int) (t : Int) (h : 0 ≤ t ∧ t < 8) (hc : c ≠ t + 1) (hc0 : c ≠ 0) (w : World) : Calls Try.prog 56 #[refV c S, .int .i64 t] w fun e w' =>
    e = .returned (.tuple #[refV c (upd S t.toNat (wrap64 (S t.toNat + 1))), .bool false, .int .i64 0]) ∧ Grow (fun _ => False) w w' := by
  unfold refV
  have hw : wrap64 (t + 1) = t + 1 := by unfold wrap64; omega
  obtain ⟨h0, h8⟩ := h
  obtain ⟨k, rfl⟩ : ∃ k : Nat, t = (k : Int) := ⟨t.toNat, by omega⟩
  have hk : k < 8 := by omega
  clear h0 h8
  refine (callsIn_wide (n := 0)).1 ?_
  match k, hk with
  | 0, _ =>
    gi_enter Try.func56, Try.ntmps56
    gi_wp2_with (first | (gi_at_call 59; refine (callsIn_wide.2 (thread_any _ _)).mono ?_; rintro e w' ⟨rfl, rfl⟩))
    go_returns
    exact ⟨rfl, (Grow.alloc _ _ _).trans (Grow.alloc _ _ _)⟩
  | 1, _ =>
    gi_enter Try.func56, Try.ntmps56
    gi_wp2_with (first | (gi_at_call 59; refine (callsIn_wide.2 (thread_any _ _)).mono ?_; rintro e w' ⟨rfl, rfl⟩))
    go_returns
    exact ⟨rfl, (Grow.alloc _ _ _).trans (Grow.alloc _ _ _)⟩
  | 2, _ =>
    gi_enter Try.func56, Try.ntmps56
    gi_wp2_with (first | (gi_at_call 59; refine (callsIn_wide.2 (thread_any _ _)).mono ?_; rintro e w' ⟨rfl, rfl⟩))
    go_returns
    exact ⟨rfl, (Grow.alloc _ _ _).trans (Grow.alloc _ _ _)⟩
  | 3, _ =>
    gi_enter Try.func56, Try.ntmps56
    gi_wp2_with (first | (gi_at_call 59; refine (callsIn_wide.2 (thread_any _ _)).mono ?_; rintro e w' ⟨rfl, rfl⟩))
    go_returns
    exact ⟨rfl, (Grow.alloc _ _ _).trans (Grow.alloc _ _ _)⟩
  | 4, _ =>
    gi_enter Try.func56, Try.ntmps56
    gi_wp2_with (first | (gi_at_call 59; refine (callsIn_wide.2 (thread_any _ _)).mono ?_; rintro e w' ⟨rfl, rfl⟩))
    go_returns
    exact ⟨rfl, (Grow.alloc _ _ _).trans (Grow.alloc _ _ _)⟩
  | 5, _ =>
    gi_enter Try.func56, Try.ntmps56
    gi_wp2_with (first | (gi_at_call 59; refine (callsIn_wide.2 (thread_any _ _)).mono ?_; rintro e w' ⟨rfl, rfl⟩))
    go_returns
    exact ⟨rfl, (Grow.alloc _ _ _).trans (Grow.alloc _ _ _)⟩
  | 6, _ =>
    gi_enter Try.func56, Try.ntmps56
    gi_wp2_with (first | (gi_at_call 59; refine (callsIn_wide.2 (thread_any _ _)).mono ?_; rintro e w' ⟨rfl, rfl⟩))
    go_returns
    exact ⟨rfl, (Grow.alloc _ _ _).trans (Grow.alloc _ _ _)⟩
  | 7, _ =>
    gi_enter Try.func56, Try.ntmps56
    gi_wp2_with (first | (gi_at_call 59; refine (callsIn_wide.2 (thread_any _ _)).mono ?_; rintro e w' ⟨rfl, rfl⟩))
    go_returns
    exact ⟨rfl, (Grow.alloc _ _ _).trans (Grow.alloc _ _ _)⟩

set_option maxHeartbeats 3200000 in
theorem refTry_win (S : Nat → Int) (t : Int) (h : 0 ≤ t ∧ t < 8) (w : World) : Calls Try.prog 56 #[refV 0 S, .int .i64 t] w fun e w' =>
    e = .returned (.tuple #[refV (t + 1) (upd S t.toNat 0), .bool true, .int .i64 0]) ∧ Grow (fun _ => False) w w' := by
  unfold refV
  have hw : wrap64 (t + 1) = t + 1 := by unfold wrap64; omega
  obtain ⟨h0, h8⟩ := h
  obtain ⟨k, rfl⟩ : ∃ k : Nat, t = (k : Int) := ⟨t.toNat, by omega⟩
  have hk : k < 8 := by omega
  clear h0 h8
  refine (callsIn_wide (n := 0)).1 ?_
  match k, hk with
  | 0, _ =>
    gi_enter Try.func56, Try.ntmps56
    gi_wp2_with (first | (gi_at_call 59; refine (callsIn_wide.2 (thread_any _ _)).mono ?_; rintro e w' ⟨rfl, rfl⟩))
    go_returns
    exact ⟨rfl, (Grow.alloc _ _ _).trans (Grow.alloc _ _ _)⟩
  | 1, _ =>
    gi_enter Try.func56, Try.ntmps56
    gi_wp2_with (first | (gi_at_call 59; refine (callsIn_wide.2 (thread_any _ _)).mono ?_; rintro e w' ⟨rfl, rfl⟩))
    go_returns
    exact ⟨rfl, (Grow.alloc _ _ _).trans (Grow.alloc _ _ _)⟩
  | 2, _ =>
    gi_enter Try.func56, Try.ntmps56
    gi_wp2_with (first | (gi_at_call 59; refine (callsIn_wide.2 (thread_any _ _)).mono ?_; rintro e w' ⟨rfl, rfl⟩))
    go_returns
    exact ⟨rfl, (Grow.alloc _ _ _).trans (Grow.alloc _ _ _)⟩
  | 3, _ =>
    gi_enter Try.func56, Try.ntmps56
    gi_wp2_with (first | (gi_at_call 59; refine (callsIn_wide.2 (thread_any _ _)).mono ?_; rintro e w' ⟨rfl, rfl⟩))
    go_returns
    exact ⟨rfl, (Grow.alloc _ _ _).trans (Grow.alloc _ _ _)⟩
  | 4, _ =>
    gi_enter Try.func56, Try.ntmps56
    gi_wp2_with (first | (gi_at_call 59; refine (callsIn_wide.2 (thread_any _ _)).mono ?_; rintro e w' ⟨rfl, rfl⟩))
    go_returns
    exact ⟨rfl, (Grow.alloc _ _ _).trans (Grow.alloc _ _ _)⟩
  | 5, _ =>
    gi_enter Try.func56, Try.ntmps56
    gi_wp2_with (first | (gi_at_call 59; refine (callsIn_wide.2 (thread_any _ _)).mono ?_; rintro e w' ⟨rfl, rfl⟩))
    go_returns
    exact ⟨rfl, (Grow.alloc _ _ _).trans (Grow.alloc _ _ _)⟩
  | 6, _ =>
    gi_enter Try.func56, Try.ntmps56
    gi_wp2_with (first | (gi_at_call 59; refine (callsIn_wide.2 (thread_any _ _)).mono ?_; rintro e w' ⟨rfl, rfl⟩))
    go_returns
    exact ⟨rfl, (Grow.alloc _ _ _).trans (Grow.alloc _ _ _)⟩
  | 7, _ =>
    gi_enter Try.func56, Try.ntmps56
    gi_wp2_with (first | (gi_at_call 59; refine (callsIn_wide.2 (thread_any _ _)).mono ?_; rintro e w' ⟨rfl, rfl⟩))
    go_returns
    exact ⟨rfl, (Grow.alloc _ _ _).trans (Grow.alloc _ _ _)⟩

end Go.Proofs.Ytbfadogjkhoohaa
