/- contracts of package seq, on -/
import Derived.Test.YtbfadogjkhoohaaSeqB
import Derived.Deep.QuietTactic
import Derived.BigQuiet
namespace Go.Proofs.Ytbfadogjkhoohaa
open Go.RowKit

theorem num_any (n : Int) (w : World) : Calls Try.prog 18 #[.int .i64 n] w fun e w' => e = .returned (.int .i64 n) ∧ w = w' := by
  go_enter Try.func18, Try.ntmps18
  go_wp2
  go_ret
  exact ⟨rfl, rfl⟩

theorem refEven_any (n : Int) (w : World) (h0 : 0 ≤ n) : Calls Try.prog 37 #[.int .u64 n] w fun e w' => e = .returned (.bool (n % 2 == 0)) ∧ w = w' := by
  go_enter Try.func37, Try.ntmps37
  go_wp2
  go_ret
  exact ⟨rfl, rfl⟩

theorem now_ok (b : Nat) (n : Int) (w : World) (hs : SeqAt w b n) :
    Calls Try.prog 19 #[.pointer (some ⟨b, 0, none⟩)] w fun e w' => e = .returned (.int .u64 n) ∧ w = w' := by
  obtain ⟨c0, c1, f0⟩ := hs
  go_enter Try.func19, Try.ntmps19
  go_wp2_with (first
    | (go_at_call 44; refine (none_at _ _ _ c1).mono ?_; rintro e w' ⟨rfl, rfl⟩)
    | (go_at_call 41; refine (plain_any _ _).mono ?_; rintro e w' ⟨rfl, rfl⟩))
  go_ret
  exact ⟨rfl, rfl⟩
theorem now_nil (w : World) :
    Calls Try.prog 19 #[.pointer none] w fun e w' => e = .returned (.int .u64 0) ∧ w = w' := by
  go_enter Try.func19, Try.ntmps19
  go_wp2_with (go_at_call 44; refine (none_nil _).mono ?_; rintro e w' ⟨rfl, rfl⟩)
  go_ret
  exact ⟨rfl, rfl⟩
theorem now_off (b : Nat) (w : World) (c1 : w.cell? ⟨b, 1, none⟩ = some (.bool false)) :
    Calls Try.prog 19 #[.pointer (some ⟨b, 0, none⟩)] w fun e w' => e = .returned (.int .u64 0) ∧ w = w' := by
  go_enter Try.func19, Try.ntmps19
  go_wp2_with (go_at_call 44; refine (none_at _ _ _ c1).mono ?_; rintro e w' ⟨rfl, rfl⟩)
  go_ret
  exact ⟨rfl, rfl⟩

/-- one, of one number -/
theorem one_any (n x : Int) (b : Nat) (w : World) (hc : w.cell? ⟨b, 0, none⟩ = some (.int .u64 x)) :
    Calls Try.prog 45 #[.int .u64 n, .slice (some ⟨b, 0, none⟩) 1 1] w fun e w' => e = .returned (.bool (x == n)) ∧ w = w' := by
  by_cases hx : (x == n) = true
  all_goals
    go_enter Try.func45, Try.ntmps45
    go_wp2
    go_loop [6, 9] (fun y i => ∃ k : Nat, i = .int .i64 k ∧ ((k = 0) ∨ (k = 1 ∧ (x == n) = false))) (fun _ i => 1 - (intOf i).toNat)
    case atStart => exact ⟨0, rfl, .inl rfl⟩
    case round =>
      obtain ⟨k, rfl, (rfl | ⟨rfl, hn⟩)⟩ := hrel
      all_goals
        go_wp2
        all_goals first
          | (go_ret; exact ⟨by simp_all, rfl⟩)
          | (go_round
             case rel => exact ⟨1, by go_num, .inr ⟨rfl, by simp_all⟩⟩
             case measure => simp [intOf])

end Go.Proofs.Ytbfadogjkhoohaa
