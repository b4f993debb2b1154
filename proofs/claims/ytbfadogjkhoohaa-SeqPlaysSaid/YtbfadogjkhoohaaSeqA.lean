/- contracts of package seq -/
import Derived.Test.YtbfadogjkhoohaaProg
import Derived.WalkKit
namespace Go.Proofs.Ytbfadogjkhoohaa
open Go.RowKit

theorem new_any (w : World) : Calls Try.prog 14 #[] w fun e w' => e = .returned (.pointer (some ⟨w.heap.size, 0, none⟩)) ∧ w' = w.alloc (.cells #[.int .u64 0, .bool true] 75) := by
  go_enter Try.func14, Try.ntmps14
  go_wp2
  go_ret
  exact ⟨rfl, rfl⟩

theorem none_nil (w : World) : Calls Try.prog 44 #[.pointer none] w fun e w' => e = .returned (.bool true) ∧ w = w' := by
  go_enter Try.func44, Try.ntmps44
  go_wp2
  go_ret
  exact ⟨rfl, rfl⟩

theorem none_at (b : Nat) (t : Bool) (w : World) (h : w.cell? ⟨b, 1, none⟩ = some (.bool t)) : Calls Try.prog 44 #[.pointer (some ⟨b, 0, none⟩)] w fun e w' => e = .returned (.bool (!t)) ∧ w = w' := by
  go_enter Try.func44, Try.ntmps44
  go_wp2
  go_ret
  exact ⟨rfl, rfl⟩

theorem even_any (n : Int) (w : World) (h0 : 0 ≤ n) : Calls Try.prog 43 #[.int .u64 n] w fun e w' => e = .returned (.bool (n % 2 == 0)) ∧ w = w' := by
  go_enter Try.func43, Try.ntmps43
  go_wp2
  go_ret
  exact ⟨rfl, rfl⟩

end Go.Proofs.Ytbfadogjkhoohaa
