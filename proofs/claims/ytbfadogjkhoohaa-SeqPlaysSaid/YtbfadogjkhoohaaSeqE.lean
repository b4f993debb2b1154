/- the iterators of package seq -/
import Derived.Test.YtbfadogjkhoohaaSeqD
import Derived.LoopNIn
import Derived.LoopIn
namespace Go.Proofs.Ytbfadogjkhoohaa
open Go.RowKit
attribute [local go_sem] Oper.semAt_some

/-- the numbers behind f, up to u -/
def upTo (f u : Int) : List Int := (List.range (u - f).toNat).map (fun i : Nat => f + (i : Int) + 1)
theorem upTo_take (f u : Int) (k : Nat) (hk : k < (u - f).toNat) : (upTo f u).take k ++ [f + (k : Int) + 1] = (upTo f u).take (k + 1) := by
  unfold upTo
  rw [← List.map_take, ← List.map_take, List.take_range, List.take_range, Nat.min_eq_left (by omega), Nat.min_eq_left (by omega), List.range_succ]
  simp
theorem upTo_len (f u : Int) : (upTo f u).length = (u - f).toNat := by simp [upTo]

/-- behind's iterator hands over the numbers behind f, up to u -/
theorem behind_iter (fb ub : Nat) (f u : Int) (w : World) (hf0 : 0 ≤ f) (hu : u ≤ 18446744073709551615) (hfb : fb < w.heap.size) (hub : ub < w.heap.size)
    (hf : w.cell? ⟨fb, 0, none⟩ = some (.int .u64 f)) (hu' : w.cell? ⟨ub, 0, none⟩ = some (.int .u64 u)) :
    Iter Try.prog 62 #[.pointer (some ⟨fb, 0, none⟩), .pointer (some ⟨ub, 0, none⟩)] (fun x : Int => #[.int .u64 x]) (upTo f u) (fun k => k = fb ∨ k = ub) w := by
  intro l W hW J Jx sJ sJx h0 hY
  have hf1 : W.cell? ⟨fb, 0, none⟩ = some (.int .u64 f) := (hW.cell (p := ⟨fb, 0, none⟩) hfb).trans hf
  have hu1 : W.cell? ⟨ub, 0, none⟩ = some (.int .u64 u) := (hW.cell (p := ⟨ub, 0, none⟩) hub).trans hu'
  clear hf hu'
  gi_enter Try.func62, Try.ntmps62
  gi_wp2
  gi_loopw [4] (fun i wr => ∃ k : Nat, i = .int .u64 (f + k) ∧ k ≤ (u - f).toNat ∧ J W.heap.size ((upTo f u).take k) wr ∧ wr.cell? ⟨ub, 0, none⟩ = some (.int .u64 u) ∧ W.heap.size ≤ wr.heap.size)
    (fun i _ => (u - intOf i).toNat)
  case atStart => exact ⟨0, by simp, Nat.zero_le _, h0 _, hu1, Nat.le_refl _⟩
  case round =>
    obtain ⟨k, rfl, hk, hJ, hc, hz⟩ := hrel
    by_cases hlt : k < (u - f).toNat
    · have hlt' : f + (k : Int) < u := by omega
      have hpre : (upTo f u).take k ++ [f + (k : Int) + 1] <+: upTo f u := by rw [upTo_take f u k hlt]; exact List.take_prefix _ _
      obtain ⟨fn, tmps, assign, body, hy, hR⟩ := hY W.heap.size _ _ wr hpre (Nat.le_refl _) hz hJ
      clear hJ hpre
      gi_wp2
      refine hR.mono ?_
      rintro e W3 ⟨hk3, hz3, (⟨rfl, hJ3⟩ | ⟨rfl, hJx3⟩)⟩
      · have hc3 : W3.cell? ⟨ub, 0, none⟩ = some (.int .u64 u) := (World.cell?_of_block (hk3 ub (.inl (.inr rfl)))).trans hc
        gi_wp2
        go_roundw
        case rel => exact ⟨k + 1, by go_num, by omega, by rw [← upTo_take f u k hlt]; exact hJ3, hc3, by omega⟩
        case measure => simp [intOf]; omega
      · gi_wp2
        refine bodyPost_ret (results_none rfl _ _ _) rfl ?_
        refine ⟨⟨_, rfl⟩, W.heap.size, Nat.le_refl _, .inr ⟨_, by rw [upTo_take f u k hlt]; exact List.take_prefix _ _, by simp, hJx3⟩⟩
    · have hge : ¬ f + (k : Int) < u := by omega
      have hJ' : J W.heap.size (upTo f u) wr := by rw [List.take_of_length_le (by rw [upTo_len]; omega)] at hJ; exact hJ
      gi_wp2
      go_end0
      exact ⟨⟨_, rfl⟩, W.heap.size, Nat.le_refl _, .inl hJ'⟩

end Go.Proofs.Ytbfadogjkhoohaa
