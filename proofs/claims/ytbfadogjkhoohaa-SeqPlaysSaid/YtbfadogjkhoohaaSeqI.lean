/- the reference's Changes -/
import Derived.Test.YtbfadogjkhoohaaSeqH
namespace Go.Proofs.Ytbfadogjkhoohaa
open Go.RowKit

theorem Try.info22 : (Try.prog.info? 22).map (fun i => (i.zero, i.size, i.bytes)) = some (some (.int .u64 0), 1, 8) := by kernel_rfl

theorem changes_prefix (f u : Int) (k : Nat) (hk : (evens ((upTo f u).take k)).length ≤ 1000) (h : (evens ((upTo f u).take k)).length = 1000 ∨ (u - f).toNat ≤ k) :
    evens ((upTo f u).take k) = changes f u := by
  have hp := evens_take (f := f) (u := u) (l := (upTo f u).take k) (List.take_prefix _ _) hk
  refine hp.eq_of_length_le ?_
  rcases h with h | h
  · rw [h]; unfold changes; simp; omega
  · rw [List.take_of_length_le (by rw [upTo_len]; omega)] at hk ⊢
    unfold changes
    simp only [List.length_take]
    omega

set_option maxHeartbeats 800000 in
theorem refChanges_any (f u : Int) (w : World) (hf0 : 0 ≤ f) (hu : u ≤ 18446744073709551615) :
    Calls Try.prog 11 #[.int .u64 f, .int .u64 u] w fun e w' => ∃ v, e = .returned v ∧ w'.ownsRow w.heap.size 22 1 v (changes f u).length ((changes f u).map (Value.int .u64)) ∧ Below w.heap.size w w' := by
  obtain ⟨i0, hi, hz0, hz1, hz2⟩ := info_parts Try.info22
  go_enter Try.func11, Try.ntmps11
  go_wp2
  go_loopw [5, 6] (fun v n wr => ∃ k : Nat, n = .int .u64 (f + k) ∧ k ≤ (u - f).toNat ∧ (evens ((upTo f u).take k)).length ≤ 1000 ∧
      wr.ownsRow w.heap.size 22 1 v (evens ((upTo f u).take k)).length ((evens ((upTo f u).take k)).map (Value.int .u64)) ∧ Below w.heap.size w wr)
    (fun _ n _ => (u - intOf n).toNat)
  case atStart => exact ⟨0, by simp, Nat.zero_le _, by simp [evens], by simpa [evens] using World.ownsRow_nil _ _ _ _, Below.refl _ _⟩
  case round =>
    obtain ⟨k, rfl, hk, hlen, hown, hb⟩ := hrel
    obtain ⟨a, cap, rfl⟩ := ownsRow_slice hown
    have hpr := changes_prefix f u k hlen
    have htk := fun h => upTo_take f u k h
    generalize hL : evens ((upTo f u).take k) = L at *
    by_cases hlt : k < (u - f).toNat
    · have hlt' : f + (k : Int) < u := by omega
      by_cases hm : L.length < 1000
      · have hm' : decide ((L.length : Int) < 1000) = true := decide_eq_true (by omega)
        have hx0 : 0 ≤ f + (k : Int) + 1 := by omega
        rcases Int.emod_two_eq (f + (k : Int) + 1) with hx | hx
        · have hev : (((f + (k : Int) + 1) % 2 == 0) : Bool) = true := by simp [hx]
          have HL : Hid (evens ((upTo f u).take (k + 1)) = L ++ [f + (k : Int) + 1]) := by rw [← htk hlt, evens_even _ _ hx, hL]; exact rfl
          clear hL hpr htk
          go_wp2_with (first
            | (go_at_call 37; refine (refEven_any _ _ hx0).mono ?_; rintro e w' ⟨rfl, rfl⟩)
            | (at_builtin; refine wpList_append_own _ rfl _ _ 23 rfl w.heap.size 22 i0 (.int .u64 0) 1 8 Try.underlying23 hi hz0 hz1 hz2 rfl (by decide) _ _ _ rfl (hown.alloc _) ⟨wr.heap.size, 0, none⟩ 1 1 [.int .u64 (f + (k : Int) + 1)] rfl rfl ?c1 ?c2 ?c3 ?c4 ?c5 ?_))
          case c1 =>
            intro j u hj
            match j, hj with
            | 0, hj => simp at hj; subst hj; simp [Addr.add]
          case c2 => intro u hu; simp at hu; subst hu; rfl
          case c3 => unfold maxLen; omega
          case c4 => omega
          case c5 => have := hb.size; simp; omega
          intro v' w1 hown' hgrow _
          have hb' := (hb.alloc hb.size (.cells #[.int .u64 (f + (k : Int) + 1)] 22)).grown hgrow (by have := hb.size; simp; omega) (fun k' hk' => (hown.lt k' hk').1)
          clear hgrow
          go_wp2
          go_roundw
          case rel =>
            refine ⟨k + 1, by go_num, by omega, ?_, ?_, hb'⟩
            · rw [HL.out]; simp; omega
            · rw [HL.out]; simpa using hown'
          case measure => simp [intOf]; omega
        · have hev : (((f + (k : Int) + 1) % 2 == 0) : Bool) = false := by simp [hx]
          have HL : Hid (evens ((upTo f u).take (k + 1)) = L) := by rw [← htk hlt, evens_odd _ _ hx, hL]; exact rfl
          clear hL hpr htk
          go_wp2_with (first
            | (go_at_call 37; refine (refEven_any _ _ hx0).mono ?_; rintro e w' ⟨rfl, rfl⟩))
          go_roundw
          case rel =>
            refine ⟨k + 1, by go_num, by omega, ?_, ?_, hb⟩
            · rw [HL.out]; exact hlen
            · rw [HL.out]; exact hown
          case measure => simp [intOf]; omega
      · have hm' : decide ((L.length : Int) < 1000) = false := decide_eq_false (by omega)
        have hpr := hpr (.inl (by omega))
        clear hL htk
        subst hpr
        go_wp2
        go_ret
        exact ⟨_, rfl, hown, hb⟩
    · have hlt' : ¬ f + (k : Int) < u := by omega
      have hpr := hpr (.inr (by omega))
      clear hL htk
      subst hpr
      go_wp2
      go_ret
      exact ⟨_, rfl, hown, hb⟩

end Go.Proofs.Ytbfadogjkhoohaa
