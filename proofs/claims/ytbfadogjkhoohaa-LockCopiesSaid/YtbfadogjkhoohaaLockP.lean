/- contracts: waterlinelaw16.is -/
import Derived.Test.YtbfadogjkhoohaaLockO
namespace Go.Proofs.Ytbfadogjkhoohaa
open Go.RowKit
attribute [local go_sem] Oper.semAt_some undef

theorem RefAt.cs {w : World} {B : Nat} {c : Int} {S : Nat → Int} (h : RefAt w B c S) (k : Nat) (hk : k < 8) : w.cell? ⟨B, 1 + k, none⟩ = some (.int .i64 (S k)) := by
  match k, hk with
  | 0, _ => exact h.c1
  | 1, _ => exact h.c2
  | 2, _ => exact h.c3
  | 3, _ => exact h.c4
  | 4, _ => exact h.c5
  | 5, _ => exact h.c6
  | 6, _ => exact h.c7
  | 7, _ => exact h.c8

theorem ref_box (w : World) (c : Int) (S : Nat → Int) : ∀ w3, w.alloc (.cells #[.int .i64 c, .int .i64 (S 0), .int .i64 (S 1), .int .i64 (S 2), .int .i64 (S 3), .int .i64 (S 4), .int .i64 (S 5), .int .i64 (S 6), .int .i64 (S 7)] 60) = w3 →
    RefAt w3 w.heap.size c S ∧ Newer w w3 := by
  rintro _ rfl
  refine ⟨⟨?_, ?_, ?_, ?_, ?_, ?_, ?_, ?_, ?_, ?_⟩, Grow.alloc _ _ _⟩
  all_goals first | (intro k; simp [go_sem]; done) | (simp [go_sem]; done)

theorem whose_rc (th : Int) (h : Bool) (hv : LV th h) (S : Nat → Int) (w : World) : Calls Try.prog 58 #[refV (RC th h) S] w fun e w' =>
    e = .returned (.tuple #[.int .i64 th, .bool h]) ∧ Grow (fun _ => False) w w' := by
  cases h with
  | true => exact whose_some th (hv.1 rfl) S w
  | false => rw [hv.2 rfl]; exact whose_none S w

set_option maxRecDepth 100000 in
set_option maxHeartbeats 1600000 in
theorem is_any (b : Nat) (th : Int) (h : Bool) (sp : Nat → Int) (w : World) (hl : LockAt w b th h sp) (hv : LV th h) :
    Calls Try.prog 31 #[.pointer (some ⟨b, 0, none⟩), refV (RC th h) sp] w fun e w' => e = .returned (.bool true) ∧ Newer w w' := by
  have HL := Lib.hid hl
  have HV := Lib.hid hv
  have hb := hl.lt
  clear hl hv
  obtain ⟨c, hc⟩ : ∃ c, RC th h = c := ⟨_, rfl⟩
  have HC := Lib.hid hc
  rw [hc]
  clear hc
  unfold refV
  refine (callsIn_wide (n := 0)).1 ?_
  gi_enter Try.func31, Try.ntmps31
  gi_wp2_with fail
  obtain ⟨w3, hw3⟩ : ∃ w3, w.alloc (.cells #[.int .i64 c, .int .i64 (sp 0), .int .i64 (sp 1), .int .i64 (sp 2), .int .i64 (sp 3), .int .i64 (sp 4), .int .i64 (sp 5), .int .i64 (sp 6), .int .i64 (sp 7)] 60) = w3 := ⟨_, rfl⟩
  obtain ⟨r1, n3⟩ := ref_box w c sp w3 hw3
  rw [hw3]
  clear hw3
  obtain ⟨B, hB⟩ : ∃ B, w.heap.size = B := ⟨_, rfl⟩
  have HB := Lib.hid hB
  rw [hB] at r1 hb
  rw [hB]
  have H3 := Lib.hid (And.intro (newer_lock HL.out n3) (And.intro r1 n3))
  clear hB n3 r1
  simp only [undef]
  gi_loopw [5] (fun i wr => ∃ k : Int, i = .int .i64 k ∧ -1 ≤ k ∧ k ≤ 9 ∧ LockAt wr b th h sp ∧ RefAt wr B c sp ∧ Newer w wr) (fun i _ => (9 - intOf i).toNat)
  case atStart => exact ⟨-1, rfl, by omega, by omega, H3.out⟩
  case round =>
    obtain ⟨k, rfl, hk0, hk9, hs⟩ := hrel
    have HS := Lib.hid hs
    clear hs
    by_cases hlt : k < 9
    · gi_wp2_with fail
      refine (callsIn_wide.2 (lspins_any _ _ _ _ k _ HS.out.1)).mono ?_
      rintro e w4 ⟨v, rfl, v0, v1, l4, g4⟩
      have r4 := HS.out.2.1.grow g4 (fun h => by have := HS.out.2.1.lt; have h : wr.heap.size ≤ B := h; omega)
      have hz : w.heap.size ≤ wr.heap.size := HS.out.2.2.size
      have n4 : Newer w w4 := HS.out.2.2.trans (g4.mono (fun j hj => by have hj : wr.heap.size ≤ j := hj; show w.heap.size ≤ j; omega))
      have H4 := Lib.hid (And.intro l4 (And.intro r4 n4))
      by_cases ht : 0 ≤ k ∧ k < 8
      · rw [v0 ht, lockErr0_zero.2 ht]
        obtain ⟨t, rfl⟩ : ∃ t : Nat, k = (t : Int) := ⟨k.toNat, by omega⟩
        have ht8 : t < 8 := by omega
        have c1 := r4.cs t ht8
        clear v0 v1 l4 g4 r4 n4 hz
        simp only [Int.toNat_natCast]
        generalize sp t = x at *
        gi_wp2_with (first
          | (gi_at_call 59; refine (callsIn_wide.2 (thread_any _ _)).mono ?_; rintro e w' ⟨rfl, rfl⟩)
          | (gi_at_call 25; refine (callsIn_wide.2 (lnum_any _ _)).mono ?_; rintro e w' ⟨rfl, rfl⟩))
        go_roundw
        case rel => exact ⟨(t : Int) + 1, by go_num, by omega, by omega, H4.out⟩
        case measure => simp [intOf]; omega
      · rw [v1 ht, lockErr0_eq, if_pos (by omega)]
        have ht' : decide (0 ≤ k ∧ k < 8) = false := by simpa using ht
        clear v0 v1 l4 g4 r4 n4 hz ht
        gi_wp2_with (first
          | (gi_at_call 59; refine (callsIn_wide.2 (thread_any _ _)).mono ?_; rintro e w' ⟨rfl, rfl⟩)
          | (gi_at_call 25; refine (callsIn_wide.2 (lnum_any _ _)).mono ?_; rintro e w' ⟨rfl, rfl⟩))
        go_roundw
        case rel => exact ⟨k + 1, by go_num, by omega, by omega, H4.out⟩
        case measure => simp [intOf]; omega
    · gi_wp2_with fail
      refine (callsIn_wide.2 (holder_any _ _ _ _ _ HS.out.1)).mono ?_
      rintro e w4 ⟨rfl, g4⟩
      have r := HS.out.2.1.grow g4 (fun h => h)
      have n4 : Newer w w4 := HS.out.2.2.ofGrow g4
      have H4 := Lib.hid n4
      have c0 := r.c0
      have c1 := r.c1
      have c2 := r.c2
      have c3 := r.c3
      have c4 := r.c4
      have c5 := r.c5
      have c6 := r.c6
      have c7 := r.c7
      have c8 := r.c8
      clear r n4 g4
      gi_wp2_with fail
      have hw := whose_rc th h HV.out sp w4
      rw [HC.out] at hw
      unfold refV at hw
      refine (callsIn_wide.2 hw).mono ?_
      clear hw
      rintro e w5 ⟨rfl, g5⟩
      have n5 : Newer w w5 := H4.out.ofGrow g5
      have H5 := Lib.hid n5
      clear c0 c1 c2 c3 c4 c5 c6 c7 c8 g5 n5
      gi_wp2_with fail
      go_ret
      exact ⟨rfl, H5.out⟩

end Go.Proofs.Ytbfadogjkhoohaa
