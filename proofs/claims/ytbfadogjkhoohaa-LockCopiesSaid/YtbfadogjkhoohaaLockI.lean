/- the walk of waterlinelaw16.LockTurns -/
import Derived.Test.YtbfadogjkhoohaaLockH
namespace Go.Proofs.Ytbfadogjkhoohaa
open Go.RowKit
attribute [local go_sem] Oper.semAt_some undef

/-- an argument: a slice of bytes -/
def BytesIn (w : World) (sa : Option Addr) (n : Nat) (F : Nat → Int) : Prop :=
  ∀ i, i < n → ∃ A : Addr, sa = some A ∧ w.cell? (A.add i) = some (.int .u8 (F i)) ∧ 0 ≤ F i ∧ F i ≤ 255

theorem BytesIn.below {w w' : World} {sa : Option Addr} {n : Nat} {F : Nat → Int} (h : BytesIn w sa n F) (g : Below w.heap.size w w') : BytesIn w' sa n F := by
  intro i hi
  obtain ⟨A, rfl, h1, h2⟩ := h i hi
  exact ⟨A, rfl, (World.cell?_of_block (g.block _ (World.block_lt_of_cell? _ _ h1))).trans h1, h2⟩

theorem wrap_id {v : Int} (h0 : -9223372036854775808 ≤ v) (h1 : v < 9223372036854775808) : IntKind.i64.wrap v = v := by
  simp [IntKind.wrap, IntKind.signed, IntKind.bits]
  split <;> omega

set_option maxRecDepth 100000 in
set_option maxHeartbeats 3200000 in
theorem lockTurns_any (sa sb : Option Addr) (n m capa capb : Nat) (F G : Nat → Int) (w : World) (hA : BytesIn w sa n F) (hB : BytesIn w sb m G) :
    Calls Try.prog 6 #[.slice sa n capa, .slice sb m capb] w fun e w' => e = .returned (.bool true) ∧ Below w.heap.size w w' := by
  have HA := Lib.hid hA
  have HC := Lib.hid hB
  clear hA hB
  by_cases hn : ¬ (n ≤ 20 ∧ m ≤ 20)
  · have hn' : 20 < n ∨ (n ≤ 20 ∧ 20 < m) := by omega
    clear hn
    rcases hn' with h | ⟨h, h'⟩
    all_goals
      refine (callsIn_wide (n := 0)).1 ?_
      gi_enter Try.func6, Try.ntmps6
      gi_wp2_with fail
      refine (callsIn_wide.2 (works16 _)).mono ?_
      rintro e w1 ⟨rfl, hb1⟩
      gi_wp2
      go_ret
      exact ⟨rfl, hb1⟩
  · obtain ⟨B, hB⟩ : ∃ B, w.heap.size = B := ⟨_, rfl⟩
    obtain ⟨hn', hm'⟩ : n ≤ 20 ∧ m ≤ 20 := by omega
    clear hn
    refine (callsIn_wide (n := 0)).1 ?_
    gi_enter Try.func6, Try.ntmps6
    gi_wp2_with fail
    refine (callsIn_wide.2 (lnew_any _)).mono ?_
    rintro e w1 ⟨rfl, l, g⟩
    have s1 : LockSt w w1 B 0 false (fun _ => 0) := ⟨hB ▸ l, hB ▸ g.below (fun _ h => h.elim) (Nat.le_refl _)⟩
    have S1 := Lib.hid s1
    rw [hB]
    have HB := Lib.hid hB
    clear l g s1 hB
    gi_wp2_with fail
    gi_loopw [6] (fun i wr => ∃ (k : Nat) (sp : Nat → Int), i = .int .i64 k ∧ k ≤ n ∧ LockSt w wr B 0 false sp ∧ ∀ j, 0 ≤ sp j ∧ sp j ≤ 8 * k)
      (fun i _ => n - (intOf i).toNat)
    case atStart => exact ⟨0, _, rfl, Nat.zero_le _, S1.out, fun _ => ⟨Int.le_refl _, by omega⟩⟩
    case round =>
      obtain ⟨k, sp, rfl, hk, hs, hsp⟩ := hrel
      have HS := Lib.hid hs
      have HSP := Lib.hid hsp
      clear hs hsp
      by_cases hlt : k < n
      · have hA' := BytesIn.below HA.out (HB.out ▸ HS.out.g)
        obtain ⟨A, rfl, a0, x0, x1⟩ := hA' k hlt
        clear hA'
        have mixed := mixedL
        generalize F k = x at *
        gi_wp2_with fail
        gi_region_with_o (fail)
        all_goals
          gi_wp2_with fail
          have hq : (wrap64 ((x + 1) % 256)).tmod 8 = (x + 1) % 8 := by
            rw [show wrap64 ((x + 1) % 256) = (x + 1) % 256 by unfold wrap64; omega, Int.tmod_eq_emod_of_nonneg (by omega)]
            omega
          obtain ⟨p, hp0, hp8, hpe⟩ : ∃ p : Int, 0 ≤ p ∧ p < 8 ∧ x % 8 = p := ⟨_, by omega, by omega, rfl⟩
          obtain ⟨q, hq0, hq8, hqe⟩ : ∃ q : Int, 0 ≤ q ∧ q < 8 ∧ (x + 1) % 8 = q := ⟨_, by omega, by omega, rfl⟩
          have hpq : p ≠ q := by omega
          rw [hq, hqe, hpe]
          clear hq hqe hpe a0 mixed
          have s1 : LockSt w wr.drew B 0 false sp := HS.out.step (HS.out.at_.grow (Grow.drew (fun _ => False) _) (fun h => h)) (Grow.drew _ _)
          have S1 := Lib.hid s1
          clear s1
          refine (callsIn_wide.2 (ltry_win _ _ _ _ ⟨hp0, hp8⟩ _ S1.out.at_)).mono ?_
          rintro e w2 ⟨rfl, l, g⟩
          have s2 : LockSt w w2 B p true (upd sp p.toNat 0) := S1.out.step l g
          have hsp2 : ∀ j, 0 ≤ upd sp p.toNat 0 j ∧ upd sp p.toNat 0 j ≤ 8 * k := fun j => by
            unfold upd
            split
            · omega
            · exact HSP.out j
          clear l g S1 HS HSP
          generalize upd sp p.toNat 0 = sp1 at *
          have S2 := Lib.hid s2
          have HSP := Lib.hid hsp2
          clear s2 hsp2
          gi_wp2_with (first | (gi_at_call 25; refine (callsIn_wide.2 (lnum_any _ _)).mono ?_; rintro e w' ⟨rfl, rfl⟩))
          refine (callsIn_wide.2 (lspins_ok _ _ _ _ _ ⟨hq0, hq8⟩ _ S2.out.at_)).mono ?_
          rintro e w3 ⟨rfl, l, g⟩
          have s3 : LockSt w w3 B p true sp1 := S2.out.step l g
          have S3 := Lib.hid s3
          clear l g s3 S2
          obtain ⟨v0, hv0, hv1, hve⟩ : ∃ v0, 0 ≤ v0 ∧ v0 ≤ 8 * (k : Int) ∧ sp1 q.toNat = v0 := ⟨_, (HSP.out _).1, (HSP.out _).2, rfl⟩
          have HV := Lib.hid hve
          rw [hve]
          clear hve
          gi_wp2_with fail
          gi_loopw [13] (fun i wr => ∃ (j : Nat) (sp2 : Nat → Int), i = .int .i64 j ∧ j ≤ 6 ∧ LockSt w wr B p true sp2 ∧ sp2 q.toNat = v0 + j ∧ ∀ i, 0 ≤ sp2 i ∧ sp2 i ≤ 8 * k + j)
            (fun i _ => 6 - (intOf i).toNat)
          case atStart => exact ⟨0, _, rfl, Nat.zero_le _, S3.out, by rw [HV.out]; simp, fun i => by have := HSP.out i; omega⟩
          case round =>
            obtain ⟨j, sp2, rfl, hj, hs, hspq, hsp⟩ := hrel
            have HS := Lib.hid hs
            have HSPQ := Lib.hid hspq
            have HSP2 := Lib.hid hsp
            clear hs hspq hsp
            by_cases hkm : k < m
            · have hC' := BytesIn.below HC.out (HB.out ▸ HS.out.g)
              obtain ⟨C, rfl, c0, y0, y1⟩ := hC' k hkm
              clear hC'
              generalize G k = y at *
              by_cases hjy : (j : Int) < y % 6
              · gi_wp2_with fail
                refine (callsIn_wide.2 (ltry_lose _ _ _ _ ⟨hq0, hq8⟩ hpq _ HS.out.at_)).mono ?_
                rintro e w4 ⟨rfl, l, g⟩
                have hw : IntKind.i64.wrap (sp2 q.toNat + 1) = v0 + (j + 1 : Nat) := by rw [HSPQ.out, wrap_id (by omega) (by omega)]; omega
                rw [hw] at l
                have s4 := HS.out.step l g
                have S4 := Lib.hid s4
                clear l g s4 HS hw
                gi_wp2_with (first | (gi_at_call 25; refine (callsIn_wide.2 (lnum_any _ _)).mono ?_; rintro e w' ⟨rfl, rfl⟩))
                go_roundw
                case rel =>
                  refine ⟨j + 1, _, by go_num, by omega, S4.out, by simp [upd], fun i => ?_⟩
                  unfold upd
                  split
                  · omega
                  · have := HSP2.out i; omega
                case measure => simp [intOf]; omega
              · gi_wp2_with fail
                refine (callsIn_wide.2 (lspins_ok _ _ _ _ _ ⟨hq0, hq8⟩ _ HS.out.at_)).mono ?_
                rintro e w5 ⟨rfl, l, g⟩
                rw [HSPQ.out]
                have s5 : LockSt w w5 B p true sp2 := HS.out.step l g
                have S5 := Lib.hid s5
                clear l g s5 HS
                gi_wp2_with (first
                  | (gi_at_call 25; refine (callsIn_wide.2 (lnum_any _ _)).mono ?_; rintro e w' ⟨rfl, rfl⟩)
                  | (gi_at_call 26; refine (callsIn_wide.2 (lfree_ok _ _ _ ⟨hp0, hp8⟩ _ S5.out.at_)).mono ?_; rintro e w6 ⟨rfl, l, g⟩; have s6 := S5.out.step l g; have S6 := Lib.hid s6; clear l g s6))
                go_roundw
                case rel => exact ⟨k + 1, _, by go_num, by omega, S6.out, fun i => by have := HSP2.out i; omega⟩
                case measure => simp [intOf]; omega
            · gi_wp2_with fail
              refine (callsIn_wide.2 (lspins_ok _ _ _ _ _ ⟨hq0, hq8⟩ _ HS.out.at_)).mono ?_
              rintro e w5 ⟨rfl, l, g⟩
              rw [HSPQ.out]
              have s5 : LockSt w w5 B p true sp2 := HS.out.step l g
              have S5 := Lib.hid s5
              clear l g s5 HS
              gi_wp2_with (first
                | (gi_at_call 25; refine (callsIn_wide.2 (lnum_any _ _)).mono ?_; rintro e w' ⟨rfl, rfl⟩)
                | (gi_at_call 26; refine (callsIn_wide.2 (lfree_ok _ _ _ ⟨hp0, hp8⟩ _ S5.out.at_)).mono ?_; rintro e w6 ⟨rfl, l, g⟩; have s6 := S5.out.step l g; have S6 := Lib.hid s6; clear l g s6))
              go_roundw
              case rel => exact ⟨k + 1, _, by go_num, by omega, S6.out, fun i => by have := HSP2.out i; omega⟩
              case measure => simp [intOf]; omega
      · obtain rfl : k = n := by omega
        gi_wp2_with fail
        refine (callsIn_wide.2 (works16 _)).mono ?_
        rintro e w2 ⟨rfl, hb2⟩
        gi_wp2
        go_ret
        refine ⟨rfl, ?_⟩
        rw [HB.out]
        exact HS.out.g.trans (hb2.mono (by have := HS.out.at_.lt; omega))

end Go.Proofs.Ytbfadogjkhoohaa
