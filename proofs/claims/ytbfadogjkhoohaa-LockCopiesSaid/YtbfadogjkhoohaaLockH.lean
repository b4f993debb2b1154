/- the walk of waterlinelaw16.LockHolds -/
import Derived.Test.YtbfadogjkhoohaaLockG
namespace Go.Proofs.Ytbfadogjkhoohaa
open Go.RowKit
attribute [local go_sem] Oper.semAt_some undef

/-- an argument: a slice of pairs of numbers -/
def PairsIn (w : World) (sa : Option Addr) (n : Nat) (F G : Nat → Int) : Prop :=
  ∀ i, i < n → ∃ A : Addr, sa = some A ∧ w.cell? (A.add (i * 2)) = some (.int .i64 (F i)) ∧ w.cell? ⟨(A.add (i * 2)).block, (A.add (i * 2)).off + 1, none⟩ = some (.int .i64 (G i))

theorem PairsIn.below {w w' : World} {sa : Option Addr} {n : Nat} {F G : Nat → Int} (h : PairsIn w sa n F G) (g : Below w.heap.size w w') : PairsIn w' sa n F G := by
  intro i hi
  obtain ⟨A, rfl, h1, h2⟩ := h i hi
  have l1 := World.block_lt_of_cell? _ _ h1
  have l2 := World.block_lt_of_cell? _ _ h2
  exact ⟨A, rfl, (World.cell?_of_block (g.block _ l1)).trans h1, (World.cell?_of_block (g.block _ l2)).trans h2⟩

set_option maxRecDepth 100000 in
set_option maxHeartbeats 3200000 in
theorem lockHolds_any (sa : Option Addr) (n cap : Nat) (F G : Nat → Int) (w : World) (hA : PairsIn w sa n F G) :
    Calls Try.prog 5 #[.slice sa n cap] w fun e w' => e = .returned (.bool true) ∧ Below w.heap.size w w' := by
  have HA := Lib.hid hA
  clear hA
  by_cases hn : 80 < n
  · refine (callsIn_wide (n := 0)).1 ?_
    gi_enter Try.func5, Try.ntmps5
    gi_wp2_with fail
    refine (callsIn_wide.2 (works16 _)).mono ?_
    rintro e w1 ⟨rfl, hb1⟩
    gi_wp2
    go_ret
    exact ⟨rfl, hb1⟩
  · obtain ⟨B, hB⟩ : ∃ B, w.heap.size = B := ⟨_, rfl⟩
    have hn' : n ≤ 80 := by omega
    clear hn
    refine (callsIn_wide (n := 0)).1 ?_
    gi_enter Try.func5, Try.ntmps5
    gi_wp2_with fail
    refine (callsIn_wide.2 (lnew_any _)).mono ?_
    rintro e w1 ⟨rfl, l, g⟩
    have s1 : LockSt w w1 B 0 false (fun _ => 0) := ⟨hB ▸ l, hB ▸ g.below (fun _ h => h.elim) (Nat.le_refl _)⟩
    have S1 := Lib.hid s1
    rw [hB]
    have HB := Lib.hid hB
    clear l g s1 hB
    gi_wp2_with fail
    gi_loopw [4] (fun i wr => ∃ (k : Nat) (th : Int) (h : Bool) (sp : Nat → Int), i = .int .i64 k ∧ k ≤ n ∧ LockSt w wr B th h sp)
      (fun i _ => n - (intOf i).toNat)
    case atStart => exact ⟨0, 0, false, _, rfl, Nat.zero_le _, S1.out⟩
    case round =>
      obtain ⟨k, th, h, sp, rfl, hk, hs⟩ := hrel
      have HS := Lib.hid hs
      clear hs
      by_cases hlt : k < n
      · have hA' := PairsIn.below HA.out (HB.out ▸ HS.out.g)
        obtain ⟨A, rfl, a0, a1⟩ := hA' k hlt
        clear hA'
        gi_wp2_with fail
        refine (callsIn_wide.2 (holder_any _ _ _ _ _ HS.out.at_)).mono ?_
        rintro e w2 ⟨rfl, g⟩
        have s2 : LockSt w w2 B th h sp := HS.out.step (HS.out.at_.grow g (fun h => h)) (g.mono fun _ h => h.elim)
        have S2 := Lib.hid s2
        have a0 : w2.cell? (A.add (k * 2)) = _ := (g.cell (World.block_lt_of_cell? _ _ a0) (fun h => h)).trans a0
        have a1 : w2.cell? ⟨(A.add (k * 2)).block, (A.add (k * 2)).off + 1, none⟩ = _ := (g.cell (World.block_lt_of_cell? _ _ a1) (fun h => h)).trans a1
        clear g s2 HS
        generalize F k = x at *
        generalize G k = y at *
        gi_wp2_with fail
        · clear a0 a1
          refine (callsIn_wide.2 (ltry_any _ _ _ _ _ _ S2.out.at_)).mono ?_
          rintro e w3 ⟨r, err, th', h', sp', rfl, hs, l, g⟩
          have s3 : LockSt w w3 B th' h' sp' := S2.out.step l g
          have S3 := Lib.hid s3
          clear l g s3 S2
          have HT := Lib.hid hs
          clear hs
          gi_wp2_with fail
          refine (callsIn_wide.2 (holder_any _ _ _ _ _ S3.out.at_)).mono ?_
          rintro e w4 ⟨rfl, g⟩
          have s4 : LockSt w w4 B th' h' sp' := S3.out.step (S3.out.at_.grow g (fun h => h)) (g.mono fun _ h => h.elim)
          have S4 := Lib.hid s4
          clear g s4 S3
          rcases HT.out with ⟨h0, he, rfl, rfl, rfl, rfl⟩ | ⟨rfl, ht, rfl, hne, rfl, rfl, rfl, rfl⟩ | ⟨rfl, ht, rfl, rfl, rfl, rfl, rfl⟩
          · clear HT
            have hc : h' = true ∨ (h' = false ∧ y < 0) ∨ (h' = false ∧ ¬ y < 8) := by
              cases h' with
              | true => exact .inl rfl
              | false =>
                by_cases hy : 0 ≤ y ∧ y < 8
                · rw [lockErr_ok hy] at he
                  exact absurd he (by simpa using h0)
                · by_cases hy' : y < 0
                  · exact .inr (.inl ⟨rfl, hy'⟩)
                  · exact .inr (.inr ⟨rfl, by omega⟩)
            clear he
            rcases hc with rfl | ⟨rfl, hy⟩ | ⟨rfl, hy⟩
            all_goals
              gi_wp2_with (first | (gi_at_call 25; refine (callsIn_wide.2 (lnum_any _ _)).mono ?_; rintro e w' ⟨rfl, rfl⟩))
              go_roundw
              case rel => exact ⟨k + 1, _, _, _, by go_num, by omega, S4.out⟩
              case measure => simp [intOf]; omega
          · clear HT
            obtain ⟨hy0, hy1⟩ := ht
            gi_wp2_with (first | (gi_at_call 25; refine (callsIn_wide.2 (lnum_any _ _)).mono ?_; rintro e w' ⟨rfl, rfl⟩))
            go_roundw
            case rel => exact ⟨k + 1, _, _, _, by go_num, by omega, S4.out⟩
            case measure => simp [intOf]; omega
          · clear HT
            obtain ⟨hy0, hy1⟩ := ht
            gi_wp2_with (first | (gi_at_call 25; refine (callsIn_wide.2 (lnum_any _ _)).mono ?_; rintro e w' ⟨rfl, rfl⟩))
            go_roundw
            case rel => exact ⟨k + 1, _, _, _, by go_num, by omega, S4.out⟩
            case measure => simp [intOf]; omega
        · clear a0 a1
          refine (callsIn_wide.2 (lfree_any _ _ _ _ _ _ S2.out.at_)).mono ?_
          rintro e w3 ⟨err, th', h', rfl, hs, l, g⟩
          have s3 : LockSt w w3 B th' h' sp := S2.out.step l g
          have S3 := Lib.hid s3
          clear l g s3 S2
          have HT := Lib.hid hs
          clear hs
          gi_wp2_with fail
          refine (callsIn_wide.2 (holder_any _ _ _ _ _ S3.out.at_)).mono ?_
          rintro e w4 ⟨rfl, g⟩
          have s4 : LockSt w w4 B th' h' sp := S3.out.step (S3.out.at_.grow g (fun h => h)) (g.mono fun _ h => h.elim)
          have S4 := Lib.hid s4
          clear g s4 S3
          rcases HT.out with ⟨h0, he, rfl, rfl⟩ | ⟨rfl, ht, rfl, rfl, rfl, rfl⟩
          · clear HT he
            gi_wp2_with (first | (gi_at_call 25; refine (callsIn_wide.2 (lnum_any _ _)).mono ?_; rintro e w' ⟨rfl, rfl⟩))
            go_roundw
            case rel => exact ⟨k + 1, _, _, _, by go_num, by omega, S4.out⟩
            case measure => simp [intOf]; omega
          · clear HT
            gi_wp2_with (first | (gi_at_call 25; refine (callsIn_wide.2 (lnum_any _ _)).mono ?_; rintro e w' ⟨rfl, rfl⟩))
            go_roundw
            case rel => exact ⟨k + 1, _, _, _, by go_num, by omega, S4.out⟩
            case measure => simp [intOf]; omega
        · clear a0 a1
          refine (callsIn_wide.2 (lbreak_any _ _ _ _ _ S2.out.at_)).mono ?_
          rintro e w3 ⟨rfl, l, g⟩
          have s3 : LockSt w w3 B 0 false (fun _ => 0) := S2.out.step l (g.mono fun _ h => .inl h)
          have S3 := Lib.hid s3
          clear l g s3 S2
          gi_wp2_with fail
          refine (callsIn_wide.2 (holder_any _ _ _ _ _ S3.out.at_)).mono ?_
          rintro e w4 ⟨rfl, g⟩
          have s4 : LockSt w w4 B 0 false (fun _ => 0) := S3.out.step (S3.out.at_.grow g (fun h => h)) (g.mono fun _ h => h.elim)
          have S4 := Lib.hid s4
          clear g s4 S3
          gi_wp2_with fail
          go_roundw
          case rel => exact ⟨k + 1, _, _, _, by go_num, by omega, S4.out⟩
          case measure => simp [intOf]; omega
        · exact ⟨⟨k + 1, _, _, _, by go_num, by omega, S2.out⟩, by simp [intOf]; omega⟩
      · obtain rfl : k = n := by omega
        gi_wp2_with fail
        refine (callsIn_wide.2 (works16 _)).mono ?_
        rintro e w2 ⟨rfl, hb2⟩
        gi_wp2
        go_ret
        refine ⟨rfl, ?_⟩
        rw [HB.out]
        exact HS.out.g.trans (hb2.mono (by have := HS.out.at_.lt; omega))

end Go.Proofs.Ytbfadogjkhoohaa
