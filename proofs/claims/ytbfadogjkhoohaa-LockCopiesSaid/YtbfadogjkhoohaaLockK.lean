/- contracts: lock.Copy, lock.Same -/
import Derived.Test.YtbfadogjkhoohaaEq
namespace Go.Proofs.Ytbfadogjkhoohaa
open Go.RowKit
attribute [local go_sem] Oper.semAt_some undef

/-- no lock: nil, or one of all zeros -/
def LOff (w : World) (p : Option Addr) : Prop := p = none ∨ ∃ b : Nat, p = some ⟨b, 0, none⟩ ∧ w.cell? ⟨b, 10, none⟩ = some (.bool false)

theorem lnone_off (p : Option Addr) (w : World) (h : LOff w p) : Calls Try.prog 46 #[.pointer p] w fun e w' => e = .returned (.bool true) ∧ w = w' := by
  rcases h with rfl | ⟨b, rfl, h⟩
  · exact lnone_nil w
  · exact lnone_at b false w h

def LIs (w : World) (p : Option Addr) (isn : Bool) : Prop := (isn = true ∧ LOff w p) ∨ (isn = false ∧ ∃ b : Nat, p = some ⟨b, 0, none⟩ ∧ w.cell? ⟨b, 10, none⟩ = some (.bool true))
theorem lnone_is (p : Option Addr) (isn : Bool) (w : World) (h : LIs w p isn) : Calls Try.prog 46 #[.pointer p] w fun e w' => e = .returned (.bool isn) ∧ w = w' := by
  rcases h with ⟨rfl, h⟩ | ⟨rfl, b, rfl, h⟩
  · exact lnone_off p w h
  · exact lnone_at b true w h
theorem LIs.at_ {w : World} {b : Nat} (h : w.cell? ⟨b, 10, none⟩ = some (.bool true)) : LIs w (some ⟨b, 0, none⟩) false := .inr ⟨rfl, b, rfl, h⟩

theorem lcopy_off (p : Option Addr) (w : World) (h : LOff w p) : Calls Try.prog 32 #[.pointer p] w fun e w' => e = .returned (.pointer none) ∧ w = w' := by
  refine (callsIn_wide (n := 0)).1 ?_
  gi_enter Try.func32, Try.ntmps32
  gi_wp2_with (first | (gi_at_call 46; refine (callsIn_wide.2 (lnone_off _ _ h)).mono ?_; rintro e w' ⟨rfl, rfl⟩))
  go_ret
  exact ⟨rfl, rfl⟩

theorem lcopy_ok (b : Nat) (th : Int) (h : Bool) (sp : Nat → Int) (w : World) (hl : LockAt w b th h sp) :
    Calls Try.prog 32 #[.pointer (some ⟨b, 0, none⟩)] w fun e w' => e = .returned (.pointer (some ⟨w.heap.size, 0, none⟩)) ∧ LockAt w' w.heap.size th h sp ∧ Grow (fun _ => False) w w' := by
  have b0 := hl.c0
  have b1 := hl.c1
  have b2 := hl.cs 0 (by omega)
  have b3 := hl.cs 1 (by omega)
  have b4 := hl.cs 2 (by omega)
  have b5 := hl.cs 3 (by omega)
  have b6 := hl.cs 4 (by omega)
  have b7 := hl.cs 5 (by omega)
  have b8 := hl.cs 6 (by omega)
  have b9 := hl.cs 7 (by omega)
  have b10 := hl.c10
  simp only [Nat.reduceAdd, Nat.add_zero] at b2 b3 b4 b5 b6 b7 b8 b9
  clear hl
  refine (callsIn_wide (n := 0)).1 ?_
  gi_enter Try.func32, Try.ntmps32
  gi_wp2_with (first | (gi_at_call 46; refine (callsIn_wide.2 (lnone_at _ _ _ b10)).mono ?_; rintro e w' ⟨rfl, rfl⟩))
  go_ret
  refine ⟨rfl, ⟨?_, ?_, ?_, ?_, ?_⟩, Grow.alloc _ _ _⟩
  · simp [go_sem]
  · simp [go_sem]
  · intro k hk
    match k, hk with
    | 0, _ => simp [go_sem]
    | 1, _ => simp [go_sem]
    | 2, _ => simp [go_sem]
    | 3, _ => simp [go_sem]
    | 4, _ => simp [go_sem]
    | 5, _ => simp [go_sem]
    | 6, _ => simp [go_sem]
    | 7, _ => simp [go_sem]
  · simp [go_sem]
  · intro k; simp [go_sem]

theorem lsame_offs (p q : Option Addr) (w : World) (h : LOff w p) (h' : LOff w q) : Calls Try.prog 33 #[.pointer p, .pointer q] w fun e w' => e = .returned (.bool true) ∧ w = w' := by
  have i1 : LIs w p true := .inl ⟨rfl, h⟩
  have i2 : LIs w q true := .inl ⟨rfl, h'⟩
  clear h h'
  refine (callsIn_wide (n := 0)).1 ?_
  gi_enter Try.func33, Try.ntmps33
  gi_wp2_with (first | (gi_at_call 46; refine (callsIn_wide.2 (lnone_is _ _ _ (by assumption))).mono ?_; rintro e w' ⟨rfl, rfl⟩))
  go_ret
  exact ⟨rfl, rfl⟩

theorem lsame_off_at (p : Option Addr) (b : Nat) (w : World) (h : LOff w p) (h' : w.cell? ⟨b, 10, none⟩ = some (.bool true)) : Calls Try.prog 33 #[.pointer p, .pointer (some ⟨b, 0, none⟩)] w fun e w' => e = .returned (.bool false) ∧ w = w' := by
  have i1 : LIs w p true := .inl ⟨rfl, h⟩
  have i2 := LIs.at_ h'
  clear h h'
  refine (callsIn_wide (n := 0)).1 ?_
  gi_enter Try.func33, Try.ntmps33
  gi_wp2_with (first | (gi_at_call 46; refine (callsIn_wide.2 (lnone_is _ _ _ (by assumption))).mono ?_; rintro e w' ⟨rfl, rfl⟩))
  go_ret
  exact ⟨rfl, rfl⟩

theorem lsame_at_off (p : Option Addr) (b : Nat) (w : World) (h : LOff w p) (h' : w.cell? ⟨b, 10, none⟩ = some (.bool true)) : Calls Try.prog 33 #[.pointer (some ⟨b, 0, none⟩), .pointer p] w fun e w' => e = .returned (.bool false) ∧ w = w' := by
  have i1 : LIs w p true := .inl ⟨rfl, h⟩
  have i2 := LIs.at_ h'
  clear h h'
  refine (callsIn_wide (n := 0)).1 ?_
  gi_enter Try.func33, Try.ntmps33
  gi_wp2_with (first | (gi_at_call 46; refine (callsIn_wide.2 (lnone_is _ _ _ (by assumption))).mono ?_; rintro e w' ⟨rfl, rfl⟩))
  go_ret
  exact ⟨rfl, rfl⟩

set_option maxHeartbeats 1600000 in
theorem lsame_ok (b c : Nat) (th th' : Int) (h h' : Bool) (sp sp' : Nat → Int) (w : World) (hl : LockAt w b th h sp) (hl' : LockAt w c th' h' sp') :
    Calls Try.prog 33 #[.pointer (some ⟨b, 0, none⟩), .pointer (some ⟨c, 0, none⟩)] w fun e w' => ∃ v, e = .returned (.bool v) ∧ (v = true ↔ th = th' ∧ h = h' ∧ ∀ k, k < 8 → sp k = sp' k) ∧ Grow (fun _ => False) w w' := by
  have b0 := hl.c0
  have b1 := hl.c1
  have b2 := hl.cs 0 (by omega)
  have b3 := hl.cs 1 (by omega)
  have b4 := hl.cs 2 (by omega)
  have b5 := hl.cs 3 (by omega)
  have b6 := hl.cs 4 (by omega)
  have b7 := hl.cs 5 (by omega)
  have b8 := hl.cs 6 (by omega)
  have b9 := hl.cs 7 (by omega)
  have b10 := hl.c10
  have c0 := hl'.c0
  have c1 := hl'.c1
  have c2 := hl'.cs 0 (by omega)
  have c3 := hl'.cs 1 (by omega)
  have c4 := hl'.cs 2 (by omega)
  have c5 := hl'.cs 3 (by omega)
  have c6 := hl'.cs 4 (by omega)
  have c7 := hl'.cs 5 (by omega)
  have c8 := hl'.cs 6 (by omega)
  have c9 := hl'.cs 7 (by omega)
  have c10 := hl'.c10
  simp only [Nat.reduceAdd, Nat.add_zero] at b2 b3 b4 b5 b6 b7 b8 b9 c2 c3 c4 c5 c6 c7 c8 c9
  have i1 := LIs.at_ b10
  have i2 := LIs.at_ c10
  have e66 := fun w => run_eql66 sp sp' w
  have e65 := fun w => run_eql65 th th' h h' w
  have g66 := run_guard66
  have g65 := run_guard65
  unfold row8 at e66
  clear hl hl'
  have mixed := mixedL
  obtain ⟨v65, h65⟩ : ∃ v65, v65 = (th == th' && h == h') := ⟨_, rfl⟩
  obtain ⟨v66, h66⟩ : ∃ v66, v66 = all8 sp sp' := ⟨_, rfl⟩
  rw [← h65] at e65
  rw [← h66] at e66
  have hfin : (v65 && v66) = true ↔ th = th' ∧ h = h' ∧ ∀ k, k < 8 → sp k = sp' k := by
    rw [h65, h66, Bool.and_eq_true, Bool.and_eq_true, all8_iff, beq_iff_eq, beq_iff_eq, and_assoc]
  have HF := Lib.hid hfin
  clear h65 h66 hfin
  cases v65
  all_goals
    go_enter Try.func33, Try.ntmps33
    go_wp2_with (first | (go_at_call 46; refine (lnone_is _ _ _ (by assumption)).mono ?_; rintro e w' ⟨rfl, rfl⟩))
    (first | go_quiet (fail) | fail)
    all_goals
      go_wp2
      go_ret
      exact ⟨_, rfl, HF.out, grow_drewN _ _ _⟩

end Go.Proofs.Ytbfadogjkhoohaa
