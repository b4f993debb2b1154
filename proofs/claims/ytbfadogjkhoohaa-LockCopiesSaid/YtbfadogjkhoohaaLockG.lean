/- the chapter's rows of layer 16 -/
import Derived.Test.YtbfadogjkhoohaaLockF
namespace Go.Proofs.Ytbfadogjkhoohaa
open Go.RowKit
attribute [local go_sem] Oper.semAt_some

/-- the lock after a step, and nothing turned below it -/
structure LockSt (w0 : World) (w : World) (b : Nat) (th : Int) (h : Bool) (sp : Nat → Int) : Prop where
  at_ : LockAt w b th h sp
  g : Below b w0 w
theorem LockSt.step {w0 w w' : World} {b : Nat} {th th' : Int} {h h' : Bool} {sp sp' : Nat → Int} (s : LockSt w0 w b th h sp) (l : LockAt w' b th' h' sp') (g : Grow (fun k => k = b ∨ w.heap.size ≤ k) w w') : LockSt w0 w' b th' h' sp' :=
  ⟨l, s.g.trans (g.below (fun k hk => by have := s.at_.lt; rcases hk with hk | hk <;> omega) (by have := s.at_.lt; omega))⟩

set_option maxRecDepth 100000 in
set_option maxHeartbeats 1600000 in
theorem works16 (w : World) : Calls Try.prog 21 #[] w fun e w' => e = .returned (.bool true) ∧ Below w.heap.size w w' := by
  refine (callsIn_wide (n := 0)).1 ?_
  gi_enter Try.func21, Try.ntmps21
  obtain ⟨b, hb⟩ : ∃ b, w.heap.size = b := ⟨_, rfl⟩
  gi_wp2_with fail
  refine (callsIn_wide.2 (lnew_any _)).mono ?_; rintro e w1 ⟨rfl, l, g⟩
  rw [hb] at l ⊢
  have s1 : LockSt w w1 b 0 false (fun _ => 0) := ⟨l, g.below (fun _ h => h.elim) (by omega)⟩
  have S1 := Lib.hid s1
  have HB := Lib.hid hb
  clear l g s1 hb
  gi_wp2_with fail
  refine (callsIn_wide.2 (ltry_win _ _ _ 1 (by omega) _ S1.out.at_)).mono ?_; rintro e w2 ⟨rfl, l, g⟩
  have s : LockSt w w2 b 1 true (upd (fun _ => 0) 1 0) := S1.out.step l g
  have S2 := Lib.hid s
  clear l g s S1
  gi_wp2_with fail
  refine (callsIn_wide.2 (ltry_lose _ _ _ 2 (by omega) (by omega) _ S2.out.at_)).mono ?_; rintro e w3 ⟨rfl, l, g⟩
  have s : LockSt w w3 b 1 true (upd (upd (fun _ => 0) 1 0) 2 1) := S2.out.step l g
  have S3 := Lib.hid s
  clear l g s S2
  gi_wp2_with fail
  refine (callsIn_wide.2 (ltry_lose _ _ _ 2 (by omega) (by omega) _ S3.out.at_)).mono ?_; rintro e w4 ⟨rfl, l, g⟩
  have s : LockSt w w4 b 1 true (upd (upd (upd (fun _ => 0) 1 0) 2 1) 2 2) := S3.out.step l g
  have S4 := Lib.hid s
  clear l g s S3
  gi_wp2_with fail
  refine (callsIn_wide.2 (lspins_ok _ _ _ _ 2 (by omega) _ S4.out.at_)).mono ?_; rintro e w5 ⟨rfl, l, g⟩
  have s : LockSt w w5 b 1 true (upd (upd (upd (fun _ => 0) 1 0) 2 1) 2 2) := S4.out.step l g
  have S5 := Lib.hid s
  clear l g s S4
  gi_wp2_with fail
  refine (callsIn_wide.2 (ltry_own _ _ 1 (by omega) _ S5.out.at_)).mono ?_; rintro e w6 ⟨rfl, l, g⟩
  have s : LockSt w w6 b 1 true (upd (upd (upd (fun _ => 0) 1 0) 2 1) 2 2) := S5.out.step l g
  have S6 := Lib.hid s
  clear l g s S5
  gi_wp2_with fail
  refine (callsIn_wide.2 (lfree_no _ _ _ _ 2 (by omega) (by simp) _ S6.out.at_)).mono ?_; rintro e w7 ⟨rfl, l, g⟩
  have s : LockSt w w7 b 1 true (upd (upd (upd (fun _ => 0) 1 0) 2 1) 2 2) := S6.out.step l g
  have S7 := Lib.hid s
  clear l g s S6
  gi_wp2_with fail
  refine (callsIn_wide.2 (lfree_ok _ _ 1 (by omega) _ S7.out.at_)).mono ?_; rintro e w8 ⟨rfl, l, g⟩
  have s : LockSt w w8 b 0 false (upd (upd (upd (fun _ => 0) 1 0) 2 1) 2 2) := S7.out.step l g
  have S8 := Lib.hid s
  clear l g s S7
  gi_wp2_with fail
  refine (callsIn_wide.2 (ltry_win _ _ _ 2 (by omega) _ S8.out.at_)).mono ?_; rintro e w9 ⟨rfl, l, g⟩
  have s : LockSt w w9 b 2 true (upd (upd (upd (upd (fun _ => 0) 1 0) 2 1) 2 2) 2 0) := S8.out.step l g
  have S9 := Lib.hid s
  clear l g s S8
  gi_wp2_with fail
  refine (callsIn_wide.2 (lspins_ok _ _ _ _ 2 (by omega) _ S9.out.at_)).mono ?_; rintro e w10 ⟨rfl, l, g⟩
  have s : LockSt w w10 b 2 true (upd (upd (upd (upd (fun _ => 0) 1 0) 2 1) 2 2) 2 0) := S9.out.step l g
  have S10 := Lib.hid s
  clear l g s S9
  gi_wp2_with fail
  refine (callsIn_wide.2 (lbreak_any _ _ _ _ _ S10.out.at_)).mono ?_; rintro e w11 ⟨rfl, l, g⟩
  have s : LockSt w w11 b 0 false (fun _ => 0) := S10.out.step l (g.mono fun _ h => .inl h)
  have S11 := Lib.hid s
  clear l g s S10
  gi_wp2_with fail
  refine (callsIn_wide.2 (holder_any _ _ _ _ _ S11.out.at_)).mono ?_; rintro e w12 ⟨rfl, g⟩
  have s : LockSt w w12 b 0 false (fun _ => 0) := S11.out.step (S11.out.at_.grow g (fun h => h)) (g.mono fun _ h => h.elim)
  have S12 := Lib.hid s
  clear g s S11
  gi_wp2_with (first | (gi_at_call 25; refine (callsIn_wide.2 (lnum_any _ _)).mono ?_; rintro e w' ⟨rfl, rfl⟩))
  go_ret
  exact ⟨rfl, by rw [HB.out]; exact S12.out.g⟩

end Go.Proofs.Ytbfadogjkhoohaa
