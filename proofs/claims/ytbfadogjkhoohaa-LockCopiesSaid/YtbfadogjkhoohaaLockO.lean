/- contracts: waterlinelaw16.act: Copy; whatever the call -/
import Derived.Test.YtbfadogjkhoohaaLockM
import Derived.Test.YtbfadogjkhoohaaLockN
namespace Go.Proofs.Ytbfadogjkhoohaa
open Go.RowKit
attribute [local go_sem] Oper.semAt_some undef

set_option maxRecDepth 100000 in
set_option maxHeartbeats 1600000 in
theorem act_copy (b : Nat) (th : Int) (h : Bool) (sp : Nat → Int) (c : Int) (S : Nat → Int) (x t : Int) (n0 : x ≠ 0) (n1 : x ≠ 1) (n2 : x ≠ 2) (w : World) (hl : LockAt w b th h sp) :
    Calls Try.prog 30 #[.pointer (some ⟨b, 0, none⟩), refV c S, .agg #[.int .i64 x, .int .i64 t]] w fun e w' => ∃ b', e = .returned (.tuple #[.pointer (some ⟨b', 0, none⟩), refV c S, .bool true]) ∧ LockAt w' b' th h sp ∧ w.heap.size ≤ b' ∧ Grow (fun k => w.heap.size ≤ k) w w' := by
  have HL := Lib.hid hl
  have hb := hl.lt
  clear hl
  unfold refV
  refine (callsIn_wide (n := 0)).1 ?_
  gi_enter Try.func30, Try.ntmps30
  gi_wp2_with fail
  obtain ⟨w3, hw3⟩ : ∃ w3, ((w.alloc (.cells #[.int .i64 c, .int .i64 (S 0), .int .i64 (S 1), .int .i64 (S 2), .int .i64 (S 3), .int .i64 (S 4), .int .i64 (S 5), .int .i64 (S 6), .int .i64 (S 7)] 60)).alloc
    (.cells #[.int .i64 x, .int .i64 t] 45)).alloc (.cells #[.int .i64 0, .int .i64 0, .int .i64 0, .int .i64 0, .int .i64 0, .int .i64 0, .int .i64 0, .int .i64 0, .int .i64 0] 60) = w3 := ⟨_, rfl⟩
  obtain ⟨r1, x0, x1, r2, n3, z3⟩ := act_boxes w c S x t w3 hw3
  rw [hw3]
  clear hw3
  replace z3 : w.heap.size + 1 + 1 + 1 ≤ w3.heap.size := Nat.le_of_eq z3.symm
  obtain ⟨B, hB⟩ : ∃ B, w.heap.size = B := ⟨_, rfl⟩
  have HB := Lib.hid hB
  rw [hB] at r1 x0 x1 r2 z3 hb
  rw [hB]
  have HN := Lib.hid n3
  clear hB n3
  have HL3 := Lib.hid (newer_lock HL.out HN.out)
  have R1 := Lib.hid r1
  have R2 := Lib.hid r2
  have c0 := r1.c0
  have c1 := r1.c1
  have c2 := r1.c2
  have c3 := r1.c3
  have c4 := r1.c4
  have c5 := r1.c5
  have c6 := r1.c6
  have c7 := r1.c7
  have c8 := r1.c8
  clear r1 r2 x1
  have mixed := mixedL
  gi_wp2_with fail
  (first | gi_region_with_o (first | (gi_at_call 32; refine (callsIn_wide.2 (lcopy_ok _ _ _ _ _ (HL3.out.grow (Grow.drew (fun _ => False) _) (fun h => h)))).mono ?_; rintro e w4 ⟨rfl, l4, g4⟩; have r1 := (R1.out.grow (Grow.drew (fun _ => False) _) (fun h => h)).grow g4 (fun h => h); have r2 := (R2.out.grow (Grow.drew (fun _ => False) _) (fun h => h)).grow g4 (fun h => h); have d0 := r1.c0; have d1 := r1.c1; have d2 := r1.c2; have d3 := r1.c3; have d4 := r1.c4; have d5 := r1.c5; have d6 := r1.c6; have d7 := r1.c7; have d8 := r1.c8; have e0 := r2.c0; have e1 := r2.c1; have e2 := r2.c2; have e3 := r2.c3; have e4 := r2.c4; have e5 := r2.c5; have e6 := r2.c6; have e7 := r2.c7; have e8 := r2.c8; have ef := r2.f; have R4 := Lib.hid (And.intro r2 (And.intro l4 g4)); clear r1 r2 l4 g4)) | fail)
  all_goals gi_wp2
  all_goals go_simp
  all_goals
    have r3 := (R4.out.1.put c S)
    have l4 := R4.out.2.1
    have g4 := R4.out.2.2
    have gF := grow_refPut w4 (B + 1 + 1) c S
    have hw3 : B + 1 + 1 + 1 ≤ w3.heap.size := z3
    refine bodyPost_ret (results_tct rfl (ad := ⟨B + 1 + 1, 0, none⟩) rfl (load_ref r3)) rfl ⟨w3.heap.size, rfl, ?_, by rw [HB.out]; omega, ?_⟩
    · exact l4.grow gF (fun h => by have h : w3.heap.size = B + 1 + 1 := h; omega)
    · rw [HB.out]
      refine ((HN.out.mono ?_).trans (Grow.drew _ _)).trans ((g4.mono (fun _ h => h.elim)).trans (gF.mono ?_))
      · intro k hk
        have hk : w.heap.size ≤ k := hk
        rw [HB.out] at hk
        exact hk
      · intro k hk
        have hk : k = B + 1 + 1 := hk
        show B ≤ k
        omega

/-- whose it is, as the document writes it -/
def RC (th : Int) (h : Bool) : Int := if h then th + 1 else 0
/-- a lock that is held is a thread's; one that is not is thread 0's -/
def LV (th : Int) (h : Bool) : Prop := (h = true → 0 ≤ th ∧ th < 8) ∧ (h = false → th = 0)

theorem ltry_bad (b : Nat) (th : Int) (h : Bool) (sp : Nat → Int) (t : Int) (ht : ¬(0 ≤ t ∧ t < 8)) (w : World) (hl : LockAt w b th h sp) :
    Calls Try.prog 24 #[.pointer (some ⟨b, 0, none⟩), .int .i64 t] w fun e w' => e = .returned (.tuple #[.bool false, .int .i64 2]) ∧
      LockAt w' b th h sp ∧ Grow (fun k => k = b ∨ w.heap.size ≤ k) w w' := by
  have hp : t < 0 ∨ 8 ≤ t := by omega
  refine (ltry_any b th h sp t w hl).mono ?_
  rintro e w' ⟨r, err, th', h', sp', rfl, hs, hl', hg⟩
  rcases hs with ⟨h0, he, rfl, rfl, rfl, rfl⟩ | ⟨_, h1, _⟩ | ⟨_, h1, _⟩
  · unfold lockErr at he
    rw [if_neg (by simp), if_pos hp] at he
    subst he
    exact ⟨rfl, hl', hg⟩
  · exact absurd h1 ht
  · exact absurd h1 ht
theorem lfree_bad (b : Nat) (th : Int) (h : Bool) (sp : Nat → Int) (t : Int) (ht : ¬(0 ≤ t ∧ t < 8)) (w : World) (hl : LockAt w b th h sp) :
    Calls Try.prog 26 #[.pointer (some ⟨b, 0, none⟩), .int .i64 t] w fun e w' => e = .returned (.int .i64 2) ∧
      LockAt w' b th h sp ∧ Grow (fun k => k = b ∨ w.heap.size ≤ k) w w' := by
  have hp : t < 0 ∨ 8 ≤ t := by omega
  refine (lfree_any b th h sp t w hl).mono ?_
  rintro e w' ⟨err, th', h', rfl, hs, hl', hg⟩
  rcases hs with ⟨h0, he, rfl, rfl⟩ | ⟨_, h1, _⟩
  · unfold lockErr at he
    rw [if_neg (by simp), if_pos hp] at he
    subst he
    exact ⟨rfl, hl', hg⟩
  · exact absurd h1 ht

def ActPost (w : World) (b : Nat) (e : Ending) (w' : World) : Prop := ∃ b' th' h' sp', e = .returned (.tuple #[.pointer (some ⟨b', 0, none⟩), refV (RC th' h') sp', .bool true]) ∧ LockAt w' b' th' h' sp' ∧ LV th' h' ∧ (b' = b ∨ w.heap.size ≤ b') ∧
  Grow (fun k => k = b ∨ w.heap.size ≤ k) w w'

theorem act_any (b : Nat) (th : Int) (h : Bool) (sp : Nat → Int) (x t : Int) (w : World) (hl : LockAt w b th h sp) (hv : LV th h) :
    Calls Try.prog 30 #[.pointer (some ⟨b, 0, none⟩), refV (RC th h) sp, .agg #[.int .i64 x, .int .i64 t]] w (ActPost w b) := by
  by_cases h0 : x = 0
  · subst h0
    by_cases ht : 0 ≤ t ∧ t < 8
    · cases h with
      | true =>
        by_cases he : th = t
        · subst he
          refine (act_try b th th true true sp sp _ (th + 1) sp sp th false 260 w hl (fun W hW => ltry_own b sp th ht W hW) (fun W => refTry_own sp th ht W)).mono ?_
          rintro e w' ⟨rfl, l, g⟩
          exact ⟨b, th, true, sp, rfl, l, hv, .inl rfl, g⟩
        · refine (act_try b th th true true sp _ (th + 1) (th + 1) sp (upd sp t.toNat (IntKind.i64.wrap (sp t.toNat + 1))) t false 0 w hl (fun W hW => ltry_lose b th sp t ht he W hW)
            (fun W => by
              have := refTry_lose (th + 1) sp t ht (by omega) (by have := hv.1 rfl; omega) W
              rw [show wrap64 (sp t.toNat + 1) = IntKind.i64.wrap (sp t.toNat + 1) by rw [IntKind.wrap_i64]; unfold wrap64; rfl] at this
              exact this)).mono ?_
          rintro e w' ⟨rfl, l, g⟩
          exact ⟨b, th, true, _, rfl, l, hv, .inl rfl, g⟩
      | false =>
        refine (act_try b th t false true sp _ 0 (t + 1) sp (upd sp t.toNat 0) t true 0 w hl (fun W hW => ltry_win b th sp t ht W hW) (fun W => refTry_win sp t ht W)).mono ?_
        rintro e w' ⟨rfl, l, g⟩
        exact ⟨b, t, true, _, rfl, l, ⟨fun _ => ht, fun h => by cases h⟩, .inl rfl, g⟩
    · refine (act_try b th th h h sp sp _ (RC th h) sp sp t false 2 w hl (fun W hW => ltry_bad b th h sp t ht W hW) (fun W => refTry_bad _ sp t ht W)).mono ?_
      rintro e w' ⟨rfl, l, g⟩
      exact ⟨b, th, h, sp, rfl, l, hv, .inl rfl, g⟩
  · by_cases h1 : x = 1
    · subst h1
      by_cases ht : 0 ≤ t ∧ t < 8
      · by_cases he : h = true ∧ th = t
        · obtain ⟨rfl, rfl⟩ := he
          refine (act_free b th 0 true false sp sp (th + 1) 0 sp sp th 0 w hl (fun W hW => lfree_ok b sp th ht W hW) (fun W => refFree_ok sp th ht W)).mono ?_
          rintro e w' ⟨rfl, l, g⟩
          exact ⟨b, 0, false, sp, rfl, l, ⟨fun h => (by cases h), fun _ => rfl⟩, .inl rfl, g⟩
        · refine (act_free b th th h h sp sp (RC th h) (RC th h) sp sp t 261 w hl (fun W hW => lfree_no b th h sp t ht he W hW) (fun W => refFree_no _ sp t ht (by
            unfold RC
            cases h with
            | true => simp at he; simp; omega
            | false => simp; omega) W)).mono ?_
          rintro e w' ⟨rfl, l, g⟩
          exact ⟨b, th, h, sp, rfl, l, hv, .inl rfl, g⟩
      · refine (act_free b th th h h sp sp _ (RC th h) sp sp t 2 w hl (fun W hW => lfree_bad b th h sp t ht W hW) (fun W => refFree_bad _ sp t ht W)).mono ?_
        rintro e w' ⟨rfl, l, g⟩
        exact ⟨b, th, h, sp, rfl, l, hv, .inl rfl, g⟩
    · by_cases h2 : x = 2
      · subst h2
        refine (act_break b th h sp (RC th h) sp t w hl (fun W => by
          cases h with
          | true => exact whose_some th (hv.1 rfl) sp W
          | false => rw [hv.2 rfl]; exact whose_none sp W)).mono ?_
        rintro e w' ⟨rfl, l, g⟩
        exact ⟨b, 0, false, _, rfl, l, ⟨fun h => (by cases h), fun _ => rfl⟩, .inl rfl, g⟩
      · refine (act_copy b th h sp (RC th h) sp x t h0 h1 h2 w hl).mono ?_
        rintro e w' ⟨b', rfl, l, hb', g⟩
        exact ⟨b', th, h, sp, rfl, l, hv, .inr hb', g.mono (fun _ h => .inr h)⟩

end Go.Proofs.Ytbfadogjkhoohaa
