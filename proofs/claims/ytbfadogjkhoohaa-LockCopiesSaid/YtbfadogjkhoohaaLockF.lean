/- contracts of package lock: Break; small functions of the law; the chapter's rows -/
import Derived.Test.YtbfadogjkhoohaaLockE
namespace Go.Proofs.Ytbfadogjkhoohaa
open Go.RowKit
attribute [local go_sem] Oper.semAt_some

theorem lnum_any (v : Int) (w : World) : Calls Try.prog 25 #[.int .i64 v] w fun e w' => e = .returned (.int .i64 v) ∧ w' = w := by
  go_enter Try.func25, Try.ntmps25
  go_wp2
  go_ret
  exact ⟨rfl, rfl⟩

theorem LockAt.set10 {w : World} {b : Nat} {th : Int} {h : Bool} {sp : Nat → Int} (hl : LockAt w b th h sp) : LockAt (w.setCell ⟨b, 10, none⟩ (.bool true)) b th h sp :=
  ⟨(cs_other (by simp)).trans hl.c0, (cs_other (by simp)).trans hl.c1, fun k hk => (cs_other (by simp <;> omega)).trans (hl.cs k hk), cs_same hl.c10, fun k => (World.frozen?_setCell _ _ _ _).trans (hl.f k)⟩
theorem LockAt.congr {w : World} {b : Nat} {th : Int} {h : Bool} {sp sp' : Nat → Int} (hl : LockAt w b th h sp) (e : ∀ k, k < 8 → sp k = sp' k) : LockAt w b th h sp' :=
  ⟨hl.c0, hl.c1, fun k hk => by rw [← e k hk]; exact hl.cs k hk, hl.c10, hl.f⟩

theorem thread_any (t : Int) (w : World) : Calls Try.prog 59 #[.int .i64 t] w fun e w' => e = .returned (.bool (decide (0 ≤ t ∧ t < 8))) ∧ w' = w := by
  go_enter Try.func59, Try.ntmps59
  by_cases h : 0 ≤ t
  · by_cases h' : t < 8
    · go_wp2
      go_ret
      simp [h']
      omega
    · go_wp2
      go_ret
      simp [h']
  · go_wp2
    go_ret
    simp
    omega

theorem lbreak_any (b : Nat) (th : Int) (h : Bool) (sp : Nat → Int) (w : World) (hl : LockAt w b th h sp) :
    Calls Try.prog 27 #[.pointer (some ⟨b, 0, none⟩)] w fun e w' => e = .returned (.tuple #[.int .i64 th, .bool h]) ∧ LockAt w' b 0 false (fun _ => 0) ∧ Grow (fun k => k = b) w w' := by
  have HL := Lib.hid hl
  have hb := hl.lt
  clear hl
  refine (callsIn_wide (n := 0)).1 ?_
  gi_enter Try.func27, Try.ntmps27
  gi_wp2_with fail
  refine (callsIn_wide.2 (holder_any b th h sp _ HL.out)).mono ?_
  rintro e w1 ⟨rfl, g1⟩
  have l1 := HL.out.grow g1 (fun h => h)
  have L1 := Lib.hid (And.intro l1 g1)
  clear g1 HL
  gi_wp2_with fail
  refine (callsIn_wide.2 (lnone_at _ _ _ l1.c10)).mono ?_
  rintro e w' ⟨rfl, rfl⟩
  clear l1
  gi_wp2_with fail
  refine (callsIn_wide.2 (lnew_any _)).mono ?_
  rintro e w2 ⟨rfl, n2, g2⟩
  have l2 := L1.out.1.grow g2 (fun h => h)
  have G := Lib.hid ((L1.out.2.trans g2).mono (own' := fun k => k = b) (fun _ h => h.elim))
  have L2 := Lib.hid l2
  have b0 := l2.c0
  have b1 := l2.c1
  have b2 := l2.cs 0 (by omega)
  have b3 := l2.cs 1 (by omega)
  have b4 := l2.cs 2 (by omega)
  have b5 := l2.cs 3 (by omega)
  have b6 := l2.cs 4 (by omega)
  have b7 := l2.cs 5 (by omega)
  have b8 := l2.cs 6 (by omega)
  have b9 := l2.cs 7 (by omega)
  have b10 := l2.c10
  have bf := l2.f
  have n0 := n2.c0
  have n1 := n2.c1
  have n2' := n2.cs 0 (by omega)
  have n3 := n2.cs 1 (by omega)
  have n4 := n2.cs 2 (by omega)
  have n5 := n2.cs 3 (by omega)
  have n6 := n2.cs 4 (by omega)
  have n7 := n2.cs 5 (by omega)
  have n8 := n2.cs 6 (by omega)
  have n9 := n2.cs 7 (by omega)
  have n10 := n2.c10
  have nf := n2.f
  simp only [Nat.reduceAdd, Nat.add_zero] at b2 b3 b4 b5 b6 b7 b8 b9 n2' n3 n4 n5 n6 n7 n8 n9
  clear l2 n2 g2
  gi_wp2
  go_ret2
  clear bf n0 n1 n2' n3 n4 n5 n6 n7 n8 n9 n10 nf b0 b1 b2 b3 b4 b5 b6 b7 b8 b9 b10
  refine ⟨rfl, ?_, ?_⟩
  · have := (((((((((((L2.out.set0 0).set1 false).setS 0 (by omega) 0).setS 1 (by omega) 0).setS 2 (by omega) 0).setS 3 (by omega) 0).setS 4 (by omega) 0).setS 5 (by omega) 0).setS 6 (by omega) 0).setS 7 (by omega) 0).set10)
    refine this.congr ?_
    intro k hk
    match k, hk with
    | 0, _ => rfl
    | 1, _ => rfl
    | 2, _ => rfl
    | 3, _ => rfl
    | 4, _ => rfl
    | 5, _ => rfl
    | 6, _ => rfl
    | 7, _ => rfl
  · have st : ∀ (W : World) (p : Addr) (u : Value), p.block = b → Grow (fun k => k = b) W (W.setCell p u) := fun W p u h => Grow.setCell (own := fun j => j = b) W p u h
    exact G.out.trans ((((((((((((st _ _ _ rfl).trans (st _ _ _ rfl)).trans (st _ _ _ rfl)).trans (st _ _ _ rfl)).trans (st _ _ _ rfl)).trans (st _ _ _ rfl)).trans (st _ _ _ rfl)).trans (st _ _ _ rfl)).trans (st _ _ _ rfl)).trans (st _ _ _ rfl)).trans (st _ _ _ rfl)))

theorem lockErr_ok {t : Int} {a3 : Bool} {e3 : Int} (ht : 0 ≤ t ∧ t < 8) : lockErr false t a3 e3 = if a3 then e3 else 0 := by
  unfold lockErr
  rw [if_neg (by simp), if_neg (by omega)]

theorem ltry_win (b : Nat) (th : Int) (sp : Nat → Int) (t : Int) (ht : 0 ≤ t ∧ t < 8) (w : World) (hl : LockAt w b th false sp) :
    Calls Try.prog 24 #[.pointer (some ⟨b, 0, none⟩), .int .i64 t] w fun e w' => e = .returned (.tuple #[.bool true, .int .i64 0]) ∧
      LockAt w' b t true (upd sp t.toNat 0) ∧ Grow (fun k => k = b ∨ w.heap.size ≤ k) w w' := by
  refine (ltry_any b th false sp t w hl).mono ?_
  rintro e w' ⟨r, err, th', h', sp', rfl, hs, hl', hg⟩
  rcases hs with ⟨h0, he, _⟩ | ⟨_, _, h1, _⟩ | ⟨rfl, _, _, rfl, rfl, rfl, rfl⟩
  · exact absurd he (by rw [lockErr_ok ht]; simpa using h0)
  · simp at h1
  · exact ⟨rfl, hl', hg⟩
theorem ltry_lose (b : Nat) (th : Int) (sp : Nat → Int) (t : Int) (ht : 0 ≤ t ∧ t < 8) (hn : th ≠ t) (w : World) (hl : LockAt w b th true sp) :
    Calls Try.prog 24 #[.pointer (some ⟨b, 0, none⟩), .int .i64 t] w fun e w' => e = .returned (.tuple #[.bool false, .int .i64 0]) ∧
      LockAt w' b th true (upd sp t.toNat (IntKind.i64.wrap (sp t.toNat + 1))) ∧ Grow (fun k => k = b ∨ w.heap.size ≤ k) w w' := by
  refine (ltry_any b th true sp t w hl).mono ?_
  rintro e w' ⟨r, err, th', h', sp', rfl, hs, hl', hg⟩
  rcases hs with ⟨h0, he, _⟩ | ⟨rfl, _, _, _, rfl, rfl, rfl, rfl⟩ | ⟨_, _, h1, _⟩
  · exact absurd he (by rw [lockErr_ok ht]; simpa [hn] using h0)
  · exact ⟨rfl, hl', hg⟩
  · simp at h1
theorem ltry_own (b : Nat) (sp : Nat → Int) (t : Int) (ht : 0 ≤ t ∧ t < 8) (w : World) (hl : LockAt w b t true sp) :
    Calls Try.prog 24 #[.pointer (some ⟨b, 0, none⟩), .int .i64 t] w fun e w' => e = .returned (.tuple #[.bool false, .int .i64 260]) ∧
      LockAt w' b t true sp ∧ Grow (fun k => k = b ∨ w.heap.size ≤ k) w w' := by
  refine (ltry_any b t true sp t w hl).mono ?_
  rintro e w' ⟨r, err, th', h', sp', rfl, hs, hl', hg⟩
  rcases hs with ⟨h0, he, rfl, rfl, rfl, rfl⟩ | ⟨_, _, _, h2, _⟩ | ⟨_, _, h1, _⟩
  · rw [lockErr_ok ht] at he
    simp only [beq_self_eq_true, Bool.true_and, if_true] at he
    subst he
    exact ⟨rfl, hl', hg⟩
  · exact absurd rfl h2
  · simp at h1
theorem lfree_ok (b : Nat) (sp : Nat → Int) (t : Int) (ht : 0 ≤ t ∧ t < 8) (w : World) (hl : LockAt w b t true sp) :
    Calls Try.prog 26 #[.pointer (some ⟨b, 0, none⟩), .int .i64 t] w fun e w' => e = .returned (.int .i64 0) ∧
      LockAt w' b 0 false sp ∧ Grow (fun k => k = b ∨ w.heap.size ≤ k) w w' := by
  refine (lfree_any b t true sp t w hl).mono ?_
  rintro e w' ⟨err, th', h', rfl, hs, hl', hg⟩
  rcases hs with ⟨h0, he, _⟩ | ⟨rfl, _, _, _, rfl, rfl⟩
  · exact absurd he (by rw [lockErr_ok ht]; simpa using h0)
  · exact ⟨rfl, hl', hg⟩
theorem lfree_no (b : Nat) (th : Int) (h : Bool) (sp : Nat → Int) (t : Int) (ht : 0 ≤ t ∧ t < 8) (hn : ¬ (h = true ∧ th = t)) (w : World) (hl : LockAt w b th h sp) :
    Calls Try.prog 26 #[.pointer (some ⟨b, 0, none⟩), .int .i64 t] w fun e w' => e = .returned (.int .i64 261) ∧
      LockAt w' b th h sp ∧ Grow (fun k => k = b ∨ w.heap.size ≤ k) w w' := by
  have hq : (!(h && th == t)) = true := by
    cases h with
    | true => simpa using hn
    | false => rfl
  refine (lfree_any b th h sp t w hl).mono ?_
  rintro e w' ⟨err, th', h', rfl, hs, hl', hg⟩
  rcases hs with ⟨h0, he, rfl, rfl⟩ | ⟨_, _, h1, h2, _⟩
  · rw [lockErr_ok ht, if_pos hq] at he
    subst he
    exact ⟨rfl, hl', hg⟩
  · exact absurd ⟨h1, h2⟩ hn
theorem lspins_ok (b : Nat) (th : Int) (h : Bool) (sp : Nat → Int) (t : Int) (ht : 0 ≤ t ∧ t < 8) (w : World) (hl : LockAt w b th h sp) :
    Calls Try.prog 28 #[.pointer (some ⟨b, 0, none⟩), .int .i64 t] w fun e w' => e = .returned (.tuple #[.int .i64 (sp t.toNat), .int .i64 0]) ∧
      LockAt w' b th h sp ∧ Grow (fun k => k = b ∨ w.heap.size ≤ k) w w' := by
  refine (lspins_any b th h sp t w hl).mono ?_
  rintro e w' ⟨v, rfl, h1, _, hl', hg⟩
  rw [h1 ht, lockErr0_zero.2 ht]
  exact ⟨rfl, hl', hg.mono (fun _ h => .inr h)⟩

end Go.Proofs.Ytbfadogjkhoohaa
