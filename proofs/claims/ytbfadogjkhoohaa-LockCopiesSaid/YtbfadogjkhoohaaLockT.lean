/- the walk of waterlinelaw16.LockCopies, on -/
import Derived.Test.YtbfadogjkhoohaaLockS
namespace Go.Proofs.Ytbfadogjkhoohaa
open Go.RowKit
attribute [local go_sem] Oper.semAt_some undef

/-- two acts, boxed at B and behind -/
structure BoxI (w : World) (B : Nat) (x1 y1 x2 y2 : Int) : Prop where
  a0 : w.cell? ⟨B, 0, none⟩ = some (.int .i64 x1)
  a1 : w.cell? ⟨B, 1, none⟩ = some (.int .i64 y1)
  b0 : w.cell? ⟨B + 1, 0, none⟩ = some (.int .i64 x2)
  b1 : w.cell? ⟨B + 1, 1, none⟩ = some (.int .i64 y2)

section
variable {w : World} {B : Nat} {x1 y1 x2 y2 : Int} {wr W : World}
theorem BoxI.below (h : BoxI wr B x1 y1 x2 y2) {m : Nat} (g : Below m wr W) (hm : B + 1 < m) : BoxI W B x1 y1 x2 y2 :=
  ⟨(g.cell (p := ⟨B, 0, none⟩) (by show B < m; omega)).trans h.a0, (g.cell (p := ⟨B, 1, none⟩) (by show B < m; omega)).trans h.a1, (g.cell (p := ⟨B + 1, 0, none⟩) (by show B + 1 < m; omega)).trans h.b0, (g.cell (p := ⟨B + 1, 1, none⟩) (by show B + 1 < m; omega)).trans h.b1⟩
end

/-- behind the copy, and the copy's act: the lock at b; the copy's at c, the document's of it at q -/
structure PlayC (w : World) (B D : Nat) (b : Nat) (th : Int) (h : Bool) (sp : Nat → Int) (c : Nat) (th1 : Int) (h1 : Bool) (sp1 : Nat → Int) (wr : World) : Prop where
  p : PlayI w B D b th h sp wr
  l1 : LockAt wr c th1 h1 sp1
  v1 : LV th1 h1
  ne : c ≠ b
  neD : c ≠ D
  lc : B ≤ c

section
variable {w : World} {B D b : Nat} {th : Int} {h : Bool} {sp : Nat → Int} {c : Nat} {th1 : Int} {h1 : Bool} {sp1 : Nat → Int} {wr W : World}
theorem PlayI.copied (p : PlayI w B D b th h sp wr) (l : LockAt W wr.heap.size th h sp) (g : Grow (fun _ => False) wr W) : PlayC w B D b th h sp wr.heap.size th h sp W :=
  have lt := p.at_.lt
  have lD := p.ref.lt
  have lb := p.lb
  ⟨p.newer (g.mono (fun _ h => h.elim)), l, p.lv, by omega, by omega, by omega⟩
theorem PlayC.act {e : Ending} (p : PlayC w B D b th h sp c th1 h1 sp1 wr) (a : ActPost wr c e W) :
    ∃ c' th2 h2 sp2, e = .returned (.tuple #[.pointer (some ⟨c', 0, none⟩), refV (RC th2 h2) sp2, .bool true]) ∧ PlayC w B D b th h sp c' th2 h2 sp2 W := by
  obtain ⟨c', th2, h2, sp2, rfl, l, v, hc', g⟩ := a
  have lD := p.p.ref.lt
  have lb := p.p.at_.lt
  have lc := p.l1.lt
  have hB := p.p.lb
  have hC := p.lc
  have n1 := p.ne
  have n2 := p.neD
  refine ⟨c', th2, h2, sp2, rfl, ⟨p.p.at_.grow g (fun h => by rcases h with h | h <;> omega), p.p.lv, p.p.ref.grow g (fun h => by rcases h with h | h <;> omega), p.p.ne, p.p.lb,
    p.p.g.trans (g.below (fun k hk => by rcases hk with hk | hk <;> omega) (by omega))⟩, l, v, ?_, ?_, ?_⟩
  · rcases hc' with rfl | hc' <;> omega
  · rcases hc' with rfl | hc' <;> omega
  · rcases hc' with rfl | hc' <;> omega

/-- with the document's of the copy at q -/
structure PlayD (w : World) (B D : Nat) (b : Nat) (th : Int) (h : Bool) (sp : Nat → Int) (c : Nat) (th1 : Int) (h1 : Bool) (sp1 : Nat → Int) (q : Nat) (wr : World) : Prop where
  p : PlayC w B D b th h sp c th1 h1 sp1 wr
  r1 : RefAt wr q (RC th1 h1) sp1
  nq : q ≠ b
theorem PlayC.fresh (p : PlayC w B D b th h sp c th1 h1 sp1 wr) :
    ∀ W, wr.alloc (.cells #[.int .i64 (RC th1 h1), .int .i64 (sp1 0), .int .i64 (sp1 1), .int .i64 (sp1 2), .int .i64 (sp1 3), .int .i64 (sp1 4), .int .i64 (sp1 5), .int .i64 (sp1 6), .int .i64 (sp1 7)] 60) = W → PlayD w B D b th h sp c th1 h1 sp1 wr.heap.size W := by
  intro W hW
  obtain ⟨r, n1⟩ := ref_box wr _ _ W hW
  have lb := p.p.at_.lt
  exact ⟨⟨p.p.newer n1, newer_lock p.l1 n1, p.v1, p.ne, p.neD, p.lc⟩, r, by omega⟩
theorem PlayD.act {e : Ending} {q : Nat} (p : PlayD w B D b th h sp c th1 h1 sp1 q wr) (a : ActPost wr b e W) :
    ∃ b' th2 h2 sp2, e = .returned (.tuple #[.pointer (some ⟨b', 0, none⟩), refV (RC th2 h2) sp2, .bool true]) ∧
      LockAt W b' th2 h2 sp2 ∧ LV th2 h2 ∧ LockAt W c th1 h1 sp1 ∧ RefAt W q (RC th1 h1) sp1 ∧ Below B w W := by
  obtain ⟨b', th2, h2, sp2, rfl, l, v, hb', g⟩ := a
  have lb := p.p.p.at_.lt
  have lc := p.p.l1.lt
  have lq := p.r1.lt
  have hB := p.p.p.lb
  have n1 := p.p.ne
  have n2 := p.nq
  exact ⟨b', th2, h2, sp2, rfl, l, v, p.p.l1.grow g (fun h => by rcases h with h | h <;> omega), p.r1.grow g (fun h => by rcases h with h | h <;> omega), p.p.p.g.trans (g.below (fun k hk => by rcases hk with hk | hk <;> omega) (by omega))⟩
end

set_option maxRecDepth 100000 in
set_option maxHeartbeats 6400000 in
theorem lockCopies_any (sa : Option Addr) (n cap : Nat) (F G : Nat → Int) (x1 y1 x2 y2 : Int) (w : World) (hA : PairsIn w sa n F G) :
    Calls Try.prog 9 #[.slice sa n cap, .agg #[.int .i64 x1, .int .i64 y1], .agg #[.int .i64 x2, .int .i64 y2]] w fun e w' => e = .returned (.bool true) ∧ Below w.heap.size w w' := by
  have HA := Lib.hid hA
  clear hA
  by_cases hn : 30 < n
  · go_enter Try.func9, Try.ntmps9
    go_wp2_with fail
    refine (works16 _).mono ?_
    rintro e w1 ⟨rfl, hb1⟩
    have HB := Lib.hid hb1
    clear hb1
    go_wp2
    go_ret
    exact ⟨rfl, (((Below.refl _ _).alloc (Nat.le_refl _) _).alloc (by simp) _).trans (HB.out.mono (by simp; omega))⟩
  · have hn' : n ≤ 30 := by omega
    clear hn
    go_enter Try.func9, Try.ntmps9
    go_wp2_with fail
    obtain ⟨B, hB⟩ : ∃ B, w.heap.size = B := ⟨_, rfl⟩
    obtain ⟨w0, hw0⟩ : ∃ w0, (w.alloc (.cells #[.int .i64 x1, .int .i64 y1] 45)).alloc (.cells #[.int .i64 x2, .int .i64 y2] 45) = w0 := ⟨_, rfl⟩
    have box : BoxI w0 B x1 y1 x2 y2 ∧ Below B w w0 ∧ B + 2 ≤ w0.heap.size := by
      subst hw0 hB
      exact ⟨⟨by simp [go_sem], by simp [go_sem], by simp [go_sem], by simp [go_sem]⟩, ((Below.refl _ _).alloc (Nat.le_refl _) _).alloc (by simp) _, by simp⟩
    rw [hw0]
    have BX := Lib.hid box
    have HB := Lib.hid hB
    rw [hB]
    clear hw0 box hB
    refine (lnew_any _).mono ?_
    rintro e w1 ⟨rfl, l, g⟩
    have b1 : Below (B + 2) w0 w1 := g.below (fun _ h => h.elim) BX.out.2.2
    obtain ⟨b0, hb0⟩ : ∃ b0, w0.heap.size = b0 := ⟨_, rfl⟩
    have lB : B + 2 ≤ b0 := by rw [← hb0]; exact BX.out.2.2
    rw [hb0] at l ⊢
    clear g hb0
    go_wp2_with fail
    obtain ⟨w2, hw2⟩ : ∃ w2, w1.alloc (.cells #[.int .i64 0, .int .i64 0, .int .i64 0, .int .i64 0, .int .i64 0, .int .i64 0, .int .i64 0, .int .i64 0, .int .i64 0] 60) = w2 := ⟨_, rfl⟩
    obtain ⟨r1, n3⟩ := ref_box w1 0 (fun _ => 0) w2 hw2
    rw [hw2]
    clear hw2
    have lD := l.lt
    have p2 : PlayI w0 (B + 2) w1.heap.size b0 0 false (fun _ => 0) w2 := ⟨newer_lock l n3, ⟨fun h => (by cases h), fun _ => rfl⟩, r1, by omega, lB, b1.trans (n3.below (fun k hk => by have hk : w1.heap.size ≤ k := hk; omega) (by omega))⟩
    have P2 := Lib.hid p2
    have HD : Hid (B + 2 ≤ w1.heap.size) := Lib.hid (by omega)
    clear p2 l b1 r1 n3 lB lD
    generalize w1.heap.size = D at *
    go_loopw [7, 9] (fun l i wr => ∃ (k b : Nat) (th : Int) (h : Bool) (sp : Nat → Int), i = .int .i64 k ∧ l = .pointer (some ⟨b, 0, none⟩) ∧ k ≤ n ∧ PlayI w0 (B + 2) D b th h sp wr)
      (fun _ i _ => n - (intOf i).toNat)
    case atStart => exact ⟨0, _, 0, false, _, rfl, rfl, Nat.zero_le _, P2.out⟩
    case round =>
      obtain ⟨k, b, th, h, sp, rfl, rfl, hk, hp⟩ := hrel
      have HP := Lib.hid hp
      clear hp
      by_cases hlt : k < n
      · have hA' := PairsIn.below HA.out (by have := BX.out.2.1.trans (HP.out.g.mono (by omega)); rw [← HB.out] at this; exact this)
        obtain ⟨A, rfl, a0, a1⟩ := hA' k hlt
        clear hA'
        generalize F k = x at *
        generalize G k = y at *
        have mixed := mixedL
        have r := HP.out.ref
        have c0 := r.c0
        have c1 := r.c1
        have c2 := r.c2
        have c3 := r.c3
        have c4 := r.c4
        have c5 := r.c5
        have c6 := r.c6
        have c7 := r.c7
        have c8 := r.c8
        clear r
        generalize hc : RC th h = c at *
        have HC := Lib.hid hc
        clear hc
        go_wp2_with fail
        have zD := HP.out.ref.lt
        have zA := World.block_lt_of_cell? _ _ a0
        (first | go_region_with (first | (go_at_call 30; have ha := act_any b th h sp x y wr.drew HP.out.drew.at_ HP.out.lv; rw [HC.out] at ha; unfold refV at ha; refine ha.mono ?_; clear ha; rintro e w4 ha; obtain ⟨b', th', h', sp', rfl, p4⟩ := HP.out.drew.act ha; clear ha; unfold refV; have d0 := p4.ref.c0; have d1 := p4.ref.c1; have d2 := p4.ref.c2; have d3 := p4.ref.c3; have d4 := p4.ref.c4; have d5 := p4.ref.c5; have d6 := p4.ref.c6; have d7 := p4.ref.c7; have d8 := p4.ref.c8; have df := p4.ref.f; have P4 := Lib.hid p4; clear p4)) | fail)
        all_goals go_simp
        all_goals
          clear c0 c1 c2 c3 c4 c5 c6 c7 c8 a0 a1
          obtain ⟨W5, hW5⟩ : ∃ W5, refPut w4 D (RC th' h') sp' = W5 := ⟨_, rfl⟩
          have p5 := P4.out.close (by have := HD.out; omega)
          rw [hW5] at p5
          unfold refPut at hW5
          rw [hW5]
          clear hW5 d0 d1 d2 d3 d4 d5 d6 d7 d8 df
          have P5 := Lib.hid p5
          clear p5
          go_wp2_with fail
          go_roundw
          case rel => exact ⟨k + 1, b', th', h', sp', by go_num, rfl, by omega, P5.out⟩
          case measure => simp [intOf]; omega
      · obtain rfl : k = n := by omega
        go_wp2_with fail
        refine (lcopy_ok _ _ _ _ _ HP.out.at_).mono ?_
        rintro e w3 ⟨rfl, l3, g3⟩
        have p3 := HP.out.copied l3 g3
        clear l3 g3 HP
        generalize wr.heap.size = c at *
        have bx := BX.out.1.below p3.p.g (by omega)
        have a0 := bx.a0
        have a1 := bx.a1
        have r := p3.p.ref
        have c0 := r.c0
        have c1 := r.c1
        have c2 := r.c2
        have c3 := r.c3
        have c4 := r.c4
        have c5 := r.c5
        have c6 := r.c6
        have c7 := r.c7
        have c8 := r.c8
        have P3 := Lib.hid p3
        clear r p3 bx
        generalize hc : RC th h = C at *
        have HC := Lib.hid hc
        clear hc
        go_wp2_with fail
        have ha := act_any c th h sp x1 y1 w3 P3.out.l1 P3.out.v1
        rw [HC.out] at ha
        unfold refV at ha
        refine ha.mono ?_
        clear ha c0 c1 c2 c3 c4 c5 c6 c7 c8 a0 a1
        rintro e w4 ha
        obtain ⟨c', th1, h1, sp1, rfl, p4⟩ := P3.out.act ha
        clear ha
        unfold refV
        have bx := BX.out.1.below p4.p.g (by omega)
        have a0 := bx.b0
        have a1 := bx.b1
        have r := p4.p.ref
        rw [HC.out] at r
        have c0 := r.c0
        have c1 := r.c1
        have c2 := r.c2
        have c3 := r.c3
        have c4 := r.c4
        have c5 := r.c5
        have c6 := r.c6
        have c7 := r.c7
        have c8 := r.c8
        have zD := r.lt
        have zB : B + 1 < w4.heap.size := by have := p4.p.at_.lt; have := p4.p.lb; omega
        have P4 := Lib.hid p4
        clear r p4 bx
        generalize hC1 : RC th1 h1 = C1 at *
        have HC1 := Lib.hid hC1
        clear hC1
        go_wp2_with fail
        clear c0 c1 c2 c3 c4 c5 c6 c7 c8 a0 a1
        obtain ⟨w5, hw5⟩ : ∃ w5, w4.alloc (.cells #[.int .i64 C1, .int .i64 (sp1 0), .int .i64 (sp1 1), .int .i64 (sp1 2), .int .i64 (sp1 3), .int .i64 (sp1 4), .int .i64 (sp1 5), .int .i64 (sp1 6), .int .i64 (sp1 7)] 60) = w5 := ⟨_, rfl⟩
        have p5 := P4.out.fresh w5 (by rw [HC1.out]; exact hw5)
        have P5 := Lib.hid p5
        rw [hw5]
        clear hw5 p5
        generalize w4.heap.size = q1 at *
        have ha := act_any b th h sp x2 y2 w5 P5.out.p.p.at_ P5.out.p.p.lv
        rw [HC.out] at ha
        unfold refV at ha
        refine ha.mono ?_
        clear ha
        rintro e w6 ha
        obtain ⟨b', th2, h2, sp2, rfl, l2, v2, l1, r1, g6⟩ := P5.out.act ha
        clear ha
        unfold refV
        generalize hC2 : RC th2 h2 = C2 at *
        have HC2 := Lib.hid hC2
        clear hC2
        have H6 := Lib.hid (And.intro l2 (And.intro v2 (And.intro l1 (And.intro r1 g6))))
        clear l2 v2 l1 r1 g6
        go_wp2_with fail
        obtain ⟨w7, hw7⟩ : ∃ w7, w6.alloc (.cells #[.int .i64 C2, .int .i64 (sp2 0), .int .i64 (sp2 1), .int .i64 (sp2 2), .int .i64 (sp2 3), .int .i64 (sp2 4), .int .i64 (sp2 5), .int .i64 (sp2 6), .int .i64 (sp2 7)] 60) = w7 := ⟨_, rfl⟩
        obtain ⟨r2, n7⟩ := ref_box w6 C2 sp2 w7 hw7
        rw [hw7]
        clear hw7
        have E7 : Hid (EndI w B q1 w6.heap.size c' b' th1 h1 sp1 th2 h2 sp2 w7) := by
          obtain ⟨l2, v2, l1, r1, g6⟩ := H6.out
          have := l1.lt
          have := r1.lt
          exact Lib.hid ⟨newer_lock l1 n7, P5.out.p.v1, newer_lock l2 n7, v2, r1.grow n7 (fun h => by have h : w6.heap.size ≤ q1 := h; omega), by rw [HC2.out]; exact r2, by have := P5.out.p.lc; omega,
            (BX.out.2.1.trans (g6.mono (by omega))).trans (n7.below (fun k hk => by have hk : w6.heap.size ≤ k := hk; have := P5.out.p.lc; omega) (by have := P5.out.p.lc; omega))⟩
        clear r2 n7 H6 P5 P4 P3
        generalize w6.heap.size = q2 at *
        have e60 := fun w => run_eql60 C1 C2 sp1 sp2 w
        have g60 := run_guard60
        obtain ⟨d, hd⟩ : ∃ d, d = (C1 == C2 && all8 sp1 sp2) := ⟨_, rfl⟩
        rw [← hd] at e60
        unfold refV at e60
        have hd' : same2 th1 h1 sp1 th2 h2 sp2 = d := by rw [hd]; unfold same2; rw [HC1.out, HC2.out]
        have HD' := Lib.hid hd'
        clear hd hd'
        have I1 : ∀ W, EndI w B q1 q2 c' b' th1 h1 sp1 th2 h2 sp2 W → Calls Try.prog 31 #[.pointer (some ⟨c', 0, none⟩), .agg #[.int .i64 C1, .int .i64 (sp1 0), .int .i64 (sp1 1), .int .i64 (sp1 2), .int .i64 (sp1 3), .int .i64 (sp1 4), .int .i64 (sp1 5), .int .i64 (sp1 6), .int .i64 (sp1 7)]] W fun e w' => e = .returned (.bool true) ∧ Newer W w' := fun W hW => by
          have := is_any c' th1 h1 sp1 W hW.l1 hW.v1
          rw [HC1.out] at this
          exact this
        have I2 : ∀ W, EndI w B q1 q2 c' b' th1 h1 sp1 th2 h2 sp2 W → Calls Try.prog 31 #[.pointer (some ⟨b', 0, none⟩), .agg #[.int .i64 C2, .int .i64 (sp2 0), .int .i64 (sp2 1), .int .i64 (sp2 2), .int .i64 (sp2 3), .int .i64 (sp2 4), .int .i64 (sp2 5), .int .i64 (sp2 6), .int .i64 (sp2 7)]] W fun e w' => e = .returned (.bool true) ∧ Newer W w' := fun W hW => by
          have := is_any b' th2 h2 sp2 W hW.l2 hW.v2
          rw [HC2.out] at this
          exact this
        have I3 : ∀ W, EndI w B q1 q2 c' b' th1 h1 sp1 th2 h2 sp2 W → Calls Try.prog 33 #[.pointer (some ⟨c', 0, none⟩), .pointer (some ⟨b', 0, none⟩)] W fun e w' => e = .returned (.bool d) ∧ Newer W w' := fun W hW => lsame2 c' b' th1 th2 h1 h2 sp1 sp2 d W hW.l1 hW.l2 hW.v1 hW.v2 HD'.out
        have I4 : ∀ W, EndI w B q1 q2 c' b' th1 h1 sp1 th2 h2 sp2 W → Calls Try.prog 33 #[.pointer (some ⟨b', 0, none⟩), .pointer (some ⟨c', 0, none⟩)] W fun e w' => e = .returned (.bool d) ∧ Newer W w' := fun W hW => lsame2' c' b' th1 th2 h1 h2 sp1 sp2 d W hW.l1 hW.l2 hW.v1 hW.v2 HD'.out
        have I5 : ∀ W (p q : Nat), (p = c' ∧ q = b' ∨ p = b' ∧ q = c') → EndI w B q1 q2 c' b' th1 h1 sp1 th2 h2 sp2 W → Calls Try.prog 33 #[.pointer (some ⟨p, 0, none⟩), .pointer (some ⟨q, 0, none⟩)] W fun e w' => e = .returned (.bool d) ∧ Newer W w' := by
          rintro W p q (⟨rfl, rfl⟩ | ⟨rfl, rfl⟩) hW
          · exact I3 W hW
          · exact I4 W hW
        have J := Lib.hid (And.intro I1 (And.intro I2 I5))
        clear I1 I2 I3 I4 I5 BX HD P2 HC HD' HA
        go_region_held3 (fun w' => EndI w B q1 q2 c' b' th1 h1 sp1 th2 h2 sp2 w' ∧ w'.cell? ⟨q1, 0, none⟩ = some (.int .i64 C1) ∧ w'.cell? ⟨q1, 1, none⟩ = some (.int .i64 (sp1 0)) ∧ w'.cell? ⟨q1, 2, none⟩ = some (.int .i64 (sp1 1)) ∧ w'.cell? ⟨q1, 3, none⟩ = some (.int .i64 (sp1 2)) ∧ w'.cell? ⟨q1, 4, none⟩ = some (.int .i64 (sp1 3)) ∧ w'.cell? ⟨q1, 5, none⟩ = some (.int .i64 (sp1 4)) ∧ w'.cell? ⟨q1, 6, none⟩ = some (.int .i64 (sp1 5)) ∧ w'.cell? ⟨q1, 7, none⟩ = some (.int .i64 (sp1 6)) ∧ w'.cell? ⟨q1, 8, none⟩ = some (.int .i64 (sp1 7)) ∧ w'.cell? ⟨q2, 0, none⟩ = some (.int .i64 C2) ∧ w'.cell? ⟨q2, 1, none⟩ = some (.int .i64 (sp2 0)) ∧ w'.cell? ⟨q2, 2, none⟩ = some (.int .i64 (sp2 1)) ∧ w'.cell? ⟨q2, 3, none⟩ = some (.int .i64 (sp2 2)) ∧ w'.cell? ⟨q2, 4, none⟩ = some (.int .i64 (sp2 3)) ∧ w'.cell? ⟨q2, 5, none⟩ = some (.int .i64 (sp2 4)) ∧ w'.cell? ⟨q2, 6, none⟩ = some (.int .i64 (sp2 5)) ∧ w'.cell? ⟨q2, 7, none⟩ = some (.int .i64 (sp2 6)) ∧ w'.cell? ⟨q2, 8, none⟩ = some (.int .i64 (sp2 7)))
          (first | exact E7.out.drew.full HC1.out HC2.out | (go_split_ands; exact EndI.full (EndI.newer (by assumption) (by assumption)) HC1.out HC2.out) | (go_split_ands; exact EndI.full (by assumption) HC1.out HC2.out))
          (first
            | (go_at_call_of 31 (Value.pointer (some ⟨c', 0, none⟩)); refine (J.out.1 _ (by go_split_ands; assumption)).mono ?_; rintro e w' ⟨rfl, sx⟩)
            | (go_at_call_of 31 (Value.pointer (some ⟨b', 0, none⟩)); refine (J.out.2.1 _ (by go_split_ands; assumption)).mono ?_; rintro e w' ⟨rfl, sx⟩)
            | (go_at_call 33; refine (J.out.2.2 _ _ _ (by first | exact Or.inl ⟨rfl, rfl⟩ | exact Or.inr ⟨rfl, rfl⟩) (by go_split_ands; assumption)).mono ?_; rintro e w' ⟨rfl, sx⟩)
            | (go_at_call 21; refine (works16_newer _).mono ?_; rintro e w' ⟨rfl, sx⟩))
        all_goals
          go_split_ands
          go_wp2
          go_ret
          refine ⟨rfl, ?_⟩
          rw [HB.out]
          exact EndI.g (by assumption)

end Go.Proofs.Ytbfadogjkhoohaa
