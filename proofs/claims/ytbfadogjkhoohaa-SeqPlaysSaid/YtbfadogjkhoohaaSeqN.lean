/- the walk of waterlinelaw17.SeqPlays -/
import Derived.Test.YtbfadogjkhoohaaSeqM
namespace Go.Proofs.Ytbfadogjkhoohaa
open Go.RowKit
attribute [local go_sem] Oper.semAt_some undef

/-- two acts, boxed at B and behind -/
structure Box2 (w : World) (B : Nat) (x1 y1 x2 y2 : Int) : Prop where
  a0 : w.cell? ⟨B, 0, none⟩ = some (.int .i64 x1)
  a1 : w.cell? ⟨B, 1, none⟩ = some (.int .u64 y1)
  b0 : w.cell? ⟨B + 1, 0, none⟩ = some (.int .i64 x2)
  b1 : w.cell? ⟨B + 1, 1, none⟩ = some (.int .u64 y2)

/-- behind some calls -/
structure SPlay (w : World) (B : Nat) (x1 y1 x2 y2 : Int) (b : Nat) (n : Int) (wr : World) : Prop where
  at_ : SeqAt wr b n
  bx : Box2 wr B x1 y1 x2 y2
  lb : B + 2 ≤ b
  g : Below B w wr

section
variable {w : World} {B : Nat} {x1 y1 x2 y2 : Int} {b : Nat} {n : Int} {wr W : World}
theorem Box2.grow (h : Box2 wr B x1 y1 x2 y2) {own : Nat → Prop} (g : Grow own wr W) (hn : ¬ own B) (hn' : ¬ own (B + 1)) : Box2 W B x1 y1 x2 y2 :=
  have l0 : B < wr.heap.size := by have := World.block_lt_of_cell? _ _ h.a0; simpa using this
  have l1 : B + 1 < wr.heap.size := by have := World.block_lt_of_cell? _ _ h.b0; simpa using this
  ⟨(g.cell (p := ⟨B, 0, none⟩) l0 hn).trans h.a0, (g.cell (p := ⟨B, 1, none⟩) l0 hn).trans h.a1, (g.cell (p := ⟨B + 1, 0, none⟩) l1 hn').trans h.b0, (g.cell (p := ⟨B + 1, 1, none⟩) l1 hn').trans h.b1⟩
theorem SPlay.act {e : Ending} (p : SPlay w B x1 y1 x2 y2 b n wr) (a : SActPost wr b n e W) :
    ∃ b' n', e = .returned (.tuple #[.pointer (some ⟨b', 0, none⟩), .int .u64 n', .bool true]) ∧ n ≤ n' ∧ n' ≤ n + 1 ∧ SPlay w B x1 y1 x2 y2 b' n' W := by
  obtain ⟨b', n', rfl, at_, h1, h2, hb, g⟩ := a
  have lt := p.at_.lt
  have lb := p.lb
  exact ⟨b', n', rfl, h1, h2, at_, p.bx.grow g (fun h => by rcases h with h | h <;> omega) (fun h => by rcases h with h | h <;> omega), by rcases hb with rfl | hb <;> omega,
    p.g.trans (g.below (fun k hk => by rcases hk with hk | hk <;> omega) (by omega))⟩
end

/-- behind the copy: two numbers -/
structure SPlay2 (w : World) (B : Nat) (x1 y1 x2 y2 : Int) (b : Nat) (n : Int) (c : Nat) (m : Int) (wr : World) : Prop where
  s : SPlay w B x1 y1 x2 y2 b n wr
  t : SPlay w B x1 y1 x2 y2 c m wr
  ne : b ≠ c

section
variable {w : World} {B : Nat} {x1 y1 x2 y2 : Int} {b c : Nat} {n m : Int} {wr W : World}
theorem SPlay.grow (p : SPlay w B x1 y1 x2 y2 b n wr) {own : Nat → Prop} (g : Grow own wr W) (hb : ¬ own b) (hn : ∀ k, own k → B + 2 ≤ k) : SPlay w B x1 y1 x2 y2 b n W :=
  have lt := p.at_.lt
  have lb := p.lb
  ⟨p.at_.grow g hb, p.bx.grow g (fun h => by have := hn _ h; omega) (fun h => by have := hn _ h; omega), p.lb, p.g.trans (g.below (fun k hk => by have := hn k hk; omega) (by omega))⟩
theorem SPlay.copied (p : SPlay w B x1 y1 x2 y2 b n wr) (h : SeqAt W wr.heap.size n) (g : Grow (fun _ => False) wr W) : SPlay2 w B x1 y1 x2 y2 b n wr.heap.size n W :=
  have q := p.grow g (fun h => h) (fun _ h => h.elim)
  have lt := p.at_.lt
  have lb := p.lb
  ⟨q, ⟨h, q.bx, by omega, q.g⟩, by omega⟩
theorem SPlay2.act_t {e : Ending} (p : SPlay2 w B x1 y1 x2 y2 b n c m wr) (a : SActPost wr c m e W) :
    ∃ c' m', e = .returned (.tuple #[.pointer (some ⟨c', 0, none⟩), .int .u64 m', .bool true]) ∧ m ≤ m' ∧ m' ≤ m + 1 ∧ SPlay2 w B x1 y1 x2 y2 b n c' m' W := by
  obtain ⟨c', m', he, h1, h2, q⟩ := p.t.act a
  obtain ⟨c2, m2, he2, _, _, _, hc, g⟩ := a
  rw [he] at he2
  simp only [Ending.returned.injEq, Value.tuple.injEq, Array.mk.injEq, List.cons.injEq, Value.pointer.injEq, Option.some.injEq, Addr.mk.injEq] at he2
  obtain ⟨⟨rfl, -⟩, -⟩ := he2
  have lt := p.s.at_.lt
  have lt' := p.t.at_.lt
  have lb := p.t.lb
  have ne := p.ne
  exact ⟨c', m', he, h1, h2, p.s.grow g (fun h => by rcases h with h | h <;> omega) (fun k hk => by rcases hk with hk | hk <;> omega), q, by rcases hc with rfl | hc <;> omega⟩
theorem SPlay2.flip (p : SPlay2 w B x1 y1 x2 y2 b n c m wr) : SPlay2 w B x1 y1 x2 y2 c m b n wr := ⟨p.t, p.s, fun h => p.ne h.symm⟩
theorem SPlay2.fresh (p : SPlay2 w B x1 y1 x2 y2 b n c m wr) {own : Nat → Prop} (g : Grow own wr W) (hn : ∀ k, own k → wr.heap.size ≤ k) : SPlay2 w B x1 y1 x2 y2 b n c m W :=
  have lt := p.s.at_.lt
  have lt' := p.t.at_.lt
  have lb := p.s.lb
  ⟨p.s.grow g (fun h => by have := hn _ h; omega) (fun k hk => by have := hn _ hk; omega), p.t.grow g (fun h => by have := hn _ h; omega) (fun k hk => by have := hn _ hk; omega), p.ne⟩
end

set_option maxRecDepth 100000 in
set_option maxHeartbeats 3200000 in
theorem seqPlays_any (sa : Option Addr) (N cap : Nat) (F G : Nat → Int) (x1 y1 x2 y2 : Int) (w : World) (hA : PairsU w sa N F G) :
    Calls Try.prog 10 #[.slice sa N cap, .agg #[.int .i64 x1, .int .u64 y1], .agg #[.int .i64 x2, .int .u64 y2]] w fun e w' => e = .returned (.bool true) ∧ Below w.heap.size w w' := by
  have HA := Lib.hid hA
  clear hA
  by_cases hn : 60 < N
  · go_enter Try.func10, Try.ntmps10
    go_wp2_with fail
    refine (works17 _).mono ?_
    rintro e w1 ⟨rfl, hb1⟩
    have HB := Lib.hid hb1
    clear hb1
    go_wp2
    go_ret
    exact ⟨rfl, (((Below.refl _ _).alloc (Nat.le_refl _) _).alloc (by simp) _).trans (HB.out.mono (by simp; omega))⟩
  · have hn' : N ≤ 60 := by omega
    clear hn
    go_enter Try.func10, Try.ntmps10
    go_wp2_with fail
    obtain ⟨B, hB⟩ : ∃ B, w.heap.size = B := ⟨_, rfl⟩
    obtain ⟨w0, hw0⟩ : ∃ w0, (w.alloc (.cells #[.int .i64 x1, .int .u64 y1] 56)).alloc (.cells #[.int .i64 x2, .int .u64 y2] 56) = w0 := ⟨_, rfl⟩
    have box : Box2 w0 B x1 y1 x2 y2 ∧ Below B w w0 ∧ B + 2 ≤ w0.heap.size := by
      subst hw0 hB
      exact ⟨⟨by simp [go_sem], by simp [go_sem], by simp [go_sem], by simp [go_sem]⟩, ((Below.refl _ _).alloc (Nat.le_refl _) _).alloc (by simp) _, by simp⟩
    rw [hw0]
    have BX := Lib.hid box
    have HB := Lib.hid hB
    rw [hB]
    clear hw0 box hB
    refine (new_st _).mono ?_
    rintro e w1 ⟨rfl, s, g, z⟩
    have h1 : SPlay w B x1 y1 x2 y2 w0.heap.size 0 w1 :=
      ⟨s, BX.out.1.grow g (fun h => h) (fun h => h), BX.out.2.2, BX.out.2.1.trans (g.below (fun _ h => h.elim) (by have := BX.out.2.2; omega))⟩
    have H1 := Lib.hid h1
    clear s g z h1
    generalize w0.heap.size = b0 at *
    go_wp2_with fail
    go_loopw [7, 8, 9] (fun v u i wr => ∃ (k b : Nat) (n : Int), i = .int .i64 k ∧ v = .pointer (some ⟨b, 0, none⟩) ∧ u = .int .u64 n ∧ k ≤ N ∧ 0 ≤ n ∧ n ≤ k ∧ SPlay w B x1 y1 x2 y2 b n wr)
      (fun _ _ i _ => N - (intOf i).toNat)
    case atStart => exact ⟨0, _, 0, rfl, rfl, rfl, Nat.zero_le _, by omega, by omega, H1.out⟩
    case round =>
      obtain ⟨k, b, n, rfl, rfl, rfl, hk, hn0, hnk, hp⟩ := hrel
      have HP := Lib.hid hp
      clear hp
      by_cases hlt : k < N
      · obtain ⟨A, rfl, a0, a1, -⟩ := (HA.out.below (Nat.le_of_eq HB.out) HP.out.g) k hlt
        generalize F k = x at *
        generalize G k = y at *
        go_wp2_with fail
        refine (sact_any _ _ _ _ _ HP.out.at_ hn0 (by omega)).mono ?_
        rintro e w2 ha
        obtain ⟨b', n', rfl, q1, q2, p2⟩ := HP.out.act ha
        have P2 := Lib.hid p2
        clear ha p2 a0 a1
        go_wp2_with fail
        refine (now_ok _ _ _ P2.out.at_).mono ?_
        rintro e w' ⟨rfl, rfl⟩
        go_wp2_with fail
        go_roundw
        case rel => exact ⟨k + 1, b', n', by go_num, rfl, rfl, by omega, by omega, by omega, P2.out⟩
        case measure => simp [intOf]; omega
      · obtain rfl : k = N := by omega
        have hn62 : n ≤ 60 := by omega
        go_wp2_with fail
        refine (copy_st _ _ _ HP.out.at_).mono ?_
        rintro e w2 ⟨rfl, s1, s2, g, z⟩
        have p2 := HP.out.copied s1 g
        clear s1 s2 g z HP
        generalize wr.heap.size = c at *
        have a0 := p2.s.bx.a0
        have a1 := p2.s.bx.a1
        have P2 := Lib.hid p2
        clear p2
        go_wp2_with fail
        refine (sact_any _ _ _ _ _ P2.out.t.at_ hn0 (by omega)).mono ?_
        rintro e w3 ha
        obtain ⟨c', m, rfl, q1, q2, p3⟩ := P2.out.act_t ha
        clear ha P2 a0 a1
        have b0 := p3.s.bx.b0
        have b1 := p3.s.bx.b1
        have P3 := Lib.hid p3
        clear p3
        go_wp2_with fail
        refine (sact_any _ _ _ _ _ P3.out.s.at_ hn0 (by omega)).mono ?_
        rintro e w4 ha
        obtain ⟨b', n', rfl, q3, q4, p4⟩ := P3.out.flip.act_t ha
        have P4 := Lib.hid p4.flip
        clear ha P3 b0 b1 p4
        go_wp2_with fail
        · obtain ⟨v0, hv0⟩ : ∃ v0, w4.alloc (.cells #[.int .u64 0, .bool false] 75) = v0 := ⟨_, rfl⟩
          have hp := P4.out.fresh (hv0 ▸ Grow.alloc (fun _ => False) w4 _) (fun _ h => h.elim)
          have ho : SOff v0 (some ⟨w4.heap.size, 0, none⟩) := .inr ⟨_, rfl, by rw [← hv0]; simp [go_sem]⟩
          rw [hv0]
          clear hv0
          obtain ⟨pn, hpn⟩ : ∃ pn, some (Addr.mk w4.heap.size 0 none) = pn := ⟨_, rfl⟩
          rw [hpn] at ho ⊢
          have P0 := Lib.hid hp
          have O0 := Lib.hid ho
          clear hp ho hpn
          go_wp2_with (first | (go_at_call 18; refine (num_any _ _).mono ?_; rintro e w' ⟨rfl, rfl⟩))
          refine (begin_no pn _ O0.out).mono ?_
          rintro e w' ⟨rfl, rfl⟩
          go_wp2_with (first | (go_at_call 18; refine (num_any _ _).mono ?_; rintro e w' ⟨rfl, rfl⟩))
          refine (end_no pn _ O0.out).mono ?_
          rintro e w' ⟨rfl, rfl⟩
          go_wp2_with (first | (go_at_call 18; refine (num_any _ _).mono ?_; rintro e w' ⟨rfl, rfl⟩))
          refine (look_no pn _ O0.out).mono ?_
          rintro e w' ⟨rfl, rfl⟩
          go_wp2_with (first | (go_at_call 18; refine (num_any _ _).mono ?_; rintro e w' ⟨rfl, rfl⟩))
          refine (now_ok _ _ _ P0.out.t.at_).mono ?_
          rintro e w' ⟨rfl, rfl⟩
          go_wp2_with (first | (go_at_call 18; refine (num_any _ _).mono ?_; rintro e w' ⟨rfl, rfl⟩))
          refine (now_ok _ _ _ P0.out.s.at_).mono ?_
          rintro e w' ⟨rfl, rfl⟩
          go_wp2_with (first | (go_at_call 18; refine (num_any _ _).mono ?_; rintro e w' ⟨rfl, rfl⟩))
          refine (same_st _ _ _ _ _ P0.out.t.at_ P0.out.s.at_).mono ?_
          rintro e w' ⟨rfl, g⟩
          have P1 := Lib.hid (P0.out.fresh g (fun _ h => h.elim))
          have O1 := Lib.hid (O0.out.grow g (fun _ h => h.elim))
          clear g P0 O0
          go_wp2_with (first | (go_at_call 18; refine (num_any _ _).mono ?_; rintro e w' ⟨rfl, rfl⟩))
          refine (good_no pn _ O1.out 0).mono ?_
          rintro e w' ⟨rfl, rfl⟩
          go_wp2_with (first | (go_at_call 18; refine (num_any _ _).mono ?_; rintro e w' ⟨rfl, rfl⟩))
          refine (now_no pn _ O1.out).mono ?_
          rintro e w' ⟨rfl, rfl⟩
          go_wp2_with (first | (go_at_call 18; refine (num_any _ _).mono ?_; rintro e w' ⟨rfl, rfl⟩))
          refine (settle_no pn _ O1.out).mono ?_
          rintro e w' ⟨rfl, g⟩
          have P2 := Lib.hid (P1.out.fresh g (fun _ h => h.elim))
          have O2 := Lib.hid (O1.out.grow g (fun _ h => h.elim))
          clear g P1 O1
          go_wp2_with (first | (go_at_call 18; refine (num_any _ _).mono ?_; rintro e w' ⟨rfl, rfl⟩))
          refine (copy_no pn _ O2.out).mono ?_
          rintro e w' ⟨rfl, rfl⟩
          go_wp2_with (first | (go_at_call 18; refine (num_any _ _).mono ?_; rintro e w' ⟨rfl, rfl⟩))
          refine (same_nos pn none _ O2.out (.inl rfl)).mono ?_
          rintro e w' ⟨rfl, rfl⟩
          go_wp2_with (first | (go_at_call 18; refine (num_any _ _).mono ?_; rintro e w' ⟨rfl, rfl⟩))
          refine (same_at_no pn _ _ _ O2.out P2.out.s.at_).mono ?_
          rintro e w' ⟨rfl, rfl⟩
          go_wp2_with (first | (go_at_call 18; refine (num_any _ _).mono ?_; rintro e w' ⟨rfl, rfl⟩))
          refine (same_no_at pn _ _ _ O2.out P2.out.s.at_).mono ?_
          rintro e w' ⟨rfl, rfl⟩
          go_wp2_with (first | (go_at_call 18; refine (num_any _ _).mono ?_; rintro e w' ⟨rfl, rfl⟩))
          refine (works17 _).mono ?_
          rintro e w' ⟨rfl, hb⟩
          have H9 := Lib.hid hb
          clear hb
          go_wp2_with fail
          go_ret
          refine ⟨rfl, ?_⟩
          rw [HB.out]
          exact P2.out.s.g.trans (H9.out.mono (by have := P2.out.s.at_.lt; have := P2.out.s.lb; omega))
        · obtain ⟨pn, hpn⟩ : ∃ pn : Option Addr, none = pn := ⟨_, rfl⟩
          have ho : SOff w4 pn := .inl hpn.symm
          rw [hpn]
          have P0 := P4
          have O0 := Lib.hid ho
          clear ho hpn
          go_wp2_with (first | (go_at_call 18; refine (num_any _ _).mono ?_; rintro e w' ⟨rfl, rfl⟩))
          refine (begin_no pn _ O0.out).mono ?_
          rintro e w' ⟨rfl, rfl⟩
          go_wp2_with (first | (go_at_call 18; refine (num_any _ _).mono ?_; rintro e w' ⟨rfl, rfl⟩))
          refine (end_no pn _ O0.out).mono ?_
          rintro e w' ⟨rfl, rfl⟩
          go_wp2_with (first | (go_at_call 18; refine (num_any _ _).mono ?_; rintro e w' ⟨rfl, rfl⟩))
          refine (look_no pn _ O0.out).mono ?_
          rintro e w' ⟨rfl, rfl⟩
          go_wp2_with (first | (go_at_call 18; refine (num_any _ _).mono ?_; rintro e w' ⟨rfl, rfl⟩))
          refine (now_ok _ _ _ P0.out.t.at_).mono ?_
          rintro e w' ⟨rfl, rfl⟩
          go_wp2_with (first | (go_at_call 18; refine (num_any _ _).mono ?_; rintro e w' ⟨rfl, rfl⟩))
          refine (now_ok _ _ _ P0.out.s.at_).mono ?_
          rintro e w' ⟨rfl, rfl⟩
          go_wp2_with (first | (go_at_call 18; refine (num_any _ _).mono ?_; rintro e w' ⟨rfl, rfl⟩))
          refine (same_st _ _ _ _ _ P0.out.t.at_ P0.out.s.at_).mono ?_
          rintro e w' ⟨rfl, g⟩
          have P1 := Lib.hid (P0.out.fresh g (fun _ h => h.elim))
          have O1 := Lib.hid (O0.out.grow g (fun _ h => h.elim))
          clear g P0 O0
          go_wp2_with (first | (go_at_call 18; refine (num_any _ _).mono ?_; rintro e w' ⟨rfl, rfl⟩))
          refine (good_no pn _ O1.out 0).mono ?_
          rintro e w' ⟨rfl, rfl⟩
          go_wp2_with (first | (go_at_call 18; refine (num_any _ _).mono ?_; rintro e w' ⟨rfl, rfl⟩))
          refine (now_no pn _ O1.out).mono ?_
          rintro e w' ⟨rfl, rfl⟩
          go_wp2_with (first | (go_at_call 18; refine (num_any _ _).mono ?_; rintro e w' ⟨rfl, rfl⟩))
          refine (settle_no pn _ O1.out).mono ?_
          rintro e w' ⟨rfl, g⟩
          have P2 := Lib.hid (P1.out.fresh g (fun _ h => h.elim))
          have O2 := Lib.hid (O1.out.grow g (fun _ h => h.elim))
          clear g P1 O1
          go_wp2_with (first | (go_at_call 18; refine (num_any _ _).mono ?_; rintro e w' ⟨rfl, rfl⟩))
          refine (copy_no pn _ O2.out).mono ?_
          rintro e w' ⟨rfl, rfl⟩
          go_wp2_with (first | (go_at_call 18; refine (num_any _ _).mono ?_; rintro e w' ⟨rfl, rfl⟩))
          refine (same_nos pn none _ O2.out (.inl rfl)).mono ?_
          rintro e w' ⟨rfl, rfl⟩
          go_wp2_with (first | (go_at_call 18; refine (num_any _ _).mono ?_; rintro e w' ⟨rfl, rfl⟩))
          refine (same_at_no pn _ _ _ O2.out P2.out.s.at_).mono ?_
          rintro e w' ⟨rfl, rfl⟩
          go_wp2_with (first | (go_at_call 18; refine (num_any _ _).mono ?_; rintro e w' ⟨rfl, rfl⟩))
          refine (same_no_at pn _ _ _ O2.out P2.out.s.at_).mono ?_
          rintro e w' ⟨rfl, rfl⟩
          go_wp2_with (first | (go_at_call 18; refine (num_any _ _).mono ?_; rintro e w' ⟨rfl, rfl⟩))
          refine (works17 _).mono ?_
          rintro e w' ⟨rfl, hb⟩
          have H9 := Lib.hid hb
          clear hb
          go_wp2_with fail
          go_ret
          refine ⟨rfl, ?_⟩
          rw [HB.out]
          exact P2.out.s.g.trans (H9.out.mono (by have := P2.out.s.at_.lt; have := P2.out.s.lb; omega))

end Go.Proofs.Ytbfadogjkhoohaa
