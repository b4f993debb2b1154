/- the walk of waterlinelaw16.LockPlays -/
import Derived.Test.YtbfadogjkhoohaaLockQ
namespace Go.Proofs.Ytbfadogjkhoohaa
open Go.RowKit
attribute [local go_sem] Oper.semAt_some undef

/-- behind some calls: the lock, and the document's beside it at D -/
structure PlayI (w : World) (B D : Nat) (b : Nat) (th : Int) (h : Bool) (sp : Nat → Int) (wr : World) : Prop where
  at_ : LockAt wr b th h sp
  lv : LV th h
  ref : RefAt wr D (RC th h) sp
  ne : b ≠ D
  lb : B ≤ b
  g : Below B w wr

theorem PlayI.drew {w : World} {B D b : Nat} {th : Int} {h : Bool} {sp : Nat → Int} {wr : World} (p : PlayI w B D b th h sp wr) : PlayI w B D b th h sp wr.drew :=
  ⟨p.at_.grow (Grow.drew (fun _ => False) _) (fun h => h), p.lv, p.ref.grow (Grow.drew (fun _ => False) _) (fun h => h), p.ne, p.lb, p.g.trans ((Grow.drew (fun _ => False) _).below (fun _ h => h.elim) (by have := p.at_.lt; have := p.lb; omega))⟩

/-- behind act: as it was at D; the lock's new -/
structure PlayA (w : World) (B D : Nat) (b : Nat) (th : Int) (h : Bool) (sp : Nat → Int) (c : Int) (S : Nat → Int) (wr : World) : Prop where
  at_ : LockAt wr b th h sp
  lv : LV th h
  ref : RefAt wr D c S
  ne : b ≠ D
  lb : B ≤ b
  g : Below B w wr

theorem PlayI.act {w : World} {B D b : Nat} {th : Int} {h : Bool} {sp : Nat → Int} {wr W : World} {e : Ending} (p : PlayI w B D b th h sp wr) (a : ActPost wr b e W) :
    ∃ b' th' h' sp', e = .returned (.tuple #[.pointer (some ⟨b', 0, none⟩), refV (RC th' h') sp', .bool true]) ∧ PlayA w B D b' th' h' sp' (RC th h) sp W := by
  obtain ⟨b', th', h', sp', rfl, l, v, hb', g⟩ := a
  have lD := p.ref.lt
  have lb := p.at_.lt
  have hB := p.lb
  have hne := p.ne
  refine ⟨b', th', h', sp', rfl, l, v, p.ref.grow g (fun h => by rcases h with h | h <;> omega), by rcases hb' with rfl | hb' <;> omega, by omega, p.g.trans (g.below (fun k hk => by rcases hk with hk | hk <;> omega) (by omega))⟩

theorem PlayI.alloc {w : World} {B D b : Nat} {th : Int} {h : Bool} {sp : Nat → Int} {wr : World} (p : PlayI w B D b th h sp wr) (o : Obj) : PlayI w B D b th h sp (wr.alloc o) :=
  ⟨p.at_.grow (Grow.alloc (fun _ => False) _ _) (fun h => h), p.lv, p.ref.grow (Grow.alloc (fun _ => False) _ _) (fun h => h), p.ne, p.lb, p.g.trans ((Grow.alloc (fun _ => False) _ _).below (fun _ h => h.elim) (by have := p.at_.lt; have := p.lb; omega))⟩

theorem PlayI.newer {w : World} {B D b : Nat} {th : Int} {h : Bool} {sp : Nat → Int} {wr W : World} (p : PlayI w B D b th h sp wr) (n : Newer wr W) : PlayI w B D b th h sp W :=
  ⟨newer_lock p.at_ n, p.lv, p.ref.grow n (fun h => by have h : wr.heap.size ≤ D := h; have := p.ref.lt; omega), p.ne, p.lb, p.g.trans (n.below (fun k hk => by have hk : wr.heap.size ≤ k := hk; have := p.at_.lt; have := p.lb; omega) (by have := p.at_.lt; have := p.lb; omega))⟩

def zeros : Obj := .cells #[.int .i64 0, .int .i64 0, .int .i64 0, .int .i64 0, .int .i64 0, .int .i64 0, .int .i64 0, .int .i64 0, .int .i64 0] 60

theorem PlayI.act2 {w : World} {B D b : Nat} {th : Int} {h : Bool} {sp : Nat → Int} {wr W : World} {e : Ending} (p : PlayI w B D b th h sp wr) (a : ActPost (wr.alloc zeros) b e W) :
    ∃ b' th' h' sp', e = .returned (.tuple #[.pointer (some ⟨b', 0, none⟩), refV (RC th' h') sp', .bool true]) ∧ PlayA w B D b' th' h' sp' (RC th h) sp W ∧ RefAt W wr.heap.size 0 (fun _ => 0) ∧ b' ≠ wr.heap.size ∧ D ≠ wr.heap.size := by
  have a' := a
  obtain ⟨b', th', h', sp', rfl, pa⟩ := (p.alloc zeros).act a
  obtain ⟨b2, th2, h2, sp2, he, l2, v2, hb2, g⟩ := a'
  have lb := p.at_.lt
  have lD := p.ref.lt
  obtain ⟨r1, n1⟩ := ref_box wr 0 (fun _ => 0) (wr.alloc zeros) rfl
  have hz : (wr.alloc zeros).heap.size = wr.heap.size + 1 := by simp
  simp only [Ending.returned.injEq, Value.tuple.injEq, Array.mk.injEq, List.cons.injEq, Value.pointer.injEq, Option.some.injEq, Addr.mk.injEq] at he
  obtain ⟨⟨rfl, -⟩, -⟩ := he
  refine ⟨b', th', h', sp', rfl, pa, r1.grow g (fun h => by rcases h with h | h <;> omega), by rcases hb2 with rfl | hb2 <;> omega, by omega⟩

/-- behind a turn: as it was at D; at q the document's new -/
structure PlayB (w : World) (B D q : Nat) (b : Nat) (th : Int) (h : Bool) (sp : Nat → Int) (c : Int) (S : Nat → Int) (wr : World) : Prop where
  at_ : LockAt wr b th h sp
  lv : LV th h
  ref : RefAt wr D c S
  refq : RefAt wr q (RC th h) sp
  ne : b ≠ D
  neq : D ≠ q
  lb : B ≤ b
  g : Below B w wr

theorem PlayA.fresh {w : World} {B D b : Nat} {th : Int} {h : Bool} {sp : Nat → Int} {c : Int} {S : Nat → Int} {wr : World} (p : PlayA w B D b th h sp c S wr) :
    ∀ W, wr.alloc (.cells #[.int .i64 (RC th h), .int .i64 (sp 0), .int .i64 (sp 1), .int .i64 (sp 2), .int .i64 (sp 3), .int .i64 (sp 4), .int .i64 (sp 5), .int .i64 (sp 6), .int .i64 (sp 7)] 60) = W → PlayB w B D wr.heap.size b th h sp c S W := by
  intro W hW
  obtain ⟨r1, n1⟩ := ref_box wr _ _ W hW
  have lD := p.ref.lt
  have lb := p.at_.lt
  have hB := p.lb
  exact ⟨newer_lock p.at_ n1, p.lv, p.ref.grow n1 (fun h => by have h : wr.heap.size ≤ D := h; omega), r1, p.ne, by omega, p.lb, p.g.trans (n1.below (fun k hk => by have hk : wr.heap.size ≤ k := hk; omega) (by omega))⟩

theorem PlayA.put {w : World} {B D b q : Nat} {th : Int} {h : Bool} {sp : Nat → Int} {c : Int} {S : Nat → Int} {wr : World} (p : PlayA w B D b th h sp c S wr) (hq : RefAt wr q 0 (fun _ => 0)) (hb : b ≠ q) (hD : D ≠ q) (hB : B ≤ q) :
    PlayB w B D q b th h sp c S (refPut wr q (RC th h) sp) := by
  have g := grow_refPut wr q (RC th h) sp
  have lb := p.at_.lt
  have hB' := p.lb
  exact ⟨p.at_.grow g hb, p.lv, p.ref.grow g hD, hq.put _ _, p.ne, hD, p.lb, p.g.trans (g.below (fun k hk => by have hk : k = q := hk; omega) (by omega))⟩

theorem PlayB.close {w : World} {B D q b : Nat} {th : Int} {h : Bool} {sp : Nat → Int} {c : Int} {S : Nat → Int} {wr : World} (p : PlayB w B D q b th h sp c S wr) (hBD : B ≤ D) : PlayI w B D b th h sp (refPut wr D (RC th h) sp) := by
  have g := grow_refPut wr D (RC th h) sp
  have lb := p.at_.lt
  have hB' := p.lb
  exact ⟨p.at_.grow g p.ne, p.lv, p.ref.put _ _, p.ne, p.lb, p.g.trans (g.below (fun k hk => by have hk : k = D := hk; omega) (by omega))⟩

set_option maxRecDepth 100000 in
set_option maxHeartbeats 3200000 in
theorem lockPlays_any (sa : Option Addr) (n cap : Nat) (F G : Nat → Int) (w : World) (hA : PairsIn w sa n F G) :
    Calls Try.prog 8 #[.slice sa n cap] w fun e w' => e = .returned (.bool true) ∧ Below w.heap.size w w' := by
  have HA := Lib.hid hA
  clear hA
  by_cases hn : 60 < n
  · refine (callsIn_wide (n := 0)).1 ?_
    gi_enter Try.func8, Try.ntmps8
    gi_wp2_with fail
    refine (callsIn_wide.2 (works16 _)).mono ?_
    rintro e w1 ⟨rfl, hb1⟩
    gi_wp2
    go_ret
    exact ⟨rfl, hb1⟩
  · obtain ⟨B, hB⟩ : ∃ B, w.heap.size = B := ⟨_, rfl⟩
    have hn' : n ≤ 60 := by omega
    clear hn
    refine (callsIn_wide (n := 0)).1 ?_
    gi_enter Try.func8, Try.ntmps8
    gi_wp2_with fail
    refine (callsIn_wide.2 (lnew_any _)).mono ?_
    rintro e w1 ⟨rfl, l, g⟩
    rw [hB] at l ⊢
    have HB := Lib.hid hB
    have b1 : Below B w w1 := g.below (fun _ h => h.elim) (by omega)
    clear g hB
    gi_wp2_with fail
    obtain ⟨w2, hw2⟩ : ∃ w2, w1.alloc (.cells #[.int .i64 0, .int .i64 0, .int .i64 0, .int .i64 0, .int .i64 0, .int .i64 0, .int .i64 0, .int .i64 0, .int .i64 0] 60) = w2 := ⟨_, rfl⟩
    obtain ⟨r1, n3⟩ := ref_box w1 0 (fun _ => 0) w2 hw2
    have hsz : w2.heap.size = w1.heap.size + 1 := by rw [← hw2]; simp
    rw [hw2]
    clear hw2
    have lB := l.lt
    have p2 : PlayI w B w1.heap.size B 0 false (fun _ => 0) w2 := ⟨newer_lock l n3, ⟨fun h => (by cases h), fun _ => rfl⟩, r1, by omega, Nat.le_refl _, b1.trans (n3.below (fun k hk => by have hk : w1.heap.size ≤ k := hk; omega) (by omega))⟩
    have P2 := Lib.hid p2
    have HD := Lib.hid lB
    clear p2 l b1 r1 n3 hsz lB
    generalize w1.heap.size = D at *
    gi_loopw [3, 5] (fun l i wr => ∃ (k b : Nat) (th : Int) (h : Bool) (sp : Nat → Int), i = .int .i64 k ∧ l = .pointer (some ⟨b, 0, none⟩) ∧ k ≤ n ∧ PlayI w B D b th h sp wr)
      (fun _ i _ => n - (intOf i).toNat)
    case atStart => exact ⟨0, B, 0, false, _, rfl, rfl, Nat.zero_le _, P2.out⟩
    case round =>
      obtain ⟨k, b, th, h, sp, rfl, rfl, hk, hp⟩ := hrel
      have HP := Lib.hid hp
      clear hp
      by_cases hlt : k < n
      · have hA' := PairsIn.below HA.out (HB.out ▸ HP.out.g)
        obtain ⟨A, rfl, a0, a1⟩ := hA' k hlt
        clear hA'
        generalize F k = x at *
        generalize G k = y at *
        have mixed := mixedL
        have r := HP.out.ref
        have c0 := r.c0
        have c1 := r.c1
        have c2 := r.c2
        have c3 := r.c3
        have c4 := r.c4
        have c5 := r.c5
        have c6 := r.c6
        have c7 := r.c7
        have c8 := r.c8
        clear r
        generalize hc : RC th h = c at *
        have HC := Lib.hid hc
        clear hc
        gi_wp2_with fail
        have zD := HP.out.ref.lt
        have zA := World.block_lt_of_cell? _ _ a0
        (first | gi_region_with_o (first | (gi_at_call 30; have ha := act_any b th h sp x y wr.drew HP.out.drew.at_ HP.out.lv; rw [HC.out] at ha; unfold refV at ha; refine (callsIn_wide.2 ha).mono ?_; clear ha; rintro e w4 ha; obtain ⟨b', th', h', sp', rfl, p4⟩ := HP.out.drew.act ha; clear ha; unfold refV; have P4 := Lib.hid p4; clear p4) | (gi_at_call 30; have ha := act_any b th h sp x y (wr.drew.alloc zeros) (HP.out.drew.alloc zeros).at_ HP.out.lv; rw [HC.out] at ha; unfold refV at ha; refine (callsIn_wide.2 ha).mono ?_; clear ha; rintro e w4 ha; obtain ⟨b', th', h', sp', rfl, p4, r4, q4, d4⟩ := HP.out.drew.act2 ha; clear ha; unfold refV; have P4 := Lib.hid p4; clear p4; replace r4 : RefAt w4 wr.heap.size 0 (fun _ => 0) := r4; have Q4 := Lib.hid (And.intro r4 (And.intro q4 d4)); have d0 := r4.c0; have d1 := r4.c1; have d2 := r4.c2; have d3 := r4.c3; have d4 := r4.c4; have d5 := r4.c5; have d6 := r4.c6; have d7 := r4.c7; have d8 := r4.c8; have df := r4.f; clear r4 q4)) | fail)
        all_goals go_simp
        all_goals
          clear c0 c1 c2 c3 c4 c5 c6 c7 c8
          first
            | (obtain ⟨W5, hW5⟩ : ∃ W5, w4.alloc (.cells #[.int .i64 (RC th' h'), .int .i64 (sp' 0), .int .i64 (sp' 1), .int .i64 (sp' 2), .int .i64 (sp' 3), .int .i64 (sp' 4), .int .i64 (sp' 5), .int .i64 (sp' 6), .int .i64 (sp' 7)] 60) = W5 := ⟨_, rfl⟩
               rw [hW5]
               have p5 := P4.out.fresh W5 hW5
               clear hW5
               generalize w4.heap.size = q at *)
            | (obtain ⟨W5, hW5⟩ : ∃ W5, refPut w4 wr.heap.size (RC th' h') sp' = W5 := ⟨_, rfl⟩
               have p5 := P4.out.put Q4.out.1 Q4.out.2.1 Q4.out.2.2 (by have := HP.out.at_.lt; have := HP.out.lb; omega)
               rw [hW5] at p5
               unfold refPut at hW5
               rw [hW5]
               clear hW5 d0 d1 d2 d3 d5 d6 d7 d8 df
               generalize wr.heap.size = q at *)
          have P5 := Lib.hid p5
          have c0 := p5.ref.c0
          have c1 := p5.ref.c1
          have c2 := p5.ref.c2
          have c3 := p5.ref.c3
          have c4 := p5.ref.c4
          have c5 := p5.ref.c5
          have c6 := p5.ref.c6
          have c7 := p5.ref.c7
          have c8 := p5.ref.c8
          have cf := p5.ref.f
          have q0 := p5.refq.c0
          have q1 := p5.refq.c1
          have q2 := p5.refq.c2
          have q3 := p5.refq.c3
          have q4 := p5.refq.c4
          have q5 := p5.refq.c5
          have q6 := p5.refq.c6
          have q7 := p5.refq.c7
          have q8 := p5.refq.c8
          clear p5
          gi_wp2_with fail
          (first | gi_region_with_o (fail) | fail)
          go_simp
          obtain ⟨W6, hW6⟩ : ∃ W6, (refPut W5 D (RC th' h') sp').drew = W6 := ⟨_, rfl⟩
          have p6 := (P5.out.close (by have := HD.out; omega)).drew
          rw [hW6] at p6
          unfold refPut at hW6
          rw [hW6]
          clear hW6 c0 c1 c2 c3 c4 c5 c6 c7 c8 cf q0 q1 q2 q3 q4 q5 q6 q7 q8
          have P6 := Lib.hid p6
          have c0 := p6.ref.c0
          have c1 := p6.ref.c1
          have c2 := p6.ref.c2
          have c3 := p6.ref.c3
          have c4 := p6.ref.c4
          have c5 := p6.ref.c5
          have c6 := p6.ref.c6
          have c7 := p6.ref.c7
          have c8 := p6.ref.c8
          clear p6
          gi_wp2_with fail
          have hi := is_any b' th' h' sp' _ P6.out.at_ P6.out.lv
          unfold refV at hi
          refine (callsIn_wide.2 hi).mono ?_
          clear hi c0 c1 c2 c3 c4 c5 c6 c7 c8
          rintro e w7 ⟨rfl, n7⟩
          have N7 := Lib.hid n7
          clear n7
          gi_wp2_with fail
          go_roundw
          case rel => exact ⟨k + 1, b', th', h', sp', by go_num, rfl, by omega, P6.out.newer N7.out⟩
          case measure => simp [intOf]; omega
      · obtain rfl : k = n := by omega
        gi_wp2_with fail
        · obtain ⟨v0, hv0⟩ : ∃ v0, wr.alloc (.cells #[.int .i64 0, .bool false, .int .i64 0, .int .i64 0, .int .i64 0, .int .i64 0, .int .i64 0, .int .i64 0, .int .i64 0, .int .i64 0, .bool false] 68) = v0 := ⟨_, rfl⟩
          have hp : PlayI w B D b th h sp v0 := hv0 ▸ HP.out.alloc _
          have ho : LOff v0 (some ⟨wr.heap.size, 0, none⟩) := .inr ⟨_, rfl, by rw [← hv0]; simp [go_sem]⟩
          rw [hv0]
          clear hv0
          obtain ⟨pn, hpn⟩ : ∃ pn, some (Addr.mk wr.heap.size 0 none) = pn := ⟨_, rfl⟩
          rw [hpn] at ho ⊢
          have P0 := Lib.hid hp
          have O0 := Lib.hid ho
          clear hp ho hpn
          gi_wp2_with (first | (gi_at_call 25; refine (callsIn_wide.2 (lnum_any _ _)).mono ?_; rintro e w' ⟨rfl, rfl⟩))
          refine (callsIn_wide.2 (ltry_off pn 0 _ O0.out)).mono ?_
          rintro e v1 ⟨rfl, n⟩
          have O1 := Lib.hid (O0.out.newer n)
          have P1 := Lib.hid (P0.out.newer n)
          clear n O0 P0
          gi_wp2_with (first | (gi_at_call 25; refine (callsIn_wide.2 (lnum_any _ _)).mono ?_; rintro e w' ⟨rfl, rfl⟩))
          refine (callsIn_wide.2 (lspins_off pn 0 _ O1.out)).mono ?_
          rintro e v2 ⟨rfl, n⟩
          have O2 := Lib.hid (O1.out.newer n)
          have P2 := Lib.hid (P1.out.newer n)
          clear n O1 P1
          gi_wp2_with (first | (gi_at_call 25; refine (callsIn_wide.2 (lnum_any _ _)).mono ?_; rintro e w' ⟨rfl, rfl⟩))
          refine (callsIn_wide.2 (lbreak_off pn _ O2.out)).mono ?_
          rintro e v3 ⟨rfl, n⟩
          have O3 := Lib.hid (O2.out.newer n)
          have P3 := Lib.hid (P2.out.newer n)
          clear n O2 P2
          gi_wp2_with (first | (gi_at_call 25; refine (callsIn_wide.2 (lnum_any _ _)).mono ?_; rintro e w' ⟨rfl, rfl⟩))
          refine (callsIn_wide.2 (holder_off pn _ O3.out)).mono ?_
          rintro e v4 ⟨rfl, n⟩
          replace n : Newer v3 v4 := (Newer.refl _).ofGrow n
          have O4 := Lib.hid (O3.out.newer n)
          have P4 := Lib.hid (P3.out.newer n)
          clear n O3 P3
          gi_wp2_with (first | (gi_at_call 25; refine (callsIn_wide.2 (lnum_any _ _)).mono ?_; rintro e w' ⟨rfl, rfl⟩))
          refine (callsIn_wide.2 (lfree_off pn 0 _ O4.out)).mono ?_
          rintro e v5 ⟨rfl, n⟩
          have O5 := Lib.hid (O4.out.newer n)
          have P5 := Lib.hid (P4.out.newer n)
          clear n O4 P4
          gi_wp2_with (first | (gi_at_call 25; refine (callsIn_wide.2 (lnum_any _ _)).mono ?_; rintro e w' ⟨rfl, rfl⟩))
          refine (callsIn_wide.2 (lcopy_off pn _ O5.out)).mono ?_
          rintro e w'  ⟨rfl, rfl⟩
          gi_wp2_with (first | (gi_at_call 25; refine (callsIn_wide.2 (lnum_any _ _)).mono ?_; rintro e w' ⟨rfl, rfl⟩))
          refine (callsIn_wide.2 (lsame_offs pn none _ O5.out (.inl rfl))).mono ?_
          rintro e w'  ⟨rfl, rfl⟩
          gi_wp2_with (first | (gi_at_call 25; refine (callsIn_wide.2 (lnum_any _ _)).mono ?_; rintro e w' ⟨rfl, rfl⟩))
          refine (callsIn_wide.2 (lsame_at_off pn b _ O5.out P5.out.at_.c10)).mono ?_
          rintro e w'  ⟨rfl, rfl⟩
          gi_wp2_with (first | (gi_at_call 25; refine (callsIn_wide.2 (lnum_any _ _)).mono ?_; rintro e w' ⟨rfl, rfl⟩))
          refine (callsIn_wide.2 (lsame_off_at pn b _ O5.out P5.out.at_.c10)).mono ?_
          rintro e w'  ⟨rfl, rfl⟩
          gi_wp2_with (first | (gi_at_call 25; refine (callsIn_wide.2 (lnum_any _ _)).mono ?_; rintro e w' ⟨rfl, rfl⟩))
          refine (callsIn_wide.2 (works16 _)).mono ?_
          rintro e w9 ⟨rfl, hb9⟩
          have HB9 := Lib.hid hb9
          clear hb9
          gi_wp2_with fail
          go_ret
          refine ⟨rfl, ?_⟩
          rw [HB.out]
          exact P5.out.g.trans (HB9.out.mono (by have := P5.out.at_.lt; have := P5.out.lb; omega))
        · obtain ⟨pn, hpn⟩ : ∃ pn : Option Addr, none = pn := ⟨_, rfl⟩
          have ho : LOff wr pn := .inl hpn.symm
          rw [hpn]
          obtain ⟨v0, hv0⟩ : ∃ v0, wr = v0 := ⟨_, rfl⟩
          have P0 := HP
          have O0 := Lib.hid ho
          rw [hv0] at P0 O0 ⊢
          clear ho hpn hv0
          gi_wp2_with (first | (gi_at_call 25; refine (callsIn_wide.2 (lnum_any _ _)).mono ?_; rintro e w' ⟨rfl, rfl⟩))
          refine (callsIn_wide.2 (ltry_off pn 0 _ O0.out)).mono ?_
          rintro e v1 ⟨rfl, n⟩
          have O1 := Lib.hid (O0.out.newer n)
          have P1 := Lib.hid (P0.out.newer n)
          clear n O0 P0
          gi_wp2_with (first | (gi_at_call 25; refine (callsIn_wide.2 (lnum_any _ _)).mono ?_; rintro e w' ⟨rfl, rfl⟩))
          refine (callsIn_wide.2 (lspins_off pn 0 _ O1.out)).mono ?_
          rintro e v2 ⟨rfl, n⟩
          have O2 := Lib.hid (O1.out.newer n)
          have P2 := Lib.hid (P1.out.newer n)
          clear n O1 P1
          gi_wp2_with (first | (gi_at_call 25; refine (callsIn_wide.2 (lnum_any _ _)).mono ?_; rintro e w' ⟨rfl, rfl⟩))
          refine (callsIn_wide.2 (lbreak_off pn _ O2.out)).mono ?_
          rintro e v3 ⟨rfl, n⟩
          have O3 := Lib.hid (O2.out.newer n)
          have P3 := Lib.hid (P2.out.newer n)
          clear n O2 P2
          gi_wp2_with (first | (gi_at_call 25; refine (callsIn_wide.2 (lnum_any _ _)).mono ?_; rintro e w' ⟨rfl, rfl⟩))
          refine (callsIn_wide.2 (holder_off pn _ O3.out)).mono ?_
          rintro e v4 ⟨rfl, n⟩
          replace n : Newer v3 v4 := (Newer.refl _).ofGrow n
          have O4 := Lib.hid (O3.out.newer n)
          have P4 := Lib.hid (P3.out.newer n)
          clear n O3 P3
          gi_wp2_with (first | (gi_at_call 25; refine (callsIn_wide.2 (lnum_any _ _)).mono ?_; rintro e w' ⟨rfl, rfl⟩))
          refine (callsIn_wide.2 (lfree_off pn 0 _ O4.out)).mono ?_
          rintro e v5 ⟨rfl, n⟩
          have O5 := Lib.hid (O4.out.newer n)
          have P5 := Lib.hid (P4.out.newer n)
          clear n O4 P4
          gi_wp2_with (first | (gi_at_call 25; refine (callsIn_wide.2 (lnum_any _ _)).mono ?_; rintro e w' ⟨rfl, rfl⟩))
          refine (callsIn_wide.2 (lcopy_off pn _ O5.out)).mono ?_
          rintro e w'  ⟨rfl, rfl⟩
          gi_wp2_with (first | (gi_at_call 25; refine (callsIn_wide.2 (lnum_any _ _)).mono ?_; rintro e w' ⟨rfl, rfl⟩))
          refine (callsIn_wide.2 (lsame_offs pn none _ O5.out (.inl rfl))).mono ?_
          rintro e w'  ⟨rfl, rfl⟩
          gi_wp2_with (first | (gi_at_call 25; refine (callsIn_wide.2 (lnum_any _ _)).mono ?_; rintro e w' ⟨rfl, rfl⟩))
          refine (callsIn_wide.2 (lsame_at_off pn b _ O5.out P5.out.at_.c10)).mono ?_
          rintro e w'  ⟨rfl, rfl⟩
          gi_wp2_with (first | (gi_at_call 25; refine (callsIn_wide.2 (lnum_any _ _)).mono ?_; rintro e w' ⟨rfl, rfl⟩))
          refine (callsIn_wide.2 (lsame_off_at pn b _ O5.out P5.out.at_.c10)).mono ?_
          rintro e w'  ⟨rfl, rfl⟩
          gi_wp2_with (first | (gi_at_call 25; refine (callsIn_wide.2 (lnum_any _ _)).mono ?_; rintro e w' ⟨rfl, rfl⟩))
          refine (callsIn_wide.2 (works16 _)).mono ?_
          rintro e w9 ⟨rfl, hb9⟩
          have HB9 := Lib.hid hb9
          clear hb9
          gi_wp2_with fail
          go_ret
          refine ⟨rfl, ?_⟩
          rw [HB.out]
          exact P5.out.g.trans (HB9.out.mono (by have := P5.out.at_.lt; have := P5.out.lb; omega))

end Go.Proofs.Ytbfadogjkhoohaa
