/- the walk of waterlinelaw17.SeqHolds -/
import Derived.Test.YtbfadogjkhoohaaSeqK
namespace Go.Proofs.Ytbfadogjkhoohaa
open Go.RowKit
attribute [local go_sem] Oper.semAt_some undef

/-- an argument: a slice of pairs: a number and an unsigned one -/
def PairsU (w : World) (sa : Option Addr) (n : Nat) (F G : Nat → Int) : Prop :=
  ∀ i, i < n → ∃ A : Addr, sa = some A ∧ w.cell? (A.add (i * 2)) = some (.int .i64 (F i)) ∧ w.cell? ⟨(A.add (i * 2)).block, (A.add (i * 2)).off + 1, none⟩ = some (.int .u64 (G i)) ∧ 0 ≤ G i ∧ G i ≤ 18446744073709551615

theorem PairsU.below {w w' : World} {sa : Option Addr} {n : Nat} {F G : Nat → Int} (h : PairsU w sa n F G) {m : Nat} (hm : w.heap.size ≤ m) (g : Below m w w') : PairsU w' sa n F G := by
  intro i hi
  obtain ⟨A, rfl, h1, h2, h3⟩ := h i hi
  have l1 := World.block_lt_of_cell? _ _ h1
  have l2 := World.block_lt_of_cell? _ _ h2
  exact ⟨A, rfl, (World.cell?_of_block (g.block _ (by omega))).trans h1, (World.cell?_of_block (g.block _ (by omega))).trans h2, h3⟩

/-- which looks are good: those since the last Begin -/
def Looks (n : Int) (s : Nat) (L : List Int) : Prop := s ≤ L.length ∧ ∀ i (h : i < L.length), L[i] ≤ n ∧ ((n % 2 = 0 ∧ n = L[i]) ↔ s ≤ i)

theorem Looks.begin {n : Int} {s : Nat} {L : List Int} (h : Looks n s L) (hn : n % 2 = 0) : Looks (n + 1) L.length L :=
  ⟨Nat.le_refl _, fun i hi => ⟨by have := (h.2 i hi).1; omega, ⟨fun h => by omega, fun h => by omega⟩⟩⟩
theorem Looks.end_ {n : Int} {s : Nat} {L : List Int} (h : Looks n s L) (hn : n % 2 = 1) : Looks (n + 1) s L :=
  ⟨h.1, fun i hi => ⟨by have := (h.2 i hi).1; omega, ⟨fun h' => by have := (h.2 i hi).1; omega, fun h' => by have := ((h.2 i hi).2.2 h').1; omega⟩⟩⟩
theorem Looks.look {n : Int} {s : Nat} {L : List Int} (h : Looks n s L) (hn : n % 2 = 0) : Looks n s (L ++ [n]) := by
  refine ⟨by have := h.1; simp; omega, fun i hi => ?_⟩
  rw [List.length_append] at hi
  simp at hi
  by_cases hl : i < L.length
  · rw [List.getElem_append_left hl]
    exact h.2 i hl
  · obtain rfl : i = L.length := by omega
    simp only [List.getElem_concat_length]
    have := h.1
    exact ⟨by simp, ⟨fun _ => this, fun _ => ⟨hn, by simp⟩⟩⟩

/-- the sequence number at b; the looks in a row of our own -/
structure HoldW (w : World) (b : Nat) (n : Int) (v : Value) (L : List Int) (wr : World) : Prop where
  at_ : SeqAt wr b n
  row : wr.ownsRow (b + 1) 22 1 v L.length (L.map (.int .u64))
  g : Below b w wr

theorem HoldW.step {w : World} {b : Nat} {n n' : Int} {v : Value} {L : List Int} {wr W : World} (h : HoldW w b n v L wr) (s : SeqStep b n' wr W) : HoldW w b n' v L W :=
  have l := h.at_.lt
  ⟨s.at_, ownsRow_grow h.row s.grow (fun j hj => by have := (h.row.lt j hj).1; omega), h.g.trans (s.below (Nat.le_refl _) l)⟩

set_option maxRecDepth 100000 in
set_option maxHeartbeats 3200000 in
theorem seqHolds_any (sa : Option Addr) (N cap : Nat) (F G : Nat → Int) (w : World) (hA : PairsU w sa N F G) :
    Calls Try.prog 7 #[.slice sa N cap] w fun e w' => e = .returned (.bool true) ∧ Below w.heap.size w w' := by
  have HA := Lib.hid hA
  clear hA
  obtain ⟨i0, hi, hz0, hz1, hz2⟩ := info_parts Try.info22
  by_cases hn : 100 < N
  · refine (callsIn_wide (n := 0)).1 ?_
    gi_enter Try.func7, Try.ntmps7
    gi_wp2_with fail
    refine (callsIn_wide.2 (works17 _)).mono ?_
    rintro e w1 ⟨rfl, hb1⟩
    gi_wp2
    go_ret
    exact ⟨rfl, hb1⟩
  · obtain ⟨b, hB⟩ : ∃ b, w.heap.size = b := ⟨_, rfl⟩
    have hn' : N ≤ 100 := by omega
    clear hn
    refine (callsIn_wide (n := 0)).1 ?_
    gi_enter Try.func7, Try.ntmps7
    gi_wp2_with fail
    refine (callsIn_wide.2 (new_st _)).mono ?_
    rintro e w1 ⟨rfl, s, g, z⟩
    rw [hB] at s ⊢
    have h1 : HoldW w b 0 (.slice none 0 0) [] w1 := ⟨s, World.ownsRow_nil _ _ _ _, g.below (fun _ h => h.elim) (by omega)⟩
    have H1 := Lib.hid h1
    have HB := Lib.hid hB
    clear s g z h1 hB
    gi_wp2_with fail
    gi_loopw [4, 5, 6] (fun v u i wr => ∃ (k s : Nat) (n : Int) (L : List Int), i = .int .i64 k ∧ u = .int .i64 s ∧ k ≤ N ∧ 0 ≤ n ∧ n ≤ k ∧ L.length ≤ k ∧ Looks n s L ∧ HoldW w b n v L wr)
      (fun _ _ i _ => N - (intOf i).toNat)
    case atStart => exact ⟨0, 0, 0, [], rfl, rfl, Nat.zero_le _, by omega, by omega, Nat.le_refl _, ⟨Nat.le_refl _, fun i hi => absurd hi (Nat.not_lt_zero _)⟩, H1.out⟩
    case round =>
      obtain ⟨k, s, n, L, rfl, rfl, hk, hn0, hnk, hLk, hL, hw⟩ := hrel
      have HL := Lib.hid hL
      have HW := Lib.hid hw
      clear hL hw
      by_cases hlt : k < N
      · obtain ⟨A, rfl, a0, -⟩ := (HA.out.below (Nat.le_of_eq HB.out) HW.out.g) k hlt
        generalize F k = x at *
        obtain ⟨va, vc, rfl⟩ := ownsRow_slice HW.out.row
        have hpar : n % 2 = 0 ∨ n % 2 = 1 := by omega
        rcases hpar with hp | hp
        · gi_wp2_with fail
          · -- Begin
            refine (callsIn_wide.2 (begin_st _ _ _ HW.out.at_ hn0 (by omega) hp)).mono ?_
            rintro e w2 ⟨rfl, st⟩
            have H2 := Lib.hid (HW.out.step st)
            have L2 := Lib.hid (HL.out.begin hp)
            clear st a0
            have q0 : 0 ≤ n + 1 := by omega
            have q1 : n + 1 ≤ (k : Int) + 1 := by omega
            gi_wp2_with (first | (gi_at_call 18; refine (callsIn_wide.2 (num_any _ _)).mono ?_; rintro e w' ⟨rfl, rfl⟩))
            gi_loopw [11] (fun j wr2 => ∃ j' : Nat, j = .int .i64 j' ∧ j' ≤ L.length ∧ HoldW w b ((n + 1)) (.slice va (L.length) vc) L wr2) (fun j _ => L.length - (intOf j).toNat)
            case atStart => exact ⟨0, rfl, Nat.zero_le _, H2.out⟩
            case round =>
              obtain ⟨j, rfl, hj, hw2⟩ := hrel
              have HW2 := Lib.hid hw2
              clear hw2
              by_cases hjl : j < L.length
              · have lk := L2.out.2 j hjl
                have hrw := HW2.out.row
                obtain ⟨g, hg⟩ : ∃ g, va = some (Addr.mk g 0 none) := by
                  rcases hrw.2 with ⟨h, h0⟩ | ⟨g, cap, cur, h, _⟩
                  · exact absurd h0 (by omega)
                  · exact ⟨g, (Value.slice.inj h).1⟩
                have hxc : wr.cell? ⟨g, j, none⟩ = some (.int .u64 (L[j]'hjl)) := by
                  rw [hg] at hrw
                  rw [hrw.cellAt j (by omega), List.getElem?_map, List.getElem?_eq_getElem hjl]
                  rfl
                subst hg
                clear hrw
                obtain ⟨y, hy⟩ : ∃ y, L[j]'hjl = y := ⟨_, rfl⟩
                rw [hy] at lk hxc
                clear hy
                by_cases hsj : L.length ≤ j
                all_goals
                  obtain ⟨d, hd⟩ : ∃ d, d = ((n + 1) % 2 == 0 && (n + 1) == y) := ⟨_, rfl⟩
                  have hd' : d = decide (L.length ≤ j) := by
                    rw [hd, Bool.eq_iff_iff]
                    simp only [Bool.and_eq_true, beq_iff_eq, decide_eq_true_eq]
                    exact lk.2
                  have HD := Lib.hid hd
                  simp only [hsj, decide_true, decide_false] at hd'
                  subst hd'
                  clear lk hd
                  gi_wp2_with fail
                  refine (callsIn_wide.2 (good_st _ ((n + 1)) _ _ HW2.out.at_ q0 (by omega))).mono ?_
                  rintro e w7 ⟨rfl, st⟩
                  rw [← HD.out]
                  have H7 := Lib.hid (HW2.out.step st)
                  clear st hxc HD
                  gi_wp2_with fail
                  go_roundw
                  case rel => exact ⟨j + 1, by go_num, by omega, H7.out⟩
                  case measure => simp [intOf]; omega
              · gi_wp2_with fail
                go_roundw
                case rel => exact ⟨k + 1, L.length, (n + 1), L, by go_num, rfl, by omega, q0, by omega, by omega, L2.out, HW2.out⟩
                case measure => simp [intOf]; omega
          · refine (callsIn_wide.2 (end_bad _ _ _ HW.out.at_ hn0 hp)).mono ?_
            rintro e w2 ⟨rfl, rfl⟩
            have H2 := HW
            have L2 := HL
            clear a0
            have q0 : 0 ≤ n := by omega
            have q1 : n ≤ (k : Int) + 1 := by omega
            gi_wp2_with (first | (gi_at_call 18; refine (callsIn_wide.2 (num_any _ _)).mono ?_; rintro e w' ⟨rfl, rfl⟩))
            gi_loopw [11] (fun j wr2 => ∃ j' : Nat, j = .int .i64 j' ∧ j' ≤ L.length ∧ HoldW w b (n) (.slice va (L.length) vc) L wr2) (fun j _ => L.length - (intOf j).toNat)
            case atStart => exact ⟨0, rfl, Nat.zero_le _, H2.out⟩
            case round =>
              obtain ⟨j, rfl, hj, hw2⟩ := hrel
              have HW2 := Lib.hid hw2
              clear hw2
              by_cases hjl : j < L.length
              · have lk := L2.out.2 j hjl
                have hrw := HW2.out.row
                obtain ⟨g, hg⟩ : ∃ g, va = some (Addr.mk g 0 none) := by
                  rcases hrw.2 with ⟨h, h0⟩ | ⟨g, cap, cur, h, _⟩
                  · exact absurd h0 (by omega)
                  · exact ⟨g, (Value.slice.inj h).1⟩
                have hxc : wr.cell? ⟨g, j, none⟩ = some (.int .u64 (L[j]'hjl)) := by
                  rw [hg] at hrw
                  rw [hrw.cellAt j (by omega), List.getElem?_map, List.getElem?_eq_getElem hjl]
                  rfl
                subst hg
                clear hrw
                obtain ⟨y, hy⟩ : ∃ y, L[j]'hjl = y := ⟨_, rfl⟩
                rw [hy] at lk hxc
                clear hy
                by_cases hsj : s ≤ j
                all_goals
                  obtain ⟨d, hd⟩ : ∃ d, d = (n % 2 == 0 && n == y) := ⟨_, rfl⟩
                  have hd' : d = decide (s ≤ j) := by
                    rw [hd, Bool.eq_iff_iff]
                    simp only [Bool.and_eq_true, beq_iff_eq, decide_eq_true_eq]
                    exact lk.2
                  have HD := Lib.hid hd
                  simp only [hsj, decide_true, decide_false] at hd'
                  subst hd'
                  clear lk hd
                  gi_wp2_with fail
                  refine (callsIn_wide.2 (good_st _ (n) _ _ HW2.out.at_ q0 (by omega))).mono ?_
                  rintro e w7 ⟨rfl, st⟩
                  rw [← HD.out]
                  have H7 := Lib.hid (HW2.out.step st)
                  clear st hxc HD
                  gi_wp2_with fail
                  go_roundw
                  case rel => exact ⟨j + 1, by go_num, by omega, H7.out⟩
                  case measure => simp [intOf]; omega
              · gi_wp2_with fail
                go_roundw
                case rel => exact ⟨k + 1, s, n, L, by go_num, rfl, by omega, q0, by omega, by omega, L2.out, HW2.out⟩
                case measure => simp [intOf]; omega
          · refine (callsIn_wide.2 (settle_st _ _ _ HW.out.at_ hn0 (by omega))).mono ?_
            rintro e w2 ⟨rfl, st⟩
            rw [hp, Int.add_zero] at st
            have H2 := Lib.hid (HW.out.step st)
            have L2 := HL
            clear st a0
            have q0 : 0 ≤ n := by omega
            have q1 : n ≤ (k : Int) + 1 := by omega
            gi_wp2_with (first | (gi_at_call 18; refine (callsIn_wide.2 (num_any _ _)).mono ?_; rintro e w' ⟨rfl, rfl⟩))
            gi_loopw [11] (fun j wr2 => ∃ j' : Nat, j = .int .i64 j' ∧ j' ≤ L.length ∧ HoldW w b (n) (.slice va (L.length) vc) L wr2) (fun j _ => L.length - (intOf j).toNat)
            case atStart => exact ⟨0, rfl, Nat.zero_le _, H2.out⟩
            case round =>
              obtain ⟨j, rfl, hj, hw2⟩ := hrel
              have HW2 := Lib.hid hw2
              clear hw2
              by_cases hjl : j < L.length
              · have lk := L2.out.2 j hjl
                have hrw := HW2.out.row
                obtain ⟨g, hg⟩ : ∃ g, va = some (Addr.mk g 0 none) := by
                  rcases hrw.2 with ⟨h, h0⟩ | ⟨g, cap, cur, h, _⟩
                  · exact absurd h0 (by omega)
                  · exact ⟨g, (Value.slice.inj h).1⟩
                have hxc : wr.cell? ⟨g, j, none⟩ = some (.int .u64 (L[j]'hjl)) := by
                  rw [hg] at hrw
                  rw [hrw.cellAt j (by omega), List.getElem?_map, List.getElem?_eq_getElem hjl]
                  rfl
                subst hg
                clear hrw
                obtain ⟨y, hy⟩ : ∃ y, L[j]'hjl = y := ⟨_, rfl⟩
                rw [hy] at lk hxc
                clear hy
                by_cases hsj : s ≤ j
                all_goals
                  obtain ⟨d, hd⟩ : ∃ d, d = (n % 2 == 0 && n == y) := ⟨_, rfl⟩
                  have hd' : d = decide (s ≤ j) := by
                    rw [hd, Bool.eq_iff_iff]
                    simp only [Bool.and_eq_true, beq_iff_eq, decide_eq_true_eq]
                    exact lk.2
                  have HD := Lib.hid hd
                  simp only [hsj, decide_true, decide_false] at hd'
                  subst hd'
                  clear lk hd
                  gi_wp2_with fail
                  refine (callsIn_wide.2 (good_st _ (n) _ _ HW2.out.at_ q0 (by omega))).mono ?_
                  rintro e w7 ⟨rfl, st⟩
                  rw [← HD.out]
                  have H7 := Lib.hid (HW2.out.step st)
                  clear st hxc HD
                  gi_wp2_with fail
                  go_roundw
                  case rel => exact ⟨j + 1, by go_num, by omega, H7.out⟩
                  case measure => simp [intOf]; omega
              · gi_wp2_with fail
                go_roundw
                case rel => exact ⟨k + 1, s, n, L, by go_num, rfl, by omega, q0, by omega, by omega, L2.out, HW2.out⟩
                case measure => simp [intOf]; omega
          · refine (callsIn_wide.2 (look_ok _ _ _ HW.out.at_ hn0 (by omega) hp)).mono ?_
            rintro e w2 ⟨rfl, rfl⟩
            have hrow := HW.out.row
            have lb := HW.out.at_.lt
            gi_wp2_with (first
              | (gi_at_call 18; refine (callsIn_wide.2 (num_any _ _)).mono ?_; rintro e w' ⟨rfl, rfl⟩)
              | (gi_at_builtin; refine wpListIn_append_own _ rfl _ _ 23 rfl (b + 1) 22 i0 (.int .u64 0) 1 8 Try.underlying23 hi hz0 hz1 hz2 rfl (by decide) _ _ _ rfl (hrow.alloc _) ⟨wr.heap.size, 0, none⟩ 1 1 [.int .u64 n] rfl rfl ?c1 ?c2 ?c3 ?c4 ?c5 ?_))
            case c1 =>
              intro j u hj
              match j, hj with
              | 0, hj => simp at hj; subst hj; simp [Addr.add]
            case c2 => intro u hu; simp at hu; subst hu; rfl
            case c3 => unfold maxLen; omega
            case c4 => omega
            case c5 => simp; omega
            intro v' w4 hown' hgrow _
            have g4 : Grow (fun j => some j = (Value.slice va L.length vc).ownBlock) (wr.alloc (.cells #[.int .u64 n] 22)) w4 := ⟨hgrow.os, hgrow.tape, hgrow.output, hgrow.size, fun j h1 h2 => hgrow.block j h1 h2⟩
            have hnb : ∀ j, (Value.slice va L.length vc).ownBlock = some j → b + 1 ≤ j := fun j hj => (hrow.lt j hj).1
            have h2 : HoldW w b n v' (L ++ [n]) w4 := ⟨((HW.out.at_.grow (Grow.alloc (fun _ => False) _ _) (fun h => h)).grow g4 (fun h => by have := hnb _ h.symm; omega)), by
              have h := hown'
              rw [show L.length + 1 = (L ++ [n]).length by simp, show L.map (Value.int .u64) ++ [Value.int .u64 n] = (L ++ [n]).map (Value.int .u64) by simp] at h
              exact h, (HW.out.g.trans ((Grow.alloc (fun _ => False) _ _).below (fun _ h => h.elim) (by omega))).trans (g4.below (fun j h => by have := hnb _ h.symm; omega) (by simp; omega))⟩
            have l2 := HL.out.look hp
            have q2 : (L ++ [n]).length ≤ k + 1 := by simp; omega
            clear hown' hgrow g4 hnb hrow a0
            generalize L ++ [n] = L' at *
            obtain ⟨va', vc', rfl⟩ := ownsRow_slice h2.row
            have H2 := Lib.hid h2
            have L2 := Lib.hid l2
            have q0 : 0 ≤ n := hn0
            have q1 : n ≤ (k : Int) + 1 := by omega
            clear h2 l2
            gi_wp2_with (first | (gi_at_call 18; refine (callsIn_wide.2 (num_any _ _)).mono ?_; rintro e w' ⟨rfl, rfl⟩))
            gi_loopw [11] (fun j wr2 => ∃ j' : Nat, j = .int .i64 j' ∧ j' ≤ L'.length ∧ HoldW w b (n) (.slice va' (L'.length) vc') L' wr2) (fun j _ => L'.length - (intOf j).toNat)
            case atStart => exact ⟨0, rfl, Nat.zero_le _, H2.out⟩
            case round =>
              obtain ⟨j, rfl, hj, hw2⟩ := hrel
              have HW2 := Lib.hid hw2
              clear hw2
              by_cases hjl : j < L'.length
              · have lk := L2.out.2 j hjl
                have hrw := HW2.out.row
                obtain ⟨g, hg⟩ : ∃ g, va' = some (Addr.mk g 0 none) := by
                  rcases hrw.2 with ⟨h, h0⟩ | ⟨g, cap, cur, h, _⟩
                  · exact absurd h0 (by omega)
                  · exact ⟨g, (Value.slice.inj h).1⟩
                have hxc : wr.cell? ⟨g, j, none⟩ = some (.int .u64 (L'[j]'hjl)) := by
                  rw [hg] at hrw
                  rw [hrw.cellAt j (by omega), List.getElem?_map, List.getElem?_eq_getElem hjl]
                  rfl
                subst hg
                clear hrw
                obtain ⟨y, hy⟩ : ∃ y, L'[j]'hjl = y := ⟨_, rfl⟩
                rw [hy] at lk hxc
                clear hy
                by_cases hsj : s ≤ j
                all_goals
                  obtain ⟨d, hd⟩ : ∃ d, d = (n % 2 == 0 && n == y) := ⟨_, rfl⟩
                  have hd' : d = decide (s ≤ j) := by
                    rw [hd, Bool.eq_iff_iff]
                    simp only [Bool.and_eq_true, beq_iff_eq, decide_eq_true_eq]
                    exact lk.2
                  have HD := Lib.hid hd
                  simp only [hsj, decide_true, decide_false] at hd'
                  subst hd'
                  clear lk hd
                  gi_wp2_with fail
                  refine (callsIn_wide.2 (good_st _ (n) _ _ HW2.out.at_ q0 (by omega))).mono ?_
                  rintro e w7 ⟨rfl, st⟩
                  rw [← HD.out]
                  have H7 := Lib.hid (HW2.out.step st)
                  clear st hxc HD
                  gi_wp2_with fail
                  go_roundw
                  case rel => exact ⟨j + 1, by go_num, by omega, H7.out⟩
                  case measure => simp [intOf]; omega
              · gi_wp2_with fail
                go_roundw
                case rel => exact ⟨k + 1, s, n, L', by go_num, rfl, by omega, q0, by omega, by omega, L2.out, HW2.out⟩
                case measure => simp [intOf]; omega
        · gi_wp2_with fail
          · refine (callsIn_wide.2 (begin_bad _ _ _ HW.out.at_ hn0 hp)).mono ?_
            rintro e w2 ⟨rfl, rfl⟩
            have H2 := HW
            have L2 := HL
            clear a0
            have q0 : 0 ≤ n := by omega
            have q1 : n ≤ (k : Int) + 1 := by omega
            gi_wp2_with (first | (gi_at_call 18; refine (callsIn_wide.2 (num_any _ _)).mono ?_; rintro e w' ⟨rfl, rfl⟩))
            gi_loopw [11] (fun j wr2 => ∃ j' : Nat, j = .int .i64 j' ∧ j' ≤ L.length ∧ HoldW w b (n) (.slice va (L.length) vc) L wr2) (fun j _ => L.length - (intOf j).toNat)
            case atStart => exact ⟨0, rfl, Nat.zero_le _, H2.out⟩
            case round =>
              obtain ⟨j, rfl, hj, hw2⟩ := hrel
              have HW2 := Lib.hid hw2
              clear hw2
              by_cases hjl : j < L.length
              · have lk := L2.out.2 j hjl
                have hrw := HW2.out.row
                obtain ⟨g, hg⟩ : ∃ g, va = some (Addr.mk g 0 none) := by
                  rcases hrw.2 with ⟨h, h0⟩ | ⟨g, cap, cur, h, _⟩
                  · exact absurd h0 (by omega)
                  · exact ⟨g, (Value.slice.inj h).1⟩
                have hxc : wr.cell? ⟨g, j, none⟩ = some (.int .u64 (L[j]'hjl)) := by
                  rw [hg] at hrw
                  rw [hrw.cellAt j (by omega), List.getElem?_map, List.getElem?_eq_getElem hjl]
                  rfl
                subst hg
                clear hrw
                obtain ⟨y, hy⟩ : ∃ y, L[j]'hjl = y := ⟨_, rfl⟩
                rw [hy] at lk hxc
                clear hy
                by_cases hsj : s ≤ j
                all_goals
                  obtain ⟨d, hd⟩ : ∃ d, d = (n % 2 == 0 && n == y) := ⟨_, rfl⟩
                  have hd' : d = decide (s ≤ j) := by
                    rw [hd, Bool.eq_iff_iff]
                    simp only [Bool.and_eq_true, beq_iff_eq, decide_eq_true_eq]
                    exact lk.2
                  have HD := Lib.hid hd
                  simp only [hsj, decide_true, decide_false] at hd'
                  subst hd'
                  clear lk hd
                  gi_wp2_with fail
                  refine (callsIn_wide.2 (good_st _ (n) _ _ HW2.out.at_ q0 (by omega))).mono ?_
                  rintro e w7 ⟨rfl, st⟩
                  rw [← HD.out]
                  have H7 := Lib.hid (HW2.out.step st)
                  clear st hxc HD
                  gi_wp2_with fail
                  go_roundw
                  case rel => exact ⟨j + 1, by go_num, by omega, H7.out⟩
                  case measure => simp [intOf]; omega
              · gi_wp2_with fail
                go_roundw
                case rel => exact ⟨k + 1, s, n, L, by go_num, rfl, by omega, q0, by omega, by omega, L2.out, HW2.out⟩
                case measure => simp [intOf]; omega
          · refine (callsIn_wide.2 (end_st _ _ _ HW.out.at_ hn0 (by omega) hp)).mono ?_
            rintro e w2 ⟨rfl, st⟩
            have H2 := Lib.hid (HW.out.step st)
            have L2 := Lib.hid (HL.out.end_ hp)
            clear st a0
            have q0 : 0 ≤ n + 1 := by omega
            have q1 : n + 1 ≤ (k : Int) + 1 := by omega
            gi_wp2_with (first | (gi_at_call 18; refine (callsIn_wide.2 (num_any _ _)).mono ?_; rintro e w' ⟨rfl, rfl⟩))
            gi_loopw [11] (fun j wr2 => ∃ j' : Nat, j = .int .i64 j' ∧ j' ≤ L.length ∧ HoldW w b ((n + 1)) (.slice va (L.length) vc) L wr2) (fun j _ => L.length - (intOf j).toNat)
            case atStart => exact ⟨0, rfl, Nat.zero_le _, H2.out⟩
            case round =>
              obtain ⟨j, rfl, hj, hw2⟩ := hrel
              have HW2 := Lib.hid hw2
              clear hw2
              by_cases hjl : j < L.length
              · have lk := L2.out.2 j hjl
                have hrw := HW2.out.row
                obtain ⟨g, hg⟩ : ∃ g, va = some (Addr.mk g 0 none) := by
                  rcases hrw.2 with ⟨h, h0⟩ | ⟨g, cap, cur, h, _⟩
                  · exact absurd h0 (by omega)
                  · exact ⟨g, (Value.slice.inj h).1⟩
                have hxc : wr.cell? ⟨g, j, none⟩ = some (.int .u64 (L[j]'hjl)) := by
                  rw [hg] at hrw
                  rw [hrw.cellAt j (by omega), List.getElem?_map, List.getElem?_eq_getElem hjl]
                  rfl
                subst hg
                clear hrw
                obtain ⟨y, hy⟩ : ∃ y, L[j]'hjl = y := ⟨_, rfl⟩
                rw [hy] at lk hxc
                clear hy
                by_cases hsj : s ≤ j
                all_goals
                  obtain ⟨d, hd⟩ : ∃ d, d = ((n + 1) % 2 == 0 && (n + 1) == y) := ⟨_, rfl⟩
                  have hd' : d = decide (s ≤ j) := by
                    rw [hd, Bool.eq_iff_iff]
                    simp only [Bool.and_eq_true, beq_iff_eq, decide_eq_true_eq]
                    exact lk.2
                  have HD := Lib.hid hd
                  simp only [hsj, decide_true, decide_false] at hd'
                  subst hd'
                  clear lk hd
                  gi_wp2_with fail
                  refine (callsIn_wide.2 (good_st _ ((n + 1)) _ _ HW2.out.at_ q0 (by omega))).mono ?_
                  rintro e w7 ⟨rfl, st⟩
                  rw [← HD.out]
                  have H7 := Lib.hid (HW2.out.step st)
                  clear st hxc HD
                  gi_wp2_with fail
                  go_roundw
                  case rel => exact ⟨j + 1, by go_num, by omega, H7.out⟩
                  case measure => simp [intOf]; omega
              · gi_wp2_with fail
                go_roundw
                case rel => exact ⟨k + 1, s, (n + 1), L, by go_num, rfl, by omega, q0, by omega, by omega, L2.out, HW2.out⟩
                case measure => simp [intOf]; omega
          · refine (callsIn_wide.2 (settle_st _ _ _ HW.out.at_ hn0 (by omega))).mono ?_
            rintro e w2 ⟨rfl, st⟩
            rw [hp] at st
            have H2 := Lib.hid (HW.out.step st)
            have L2 := Lib.hid (HL.out.end_ hp)
            clear st a0
            have q0 : 0 ≤ n + 1 := by omega
            have q1 : n + 1 ≤ (k : Int) + 1 := by omega
            gi_wp2_with (first | (gi_at_call 18; refine (callsIn_wide.2 (num_any _ _)).mono ?_; rintro e w' ⟨rfl, rfl⟩))
            gi_loopw [11] (fun j wr2 => ∃ j' : Nat, j = .int .i64 j' ∧ j' ≤ L.length ∧ HoldW w b ((n + 1)) (.slice va (L.length) vc) L wr2) (fun j _ => L.length - (intOf j).toNat)
            case atStart => exact ⟨0, rfl, Nat.zero_le _, H2.out⟩
            case round =>
              obtain ⟨j, rfl, hj, hw2⟩ := hrel
              have HW2 := Lib.hid hw2
              clear hw2
              by_cases hjl : j < L.length
              · have lk := L2.out.2 j hjl
                have hrw := HW2.out.row
                obtain ⟨g, hg⟩ : ∃ g, va = some (Addr.mk g 0 none) := by
                  rcases hrw.2 with ⟨h, h0⟩ | ⟨g, cap, cur, h, _⟩
                  · exact absurd h0 (by omega)
                  · exact ⟨g, (Value.slice.inj h).1⟩
                have hxc : wr.cell? ⟨g, j, none⟩ = some (.int .u64 (L[j]'hjl)) := by
                  rw [hg] at hrw
                  rw [hrw.cellAt j (by omega), List.getElem?_map, List.getElem?_eq_getElem hjl]
                  rfl
                subst hg
                clear hrw
                obtain ⟨y, hy⟩ : ∃ y, L[j]'hjl = y := ⟨_, rfl⟩
                rw [hy] at lk hxc
                clear hy
                by_cases hsj : s ≤ j
                all_goals
                  obtain ⟨d, hd⟩ : ∃ d, d = ((n + 1) % 2 == 0 && (n + 1) == y) := ⟨_, rfl⟩
                  have hd' : d = decide (s ≤ j) := by
                    rw [hd, Bool.eq_iff_iff]
                    simp only [Bool.and_eq_true, beq_iff_eq, decide_eq_true_eq]
                    exact lk.2
                  have HD := Lib.hid hd
                  simp only [hsj, decide_true, decide_false] at hd'
                  subst hd'
                  clear lk hd
                  gi_wp2_with fail
                  refine (callsIn_wide.2 (good_st _ ((n + 1)) _ _ HW2.out.at_ q0 (by omega))).mono ?_
                  rintro e w7 ⟨rfl, st⟩
                  rw [← HD.out]
                  have H7 := Lib.hid (HW2.out.step st)
                  clear st hxc HD
                  gi_wp2_with fail
                  go_roundw
                  case rel => exact ⟨j + 1, by go_num, by omega, H7.out⟩
                  case measure => simp [intOf]; omega
              · gi_wp2_with fail
                go_roundw
                case rel => exact ⟨k + 1, s, (n + 1), L, by go_num, rfl, by omega, q0, by omega, by omega, L2.out, HW2.out⟩
                case measure => simp [intOf]; omega
          · refine (callsIn_wide.2 (look_bad _ _ _ HW.out.at_ hn0 hp)).mono ?_
            rintro e w2 ⟨rfl, rfl⟩
            have H2 := HW
            have L2 := HL
            clear a0
            have q0 : 0 ≤ n := by omega
            have q1 : n ≤ (k : Int) + 1 := by omega
            gi_wp2_with (first | (gi_at_call 18; refine (callsIn_wide.2 (num_any _ _)).mono ?_; rintro e w' ⟨rfl, rfl⟩))
            gi_loopw [11] (fun j wr2 => ∃ j' : Nat, j = .int .i64 j' ∧ j' ≤ L.length ∧ HoldW w b (n) (.slice va (L.length) vc) L wr2) (fun j _ => L.length - (intOf j).toNat)
            case atStart => exact ⟨0, rfl, Nat.zero_le _, H2.out⟩
            case round =>
              obtain ⟨j, rfl, hj, hw2⟩ := hrel
              have HW2 := Lib.hid hw2
              clear hw2
              by_cases hjl : j < L.length
              · have lk := L2.out.2 j hjl
                have hrw := HW2.out.row
                obtain ⟨g, hg⟩ : ∃ g, va = some (Addr.mk g 0 none) := by
                  rcases hrw.2 with ⟨h, h0⟩ | ⟨g, cap, cur, h, _⟩
                  · exact absurd h0 (by omega)
                  · exact ⟨g, (Value.slice.inj h).1⟩
                have hxc : wr.cell? ⟨g, j, none⟩ = some (.int .u64 (L[j]'hjl)) := by
                  rw [hg] at hrw
                  rw [hrw.cellAt j (by omega), List.getElem?_map, List.getElem?_eq_getElem hjl]
                  rfl
                subst hg
                clear hrw
                obtain ⟨y, hy⟩ : ∃ y, L[j]'hjl = y := ⟨_, rfl⟩
                rw [hy] at lk hxc
                clear hy
                by_cases hsj : s ≤ j
                all_goals
                  obtain ⟨d, hd⟩ : ∃ d, d = (n % 2 == 0 && n == y) := ⟨_, rfl⟩
                  have hd' : d = decide (s ≤ j) := by
                    rw [hd, Bool.eq_iff_iff]
                    simp only [Bool.and_eq_true, beq_iff_eq, decide_eq_true_eq]
                    exact lk.2
                  have HD := Lib.hid hd
                  simp only [hsj, decide_true, decide_false] at hd'
                  subst hd'
                  clear lk hd
                  gi_wp2_with fail
                  refine (callsIn_wide.2 (good_st _ (n) _ _ HW2.out.at_ q0 (by omega))).mono ?_
                  rintro e w7 ⟨rfl, st⟩
                  rw [← HD.out]
                  have H7 := Lib.hid (HW2.out.step st)
                  clear st hxc HD
                  gi_wp2_with fail
                  go_roundw
                  case rel => exact ⟨j + 1, by go_num, by omega, H7.out⟩
                  case measure => simp [intOf]; omega
              · gi_wp2_with fail
                go_roundw
                case rel => exact ⟨k + 1, s, n, L, by go_num, rfl, by omega, q0, by omega, by omega, L2.out, HW2.out⟩
                case measure => simp [intOf]; omega
      · obtain rfl : k = N := by omega
        gi_wp2_with fail
        refine (callsIn_wide.2 (works17 _)).mono ?_
        rintro e w2 ⟨rfl, hb2⟩
        gi_wp2
        go_ret
        refine ⟨rfl, ?_⟩
        rw [HB.out]
        exact HW.out.g.trans (hb2.mono (by have := HW.out.at_.lt; omega))

end Go.Proofs.Ytbfadogjkhoohaa
