/- contracts: waterlinelaw17.act; on no number -/
import Derived.Test.YtbfadogjkhoohaaSeqL
import Derived.Deep.RegionHeld3
import Derived.Handy
namespace Go.Proofs.Ytbfadogjkhoohaa
open Go.RowKit
attribute [local go_sem] Oper.semAt_some undef

/-- no number: nil, or one of all zeros -/
def SOff (w : World) (p : Option Addr) : Prop := p = none ∨ ∃ b : Nat, p = some ⟨b, 0, none⟩ ∧ w.cell? ⟨b, 1, none⟩ = some (.bool false)

theorem SOff.grow {own : Nat → Prop} {w W : World} {p : Option Addr} (h : SOff w p) (g : Grow own w W) (hn : ∀ b, own b → w.heap.size ≤ b) : SOff W p := by
  rcases h with rfl | ⟨b, rfl, h⟩
  · exact .inl rfl
  · have hb : b < w.heap.size := by have := World.block_lt_of_cell? _ _ h; simpa using this
    exact .inr ⟨b, rfl, (g.cell (p := ⟨b, 1, none⟩) hb (fun o => by have := hn _ o; have : w.heap.size ≤ b := this; omega)).trans h⟩

section
variable (p : Option Addr) (w : World) (h : SOff w p)
include h
theorem begin_no : Calls Try.prog 15 #[.pointer p] w fun e w' => e = .returned (.tuple #[.int .u64 0, .int .i64 1]) ∧ w = w' := by
  rcases h with rfl | ⟨b, rfl, h⟩
  · exact begin_nil w
  · exact begin_off b w h
theorem end_no : Calls Try.prog 16 #[.pointer p] w fun e w' => e = .returned (.tuple #[.int .u64 0, .int .i64 1]) ∧ w = w' := by
  rcases h with rfl | ⟨b, rfl, h⟩
  · exact end_nil w
  · exact end_off b w h
theorem look_no : Calls Try.prog 17 #[.pointer p] w fun e w' => e = .returned (.tuple #[.int .u64 0, .int .i64 1]) ∧ w = w' := by
  rcases h with rfl | ⟨b, rfl, h⟩
  · exact look_nil w
  · exact look_off b w h
theorem good_no (x : Int) : Calls Try.prog 20 #[.pointer p, .int .u64 x] w fun e w' => e = .returned (.bool false) ∧ w = w' := by
  rcases h with rfl | ⟨b, rfl, h⟩
  · exact good_nil x w
  · exact good_off b x w h
theorem now_no : Calls Try.prog 19 #[.pointer p] w fun e w' => e = .returned (.int .u64 0) ∧ w = w' := by
  rcases h with rfl | ⟨b, rfl, h⟩
  · exact now_nil w
  · exact now_off b w h
theorem settle_no : Calls Try.prog 29 #[.pointer p] w fun e w' => e = .returned (.bool false) ∧ Grow (fun _ => False) w w' := by
  rcases h with rfl | ⟨b, rfl, h⟩
  · exact (settle_nil w).mono (by rintro e w' ⟨rfl, rfl⟩; exact ⟨rfl, Grow.alloc _ _ _⟩)
  · exact (settle_off b w h).mono (by rintro e w' ⟨rfl, rfl⟩; exact ⟨rfl, Grow.alloc _ _ _⟩)
theorem copy_no : Calls Try.prog 35 #[.pointer p] w fun e w' => e = .returned (.pointer none) ∧ w = w' := by
  rcases h with rfl | ⟨b, rfl, h⟩
  · exact copy_nil w
  · exact copy_off b w h
theorem none_no : Calls Try.prog 44 #[.pointer p] w fun e w' => e = .returned (.bool true) ∧ w = w' := by
  rcases h with rfl | ⟨b, rfl, h⟩
  · exact none_nil w
  · exact none_at b false w h
end

theorem same_nos (p q : Option Addr) (w : World) (h : SOff w p) (h' : SOff w q) : Calls Try.prog 36 #[.pointer p, .pointer q] w fun e w' => e = .returned (.bool true) ∧ w = w' := by
  have i1 := Lib.hid h
  have i2 := Lib.hid h'
  clear h h'
  go_enter Try.func36, Try.ntmps36
  go_wp2_with fail
  refine (none_no _ _ i1.out).mono ?_; rintro e w' ⟨rfl, rfl⟩
  go_wp2_with fail
  refine (none_no _ _ i1.out).mono ?_; rintro e w' ⟨rfl, rfl⟩
  go_wp2_with fail
  refine (none_no _ _ i2.out).mono ?_; rintro e w' ⟨rfl, rfl⟩
  go_wp2
  go_ret
  exact ⟨rfl, rfl⟩

theorem same_no_at (p : Option Addr) (b : Nat) (n : Int) (w : World) (h : SOff w p) (hs : SeqAt w b n) : Calls Try.prog 36 #[.pointer p, .pointer (some ⟨b, 0, none⟩)] w fun e w' => e = .returned (.bool false) ∧ w = w' := by
  have i1 := Lib.hid h
  have c1 := hs.c1
  clear h hs
  go_enter Try.func36, Try.ntmps36
  go_wp2_with fail
  refine (none_no _ _ i1.out).mono ?_; rintro e w' ⟨rfl, rfl⟩
  go_wp2_with fail
  refine (none_no _ _ i1.out).mono ?_; rintro e w' ⟨rfl, rfl⟩
  go_wp2_with fail
  refine (none_at _ _ _ c1).mono ?_; rintro e w' ⟨rfl, rfl⟩
  go_wp2
  go_ret
  exact ⟨rfl, rfl⟩

theorem same_at_no (p : Option Addr) (b : Nat) (n : Int) (w : World) (h : SOff w p) (hs : SeqAt w b n) : Calls Try.prog 36 #[.pointer (some ⟨b, 0, none⟩), .pointer p] w fun e w' => e = .returned (.bool false) ∧ w = w' := by
  have i1 := Lib.hid h
  have c1 := hs.c1
  clear h hs
  go_enter Try.func36, Try.ntmps36
  go_wp2_with fail
  refine (none_at _ _ _ c1).mono ?_; rintro e w' ⟨rfl, rfl⟩
  go_wp2_with fail
  refine (none_no _ _ i1.out).mono ?_; rintro e w' ⟨rfl, rfl⟩
  go_wp2_with fail
  refine (none_at _ _ _ c1).mono ?_; rintro e w' ⟨rfl, rfl⟩
  go_wp2
  go_ret
  exact ⟨rfl, rfl⟩

/-- behind a call by both -/
def SActPost (w : World) (b : Nat) (n : Int) (e : Ending) (w' : World) : Prop := ∃ b' n', e = .returned (.tuple #[.pointer (some ⟨b', 0, none⟩), .int .u64 n', .bool true]) ∧ SeqAt w' b' n' ∧ n ≤ n' ∧ n' ≤ n + 1 ∧ (b' = b ∨ w.heap.size ≤ b') ∧
  Grow (fun k => k = b ∨ w.heap.size ≤ k) w w'

theorem SActPost.of {w : World} {b : Nat} {n : Int} {o : Obj} {w' : World} {n' : Int} (h : SeqStep b n' (w.alloc o) w') (h1 : n ≤ n') (h2 : n' ≤ n + 1) : SActPost w b n (.returned (.tuple #[.pointer (some ⟨b, 0, none⟩), .int .u64 n', .bool true])) w' :=
  ⟨b, n', rfl, h.at_, h1, h2, .inl rfl, (Grow.alloc _ _ _).trans (h.grow.mono (fun _ h => .inl h))⟩

theorem SeqAt.drew {w : World} {b : Nat} {n : Int} (h : SeqAt w b n) : SeqAt w.drew b n := h.grow (Grow.drew (fun _ => False) _) (fun h => h)
theorem SeqStep.trans {b : Nat} {n m : Int} {A B C : World} (h : SeqStep b n A B) (k : SeqStep b m B C) : SeqStep b m A C := ⟨k.at_, h.grow.trans k.grow⟩
theorem SeqStep.full {b q : Nat} {n y : Int} {w1 W : World} (h : SeqStep b n w1 W) (g : ∀ W, SeqStep b n w1 W → W.cell? ⟨q, 1, none⟩ = w1.cell? ⟨q, 1, none⟩) (c : w1.cell? ⟨q, 1, none⟩ = some (.int .u64 y)) :
    SeqStep b n w1 W ∧ W.cell? ⟨q, 1, none⟩ = some (.int .u64 y) := ⟨h, (g W h).trans c⟩
theorem SActPost.of4 {w w1 : World} {b : Nat} {n y : Int} {f : Bool} {w' : World} (g : Grow (fun k => w.heap.size ≤ k) w w1) (h : SeqStep b n w1 w') (hf : f = (n == y)) : SActPost w b n (.returned (.tuple #[.pointer (some ⟨b, 0, none⟩), .int .u64 n, .bool (f == (n == y))])) w' :=
  ⟨b, n, by rw [hf]; simp, h.at_, by omega, by omega, .inl rfl, (g.mono (fun _ h => .inr h)).trans (h.grow.mono (fun _ h => .inl h))⟩
theorem SActPost.of3 {w w1 : World} {b : Nat} {n : Int} {w' : World} (g : Grow (fun k => w.heap.size ≤ k) w w1) (h : SeqStep b n w1 w') : SActPost w b n (.returned (.tuple #[.pointer (some ⟨b, 0, none⟩), .int .u64 n, .bool true])) w' :=
  ⟨b, n, rfl, h.at_, by omega, by omega, .inl rfl, (g.mono (fun _ h => .inr h)).trans (h.grow.mono (fun _ h => .inl h))⟩

section
variable (b : Nat) (n y : Int) (w : World) (hs : SeqAt w b n) (h0 : 0 ≤ n) (h1 : n < 8000000000000000000)
include hs h0 h1
theorem sact_0 : Calls Try.prog 34 #[.pointer (some ⟨b, 0, none⟩), .int .u64 n, .agg #[.int .i64 0, .int .u64 y]] w (SActPost w b n) := by
  have s1 := Lib.hid (hs.alloc (.cells #[.int .i64 0, .int .u64 y] 56))
  clear hs
  rcases Int.emod_two_eq n with h | h
  · go_enter Try.func34, Try.ntmps34
    go_wp2_with fail
    refine (begin_st _ _ _ s1.out h0 (by omega) h).mono ?_
    rintro e w2 ⟨rfl, st⟩
    have ST := Lib.hid st
    clear st
    go_wp2_with fail
    refine (refBegin_even n _ h0 (by omega) h).mono ?_
    rintro e w' ⟨rfl, rfl⟩
    go_wp2_with (go_at_call 18; refine (num_any _ _).mono ?_; rintro e w' ⟨rfl, rfl⟩)
    go_returns
    exact SActPost.of ST.out (by omega) (by omega)
  · go_enter Try.func34, Try.ntmps34
    go_wp2_with fail
    refine (begin_bad _ _ _ s1.out h0 h).mono ?_
    rintro e w2 ⟨rfl, rfl⟩
    go_wp2_with fail
    refine (refBegin_odd n _ h0 h).mono ?_
    rintro e w' ⟨rfl, rfl⟩
    go_wp2_with (go_at_call 18; refine (num_any _ _).mono ?_; rintro e w' ⟨rfl, rfl⟩)
    go_returns
    exact SActPost.of ⟨s1.out, Grow.refl _ _⟩ (by omega) (by omega)
theorem sact_1 : Calls Try.prog 34 #[.pointer (some ⟨b, 0, none⟩), .int .u64 n, .agg #[.int .i64 1, .int .u64 y]] w (SActPost w b n) := by
  have s1 := Lib.hid (hs.alloc (.cells #[.int .i64 1, .int .u64 y] 56))
  clear hs
  rcases Int.emod_two_eq n with h | h
  · go_enter Try.func34, Try.ntmps34
    go_wp2_with fail
    refine (end_bad _ _ _ s1.out h0 h).mono ?_
    rintro e w2 ⟨rfl, rfl⟩
    go_wp2_with fail
    refine (refEnd_even n _ h0 h).mono ?_
    rintro e w' ⟨rfl, rfl⟩
    go_wp2_with (go_at_call 18; refine (num_any _ _).mono ?_; rintro e w' ⟨rfl, rfl⟩)
    go_returns
    exact SActPost.of ⟨s1.out, Grow.refl _ _⟩ (by omega) (by omega)
  · go_enter Try.func34, Try.ntmps34
    go_wp2_with fail
    refine (end_st _ _ _ s1.out h0 (by omega) h).mono ?_
    rintro e w2 ⟨rfl, st⟩
    have ST := Lib.hid st
    clear st
    go_wp2_with fail
    refine (refEnd_odd n _ h0 (by omega) h).mono ?_
    rintro e w' ⟨rfl, rfl⟩
    go_wp2_with (go_at_call 18; refine (num_any _ _).mono ?_; rintro e w' ⟨rfl, rfl⟩)
    go_returns
    exact SActPost.of ST.out (by omega) (by omega)

theorem sact_2 : Calls Try.prog 34 #[.pointer (some ⟨b, 0, none⟩), .int .u64 n, .agg #[.int .i64 2, .int .u64 y]] w (SActPost w b n) := by
  have s1 := Lib.hid (hs.alloc (.cells #[.int .i64 2, .int .u64 y] 56))
  clear hs
  rcases Int.emod_two_eq n with h | h
  · have hb : (n % 2 == 0) = true := by simp [h]
    have HB := Lib.hid hb
    clear hb
    go_enter Try.func34, Try.ntmps34
    go_wp2_with fail
    refine (look_ok _ _ _ s1.out h0 (by omega) h).mono ?_
    rintro e w2 ⟨rfl, rfl⟩
    go_wp2_with fail
    refine (refEven_any n _ h0).mono ?_
    rintro e w' ⟨rfl, rfl⟩
    rw [HB.out]
    go_wp2_with (go_at_call 18; refine (num_any _ _).mono ?_; rintro e w' ⟨rfl, rfl⟩)
    go_returns
    exact SActPost.of ⟨s1.out, Grow.refl _ _⟩ (by omega) (by omega)
  · have hb : (n % 2 == 0) = false := by simp [h]
    have HB := Lib.hid hb
    clear hb
    go_enter Try.func34, Try.ntmps34
    go_wp2_with fail
    refine (look_bad _ _ _ s1.out h0 h).mono ?_
    rintro e w2 ⟨rfl, rfl⟩
    go_wp2_with fail
    refine (refEven_any n _ h0).mono ?_
    rintro e w' ⟨rfl, rfl⟩
    rw [HB.out]
    go_wp2_with (go_at_call 18; refine (num_any _ _).mono ?_; rintro e w' ⟨rfl, rfl⟩)
    go_returns
    exact SActPost.of ⟨s1.out, Grow.refl _ _⟩ (by omega) (by omega)

set_option maxHeartbeats 1600000 in
theorem sact_3 : Calls Try.prog 34 #[.pointer (some ⟨b, 0, none⟩), .int .u64 n, .agg #[.int .i64 3, .int .u64 y]] w (SActPost w b n) := by
  have s1 := hs.alloc (.cells #[.int .i64 3, .int .u64 y] 56)
  have hlt := hs.lt
  clear hs
  obtain ⟨w1, hw1⟩ : ∃ w1, w.alloc (.cells #[.int .i64 3, .int .u64 y] 56) = w1 := ⟨_, rfl⟩
  have cy : w1.cell? ⟨w.heap.size, 1, none⟩ = some (.int .u64 y) := by rw [← hw1]; simp [go_sem]
  have hz : w.heap.size < w1.heap.size := by rw [← hw1]; simp
  rw [hw1] at s1
  have S1 := Lib.hid s1
  have G1 : Hid (Grow (fun k => w.heap.size ≤ k) w w1) := Lib.hid (hw1 ▸ Grow.alloc _ _ _)
  have HW := Lib.hid hw1
  clear hw1
  obtain ⟨q, hq⟩ : ∃ q, w.heap.size = q := ⟨_, rfl⟩
  have HQ := Lib.hid hq
  rw [hq] at cy hz hlt
  clear hq s1
  obtain ⟨d, hd⟩ : ∃ d, d = (n % 2 == 0) := ⟨_, rfl⟩
  have HD := Lib.hid hd
  clear hd
  obtain ⟨f, hf⟩ : ∃ f, f = (n == y) := ⟨_, rfl⟩
  have HF := Lib.hid hf
  clear hf
  have E0 : ∀ W, Calls Try.prog 37 #[.int .u64 n] W fun e w' => e = .returned (.bool d) ∧ W = w' := fun W => by rw [HD.out]; exact refEven_any n W h0
  have E1 : ∀ W, SeqAt W b n → Calls Try.prog 20 #[.pointer (some ⟨b, 0, none⟩), .int .u64 y] W fun e w' => e = .returned (.bool (d && f)) ∧ SeqStep b n W w' := fun W hW => by rw [HD.out, HF.out]; exact good_st b n y W hW h0 (by omega)
  have GQ : ∀ W, SeqStep b n w1 W → W.cell? ⟨q, 1, none⟩ = w1.cell? ⟨q, 1, none⟩ := fun W h => h.grow.cell (p := ⟨q, 1, none⟩) hz (fun e => by have e : q = b := e; omega)
  have GH := Lib.hid GQ
  have E0H := Lib.hid E0
  have E1H := Lib.hid E1
  clear E0 E1 GQ
  have st : SeqStep b n w1 w1 := ⟨S1.out, Grow.refl _ _⟩
  clear h0 h1
  cases d
  · have sd : SeqStep b n w1 w1.drew := ⟨st.at_.drew, st.grow.trans (Grow.drew _ _)⟩
    have SD := Lib.hid sd
    clear sd st
    go_enter Try.func34, Try.ntmps34
    go_wp2_with fail
    have hw := HW.out
    rw [hw, HQ.out]
    clear hw
    (first | go_region_with (first | (go_at_call 37; refine (E0H.out _).mono ?_; rintro e w' ⟨rfl, rfl⟩) | (go_at_call 20; refine (E1H.out _ SD.out.at_).mono ?_; rintro e w' ⟨rfl, sx⟩; have SX := Lib.hid (SD.out.trans sx); clear sx)) | fail)
    all_goals
      go_wp2
      go_returns
      exact SActPost.of3 G1.out SX.out
  · go_enter Try.func34, Try.ntmps34
    go_wp2_with fail
    have hw := HW.out
    rw [hw, HQ.out]
    clear hw
    go_region_held3 (fun w' => SeqStep b n w1 w' ∧ w'.cell? ⟨q, 1, none⟩ = some (.int .u64 y)) (first | exact ⟨⟨st.at_.drew, st.grow.trans (Grow.drew _ _)⟩, cy⟩ | (go_split_ands; exact SeqStep.full (SeqStep.trans (by assumption) (by assumption)) GH.out cy) | (go_split_ands; exact ⟨by assumption, by assumption⟩)) (first | (go_at_call 37; refine (E0H.out _).mono ?_; rintro e w' ⟨rfl, rfl⟩) | (go_at_call 20; refine (E1H.out _ (by go_split_ands; exact SeqStep.at_ (by assumption))).mono ?_; rintro e w' ⟨rfl, sx⟩))
    all_goals
      go_split_ands
      go_wp2
      go_returns
      exact SActPost.of4 G1.out (by assumption) HF.out

theorem sact_4 : Calls Try.prog 34 #[.pointer (some ⟨b, 0, none⟩), .int .u64 n, .agg #[.int .i64 4, .int .u64 y]] w (SActPost w b n) := by
  have s1 := Lib.hid (hs.alloc (.cells #[.int .i64 4, .int .u64 y] 56))
  clear hs
  rcases Int.emod_two_eq n with h | h
  · have hb : (n % 2 == 0) = true := by simp [h]
    have hb1 : (n % 2 == 1) = false := by simp [h]
    have HB := Lib.hid (And.intro hb hb1)
    clear hb hb1
    go_enter Try.func34, Try.ntmps34
    go_wp2_with fail
    refine (refEven_any n _ h0).mono ?_
    rintro e w' ⟨rfl, rfl⟩
    rw [HB.out.1]
    go_wp2_with fail
    refine (settle_st _ _ _ s1.out h0 (by omega)).mono ?_
    rintro e w2 ⟨rfl, st⟩
    rw [HB.out.2]
    rw [h, Int.add_zero] at st
    have ST := Lib.hid st
    clear st
    go_wp2_with fail
    go_returns
    exact SActPost.of ST.out (by omega) (by omega)
  · have hb : (n % 2 == 0) = false := by simp [h]
    have hb1 : (n % 2 == 1) = true := by simp [h]
    have HB := Lib.hid (And.intro hb hb1)
    clear hb hb1
    go_enter Try.func34, Try.ntmps34
    go_wp2_with fail
    refine (refEven_any n _ h0).mono ?_
    rintro e w' ⟨rfl, rfl⟩
    rw [HB.out.1]
    go_wp2_with fail
    refine (settle_st _ _ _ s1.out h0 (by omega)).mono ?_
    rintro e w2 ⟨rfl, st⟩
    rw [HB.out.2]
    rw [h] at st
    have ST := Lib.hid st
    clear st
    go_wp2_with fail
    go_returns
    exact SActPost.of ST.out (by omega) (by omega)
end

theorem sact_5 (b : Nat) (n x y : Int) (w : World) (hs : SeqAt w b n) (n0 : x ≠ 0) (n1 : x ≠ 1) (n2 : x ≠ 2) (n3 : x ≠ 3) (n4 : x ≠ 4) : Calls Try.prog 34 #[.pointer (some ⟨b, 0, none⟩), .int .u64 n, .agg #[.int .i64 x, .int .u64 y]] w (SActPost w b n) := by
  have s1 := Lib.hid (hs.alloc (.cells #[.int .i64 x, .int .u64 y] 56))
  clear hs
  go_enter Try.func34, Try.ntmps34
  go_wp2_with fail
  refine (copy_st _ _ _ s1.out).mono ?_
  rintro e w2 ⟨rfl, a1, a2, g, z⟩
  have A := Lib.hid (And.intro a1 g)
  clear a1 a2 g z
  go_wp2_with fail
  go_returns
  exact ⟨_, n, rfl, (by have := A.out.1; simpa using this), by omega, by omega, .inr (by simp), (Grow.alloc _ _ _).trans (A.out.2.mono (fun _ h => h.elim))⟩

theorem sact_any (b : Nat) (n x y : Int) (w : World) (hs : SeqAt w b n) (h0 : 0 ≤ n) (h1 : n < 8000000000000000000) : Calls Try.prog 34 #[.pointer (some ⟨b, 0, none⟩), .int .u64 n, .agg #[.int .i64 x, .int .u64 y]] w (SActPost w b n) := by
  by_cases e0 : x = 0
  · subst e0; exact sact_0 b n y w hs h0 h1
  by_cases e1 : x = 1
  · subst e1; exact sact_1 b n y w hs h0 h1
  by_cases e2 : x = 2
  · subst e2; exact sact_2 b n y w hs h0 h1
  by_cases e3 : x = 3
  · subst e3; exact sact_3 b n y w hs h0 h1
  by_cases e4 : x = 4
  · subst e4; exact sact_4 b n y w hs h0 h1
  exact sact_5 b n x y w hs e0 e1 e2 e3 e4

end Go.Proofs.Ytbfadogjkhoohaa
