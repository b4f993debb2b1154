/- contracts of package seq, on: Good, Settle, Copy, Same; the reference's Begin and End -/
import Derived.Test.YtbfadogjkhoohaaSeqC
namespace Go.Proofs.Ytbfadogjkhoohaa
open Go.RowKit

theorem good_even (b : Nat) (n x : Int) (w : World) (hs : SeqAt w b n) (h0 : 0 ≤ n) (h1 : n < 9000000000000000000) (h : n % 2 = 0) :
    Calls Try.prog 20 #[.pointer (some ⟨b, 0, none⟩), .int .u64 x] w fun e w' => e = .returned (.bool (n == x)) ∧ w' = w.alloc (.cells #[.int .u64 n] 22) := by
  go_enter Try.func20, Try.ntmps20
  go_wp2_with (first
    | (go_at_call 17; refine (look_ok _ _ _ hs h0 h1 h).mono ?_; rintro e w' ⟨rfl, rfl⟩)
    | (go_at_call 45; refine (one_any x n _ _ (by go_simp)).mono ?_; rintro e w' ⟨rfl, rfl⟩))
  go_ret
  exact ⟨rfl, rfl⟩
theorem good_odd (b : Nat) (n x : Int) (w : World) (hs : SeqAt w b n) (h0 : 0 ≤ n) (h : n % 2 = 1) :
    Calls Try.prog 20 #[.pointer (some ⟨b, 0, none⟩), .int .u64 x] w fun e w' => e = .returned (.bool false) ∧ w = w' := by
  go_enter Try.func20, Try.ntmps20
  go_wp2_with (first
    | (go_at_call 17; refine (look_bad _ _ _ hs h0 h).mono ?_; rintro e w' ⟨rfl, rfl⟩))
  go_ret
  exact ⟨rfl, rfl⟩
theorem good_nil (x : Int) (w : World) :
    Calls Try.prog 20 #[.pointer none, .int .u64 x] w fun e w' => e = .returned (.bool false) ∧ w = w' := by
  go_enter Try.func20, Try.ntmps20
  go_wp2_with (first
    | (go_at_call 17; refine (look_nil _).mono ?_; rintro e w' ⟨rfl, rfl⟩))
  go_ret
  exact ⟨rfl, rfl⟩
theorem good_off (b : Nat) (x : Int) (w : World) (c1 : w.cell? ⟨b, 1, none⟩ = some (.bool false)) :
    Calls Try.prog 20 #[.pointer (some ⟨b, 0, none⟩), .int .u64 x] w fun e w' => e = .returned (.bool false) ∧ w = w' := by
  go_enter Try.func20, Try.ntmps20
  go_wp2_with (first
    | (go_at_call 17; refine (look_off _ _ c1).mono ?_; rintro e w' ⟨rfl, rfl⟩))
  go_ret
  exact ⟨rfl, rfl⟩

theorem SeqAt.alloc {w : World} {b : Nat} {n : Int} (h : SeqAt w b n) (o : Obj) : SeqAt (w.alloc o) b n := by
  obtain ⟨c0, c1, f0⟩ := h
  exact ⟨cell_alloc_l _ c0, cell_alloc_l _ c1, frozen_alloc_l _ c0 f0⟩
theorem SeqAt.below {w w' : World} {b : Nat} {n : Int} {B : Nat} (h : SeqAt w b n) (hb : Below B w w') (hB : b < B) : SeqAt w' b n :=
  ⟨(hb.cell (p := ⟨b, 0, none⟩) hB).trans h.c0, (hb.cell (p := ⟨b, 1, none⟩) hB).trans h.c1, (hb.frozen (p := ⟨b, 0, none⟩) hB).trans h.f0⟩
theorem SeqAt.put {w : World} {b : Nat} {n : Int} (h : SeqAt w b n) (m : Int) : SeqAt (w.setCell ⟨b, 0, none⟩ (.int .u64 m)) b m := by
  obtain ⟨c0, c1, f0⟩ := h
  constructor
  · go_simp
  · go_simp
  · go_simp
theorem SeqAt.lt {w : World} {b : Nat} {n : Int} (h : SeqAt w b n) : b < w.heap.size := by
  have := h.c0
  simp only [World.cell?] at this
  rcases Nat.lt_or_ge b w.heap.size with hl | hl
  · exact hl
  · rw [Array.getElem?_eq_none hl] at this; cases this

/-- the closure of Settle -/
theorem settled_odd (t b : Nat) (n : Int) (w : World) (ht : w.cell? ⟨t, 0, none⟩ = some (.pointer (some ⟨b, 0, none⟩))) (hs : SeqAt w b n) (h0 : 0 ≤ n) (h1 : n < 9000000000000000000) (h : n % 2 = 1) :
    Calls Try.prog 55 #[.pointer (some ⟨t, 0, none⟩)] w fun e w' => e = .returned (.bool true) ∧ w' = w.setCell ⟨b, 0, none⟩ (.int .u64 (n+1)) := by
  go_enter Try.func55, Try.ntmps55
  go_wp2_with (first
    | (go_at_call 16; refine (end_ok _ _ _ hs h0 h1 h).mono ?_; rintro e w' ⟨rfl, rfl⟩))
  go_ret
  exact ⟨rfl, rfl⟩

theorem settle_odd (b : Nat) (n : Int) (w : World) (hs : SeqAt w b n) (h0 : 0 ≤ n) (h1 : n < 9000000000000000000) (h : n % 2 = 1) :
    Calls Try.prog 29 #[.pointer (some ⟨b, 0, none⟩)] w fun e w' => e = .returned (.bool true) ∧ w' = (w.alloc (.cells #[.pointer (some ⟨b, 0, none⟩)] 30)).setCell ⟨b, 0, none⟩ (.int .u64 (n+1)) := by
  have hs' := hs.alloc (.cells #[.pointer (some ⟨b, 0, none⟩)] 30)
  have c0 := hs'.c0
  have c1 := hs'.c1
  go_enter Try.func29, Try.ntmps29
  go_wp2_with (first
    | (go_at_call 44; refine (none_at _ _ _ c1).mono ?_; rintro e w' ⟨rfl, rfl⟩)
    | (go_at_call 40; refine (odd_t _ _ h0 h).mono ?_; rintro e w' ⟨rfl, rfl⟩)
    | (go_at_call 55; refine (settled_odd _ _ _ _ (by go_simp) hs' h0 h1 h).mono ?_; rintro e w' ⟨rfl, rfl⟩))
  go_ret
  exact ⟨rfl, rfl⟩
theorem settle_even (b : Nat) (n : Int) (w : World) (hs : SeqAt w b n) (h0 : 0 ≤ n) (h : n % 2 = 0) :
    Calls Try.prog 29 #[.pointer (some ⟨b, 0, none⟩)] w fun e w' => e = .returned (.bool false) ∧ w' = w.alloc (.cells #[.pointer (some ⟨b, 0, none⟩)] 30) := by
  have hs' := hs.alloc (.cells #[.pointer (some ⟨b, 0, none⟩)] 30)
  have c0 := hs'.c0
  have c1 := hs'.c1
  go_enter Try.func29, Try.ntmps29
  go_wp2_with (first
    | (go_at_call 44; refine (none_at _ _ _ c1).mono ?_; rintro e w' ⟨rfl, rfl⟩)
    | (go_at_call 40; refine (odd_f _ _ h0 h).mono ?_; rintro e w' ⟨rfl, rfl⟩))
  go_ret
  exact ⟨rfl, rfl⟩
theorem settle_nil (w : World) :
    Calls Try.prog 29 #[.pointer none] w fun e w' => e = .returned (.bool false) ∧ w' = w.alloc (.cells #[.pointer none] 30) := by
  go_enter Try.func29, Try.ntmps29
  go_wp2_with (first
    | (go_at_call 44; refine (none_nil _).mono ?_; rintro e w' ⟨rfl, rfl⟩))
  go_ret
  exact ⟨rfl, rfl⟩
theorem settle_off (b : Nat) (w : World) (c1 : w.cell? ⟨b, 1, none⟩ = some (.bool false)) :
    Calls Try.prog 29 #[.pointer (some ⟨b, 0, none⟩)] w fun e w' => e = .returned (.bool false) ∧ w' = w.alloc (.cells #[.pointer (some ⟨b, 0, none⟩)] 30) := by
  have c1' : (w.alloc (.cells #[.pointer (some ⟨b, 0, none⟩)] 30)).cell? ⟨b, 1, none⟩ = some (.bool false) := cell_alloc_l _ c1
  go_enter Try.func29, Try.ntmps29
  go_wp2_with (first
    | (go_at_call 44; refine (none_at _ _ _ c1').mono ?_; rintro e w' ⟨rfl, rfl⟩))
  go_ret
  exact ⟨rfl, rfl⟩

theorem copy_ok (b : Nat) (n : Int) (w : World) (hs : SeqAt w b n) :
    Calls Try.prog 35 #[.pointer (some ⟨b, 0, none⟩)] w fun e w' => e = .returned (.pointer (some ⟨w.heap.size, 0, none⟩)) ∧ w' = w.alloc (.cells #[.int .u64 n, .bool true] 75) := by
  obtain ⟨c0, c1, f0⟩ := hs
  go_enter Try.func35, Try.ntmps35
  go_wp2_with (first
    | (go_at_call 44; refine (none_at _ _ _ c1).mono ?_; rintro e w' ⟨rfl, rfl⟩))
  go_ret
  exact ⟨rfl, rfl⟩
theorem copy_nil (w : World) :
    Calls Try.prog 35 #[.pointer none] w fun e w' => e = .returned (.pointer none) ∧ w = w' := by
  go_enter Try.func35, Try.ntmps35
  go_wp2_with (first
    | (go_at_call 44; refine (none_nil _).mono ?_; rintro e w' ⟨rfl, rfl⟩))
  go_ret
  exact ⟨rfl, rfl⟩
theorem copy_off (b : Nat) (w : World) (c1 : w.cell? ⟨b, 1, none⟩ = some (.bool false)) :
    Calls Try.prog 35 #[.pointer (some ⟨b, 0, none⟩)] w fun e w' => e = .returned (.pointer none) ∧ w = w' := by
  go_enter Try.func35, Try.ntmps35
  go_wp2_with (first
    | (go_at_call 44; refine (none_at _ _ _ c1).mono ?_; rintro e w' ⟨rfl, rfl⟩))
  go_ret
  exact ⟨rfl, rfl⟩

theorem refBegin_even (n : Int) (w : World) (h0 : 0 ≤ n) (h1 : n < 9000000000000000000) (h : n % 2 = 0) :
    Calls Try.prog 60 #[.int .u64 n] w fun e w' => e = .returned (.tuple #[.int .u64 (n+1), .int .i64 0]) ∧ w = w' := by
  have hb : (n % 2 == 0) = true := by simp [h]
  go_enter Try.func60, Try.ntmps60
  go_wp2_with (first
    | (go_at_call 37; refine (refEven_any _ _ h0).mono ?_; rintro e w' ⟨rfl, rfl⟩))
  go_ret2
  exact ⟨rfl, rfl⟩
theorem refBegin_odd (n : Int) (w : World) (h0 : 0 ≤ n) (h : n % 2 = 1) :
    Calls Try.prog 60 #[.int .u64 n] w fun e w' => e = .returned (.tuple #[.int .u64 n, .int .i64 270]) ∧ w = w' := by
  have hb : (n % 2 == 0) = false := by simp [h]
  go_enter Try.func60, Try.ntmps60
  go_wp2_with (first
    | (go_at_call 37; refine (refEven_any _ _ h0).mono ?_; rintro e w' ⟨rfl, rfl⟩))
  go_ret2
  exact ⟨rfl, rfl⟩
theorem refEnd_odd (n : Int) (w : World) (h0 : 0 ≤ n) (h1 : n < 9000000000000000000) (h : n % 2 = 1) :
    Calls Try.prog 61 #[.int .u64 n] w fun e w' => e = .returned (.tuple #[.int .u64 (n+1), .int .i64 0]) ∧ w = w' := by
  have hb : (n % 2 == 0) = false := by simp [h]
  go_enter Try.func61, Try.ntmps61
  go_wp2_with (first
    | (go_at_call 37; refine (refEven_any _ _ h0).mono ?_; rintro e w' ⟨rfl, rfl⟩))
  go_ret2
  exact ⟨rfl, rfl⟩
theorem refEnd_even (n : Int) (w : World) (h0 : 0 ≤ n) (h : n % 2 = 0) :
    Calls Try.prog 61 #[.int .u64 n] w fun e w' => e = .returned (.tuple #[.int .u64 n, .int .i64 271]) ∧ w = w' := by
  have hb : (n % 2 == 0) = true := by simp [h]
  go_enter Try.func61, Try.ntmps61
  go_wp2_with (first
    | (go_at_call 37; refine (refEven_any _ _ h0).mono ?_; rintro e w' ⟨rfl, rfl⟩))
  go_ret2
  exact ⟨rfl, rfl⟩

theorem same_ok (b c : Nat) (n m : Int) (w : World) (hs : SeqAt w b n) (ht : SeqAt w c m) :
    Calls Try.prog 36 #[.pointer (some ⟨b, 0, none⟩), .pointer (some ⟨c, 0, none⟩)] w fun e w' => e = .returned (.bool (n == m)) ∧ ∃ k, w' = w.drewN k := by
  obtain ⟨c0, c1, f0⟩ := hs
  obtain ⟨d0, d1, g0⟩ := ht
  go_enter Try.func36, Try.ntmps36
  go_wp2_with fail
  refine (none_at _ _ _ c1).mono ?_; rintro e w' ⟨rfl, rfl⟩
  go_wp2_with fail
  refine (none_at _ _ _ d1).mono ?_; rintro e w' ⟨rfl, rfl⟩
  go_wp2_with fail
  go_quiet (fail)
  go_wp2
  go_ret
  exact ⟨rfl, _, rfl⟩

end Go.Proofs.Ytbfadogjkhoohaa
