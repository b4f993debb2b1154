/- contracts of package seq -/
import Derived.Test.YtbfadogjkhoohaaSeqA
import Derived.Test.YtbfadogjkhoohaaCore
namespace Go.Proofs.Ytbfadogjkhoohaa
open Go.RowKit

/-- a seqlock at b holds n -/
structure SeqAt (w : World) (b : Nat) (n : Int) : Prop where
  c0 : w.cell? ⟨b, 0, none⟩ = some (.int .u64 n)
  c1 : w.cell? ⟨b, 1, none⟩ = some (.bool true)
  f0 : w.frozen? ⟨b, 0, none⟩ = false

theorem even_t (n : Int) (w : World) (h0 : 0 ≤ n) (h : n % 2 = 0) : Calls Try.prog 43 #[.int .u64 n] w fun e w' => e = .returned (.bool true) ∧ w = w' :=
  (even_any n w h0).mono (by rintro e w' ⟨rfl, rfl⟩; simp [h])
theorem even_f (n : Int) (w : World) (h0 : 0 ≤ n) (h : n % 2 = 1) : Calls Try.prog 43 #[.int .u64 n] w fun e w' => e = .returned (.bool false) ∧ w = w' :=
  (even_any n w h0).mono (by rintro e w' ⟨rfl, rfl⟩; simp [h])

theorem odd_any (n : Int) (w : World) (h0 : 0 ≤ n) : Calls Try.prog 40 #[.int .u64 n] w fun e w' => e = .returned (.bool (!(n % 2 == 0))) ∧ w = w' := by
  go_enter Try.func40, Try.ntmps40
  go_wp2_with (go_at_call 43; refine (even_any _ _ h0).mono ?_; rintro e w' ⟨rfl, rfl⟩)
  go_ret
  exact ⟨rfl, rfl⟩
theorem odd_t (n : Int) (w : World) (h0 : 0 ≤ n) (h : n % 2 = 1) : Calls Try.prog 40 #[.int .u64 n] w fun e w' => e = .returned (.bool true) ∧ w = w' :=
  (odd_any n w h0).mono (by rintro e w' ⟨rfl, rfl⟩; simp [h])
theorem odd_f (n : Int) (w : World) (h0 : 0 ≤ n) (h : n % 2 = 0) : Calls Try.prog 40 #[.int .u64 n] w fun e w' => e = .returned (.bool false) ∧ w = w' :=
  (odd_any n w h0).mono (by rintro e w' ⟨rfl, rfl⟩; simp [h])

theorem plain_any (n : Int) (w : World) : Calls Try.prog 41 #[.int .u64 n] w fun e w' => e = .returned (.int .u64 n) ∧ w = w' := by
  go_enter Try.func41, Try.ntmps41
  go_wp2
  go_ret
  exact ⟨rfl, rfl⟩

theorem setCell_self {w : World} {a : Addr} {v : Value} (h : w.cell? a = some v) : w.setCell a v = w := by
  obtain ⟨b, off, spot⟩ := a
  cases w with
  | mk heap tape drawn os output =>
    simp only [World.setCell, World.mk.injEq, and_true]
    apply Array.ext_getElem?
    intro i
    rw [Array.getElem?_modify]
    split
    · rename_i hi
      subst hi
      simp only [World.cell?] at h
      cases ho : heap[b]? with
      | none => rfl
      | some o =>
        rw [ho] at h
        cases o <;> simp_all
        apply Array.ext_getElem?
        intro j
        rw [Array.getElem?_setIfInBounds]
        split
        · rename_i hj
          subst hj
          split
          · exact h.2.symm
          · have h2 := h.2
            rw [Array.getElem?_eq_none (by omega)] at h2
            cases h2
        · rfl
    · rfl

/-- told, where the function that asks says yes -/
theorem told_ok (f b : Nat) (n m wr : Int) (w : World) (hs : SeqAt w b n) (h0 : 0 ≤ n) (hm : 0 ≤ m) (h1 : n + m < 18446744073709551615)
    (hf : Calls Try.prog f #[.int .u64 n] w fun e w' => e = .returned (.bool true) ∧ w = w')
    (eg : ∀ args w, (callFunc f args).run Try.prog w = .ok (.enter f args) w) :
    Calls Try.prog 42 #[.pointer (some ⟨b, 0, none⟩), .func (.func f) #[] #[], .int .u64 m, .int .i64 wr, .func (.func 41) #[] #[]] w fun e w' => e = .returned (.tuple #[.int .u64 (n+m), .int .i64 0]) ∧ w' = w.setCell ⟨b, 0, none⟩ (.int .u64 (n+m)) := by
  obtain ⟨c0, c1, f0⟩ := hs
  refine (callsIn_wide (n := 0)).1 ?_
  gi_enter Try.func42, Try.ntmps42
  gi_wp2_with (first
    | apply wpIn_scope_hop
    | (gi_at_call 44; refine (callsIn_wide.2 (none_at _ _ _ c1)).mono ?_; rintro e w' ⟨rfl, rfl⟩)
    | (gi_at_call 41; refine (callsIn_wide.2 (plain_any _ _)).mono ?_; rintro e w' ⟨rfl, rfl⟩)
    | (refine (callsIn_wide.2 hf).mono ?_; rintro e w' ⟨rfl, rfl⟩)
    | apply wpIn_goto
    | (refine Exit.hop_goto rfl ?_)
    | apply wpIn_label)
  simp only [Exit.hop_ret]
  go_ret2
  exact ⟨rfl, rfl⟩

/-- told, where it says no -/
theorem told_bad (f b : Nat) (n m wr : Int) (w : World) (hs : SeqAt w b n)
    (hf : Calls Try.prog f #[.int .u64 n] w fun e w' => e = .returned (.bool false) ∧ w = w')
    (eg : ∀ args w, (callFunc f args).run Try.prog w = .ok (.enter f args) w) :
    Calls Try.prog 42 #[.pointer (some ⟨b, 0, none⟩), .func (.func f) #[] #[], .int .u64 m, .int .i64 wr, .func (.func 41) #[] #[]] w fun e w' => e = .returned (.tuple #[.int .u64 0, .int .i64 wr]) ∧ w = w' := by
  obtain ⟨c0, c1, f0⟩ := hs
  refine (callsIn_wide (n := 0)).1 ?_
  gi_enter Try.func42, Try.ntmps42
  gi_wp2_with (first
    | apply wpIn_scope_hop
    | (gi_at_call 44; refine (callsIn_wide.2 (none_at _ _ _ c1)).mono ?_; rintro e w' ⟨rfl, rfl⟩)
    | (gi_at_call 41; refine (callsIn_wide.2 (plain_any _ _)).mono ?_; rintro e w' ⟨rfl, rfl⟩)
    | (refine (callsIn_wide.2 hf).mono ?_; rintro e w' ⟨rfl, rfl⟩)
    | apply wpIn_goto
    | (refine Exit.hop_goto rfl ?_)
    | apply wpIn_label)
  simp only [Exit.noGoto_ret]
  go_ret2
  exact ⟨rfl, rfl⟩

/-- told, of none -/
theorem told_nil (f : Nat) (m wr : Int) (w : World)  :
    Calls Try.prog 42 #[.pointer none, .func (.func f) #[] #[], .int .u64 m, .int .i64 wr, .func (.func 41) #[] #[]] w fun e w' => e = .returned (.tuple #[.int .u64 0, .int .i64 1]) ∧ w = w' := by
  refine (callsIn_wide (n := 0)).1 ?_
  gi_enter Try.func42, Try.ntmps42
  gi_wp2_with (first
    | apply wpIn_scope_hop
    | (gi_at_call 44; refine (callsIn_wide.2 (none_nil _)).mono ?_; rintro e w' ⟨rfl, rfl⟩)
    | apply wpIn_goto
    | (refine Exit.hop_goto rfl ?_)
    | apply wpIn_label)
  simp only [Exit.noGoto_ret]
  go_ret2
  exact ⟨rfl, rfl⟩

/-- told, of one that is not there -/
theorem told_off (f b : Nat) (m wr : Int) (w : World) (c1 : w.cell? ⟨b, 1, none⟩ = some (.bool false)) :
    Calls Try.prog 42 #[.pointer (some ⟨b, 0, none⟩), .func (.func f) #[] #[], .int .u64 m, .int .i64 wr, .func (.func 41) #[] #[]] w fun e w' => e = .returned (.tuple #[.int .u64 0, .int .i64 1]) ∧ w = w' := by
  refine (callsIn_wide (n := 0)).1 ?_
  gi_enter Try.func42, Try.ntmps42
  gi_wp2_with (first
    | apply wpIn_scope_hop
    | (gi_at_call 44; refine (callsIn_wide.2 (none_at _ _ _ c1)).mono ?_; rintro e w' ⟨rfl, rfl⟩)
    | apply wpIn_goto
    | (refine Exit.hop_goto rfl ?_)
    | apply wpIn_label)
  simp only [Exit.noGoto_ret]
  go_ret2
  exact ⟨rfl, rfl⟩

theorem begin_ok (b : Nat) (n : Int) (w : World) (hs : SeqAt w b n) (h0 : 0 ≤ n) (h1 : n < 9000000000000000000) (h : n % 2 = 0) :
    Calls Try.prog 15 #[.pointer (some ⟨b, 0, none⟩)] w fun e w' => e = .returned (.tuple #[.int .u64 (n+1), .int .i64 0]) ∧ w' = w.setCell ⟨b, 0, none⟩ (.int .u64 (n+1)) := by
  go_enter Try.func15, Try.ntmps15
  go_wp2_with (go_at_call 42; refine (told_ok 43 _ _ _ _ _ hs h0 (by omega) (by omega) (even_t _ _ h0 h) (fun _ _ => by kernel_rfl)).mono ?_; rintro e w' ⟨rfl, rfl⟩)
  go_ret2
  exact ⟨rfl, rfl⟩

theorem begin_bad (b : Nat) (n : Int) (w : World) (hs : SeqAt w b n) (h0 : 0 ≤ n) (h : n % 2 = 1) :
    Calls Try.prog 15 #[.pointer (some ⟨b, 0, none⟩)] w fun e w' => e = .returned (.tuple #[.int .u64 0, .int .i64 270]) ∧ w = w' := by
  go_enter Try.func15, Try.ntmps15
  go_wp2_with (go_at_call 42; refine (told_bad 43 _ _ _ _ _ hs (even_f _ _ h0 h) (fun _ _ => by kernel_rfl)).mono ?_; rintro e w' ⟨rfl, rfl⟩)
  go_ret2
  exact ⟨rfl, rfl⟩

theorem begin_nil (w : World) :
    Calls Try.prog 15 #[.pointer none] w fun e w' => e = .returned (.tuple #[.int .u64 0, .int .i64 1]) ∧ w = w' := by
  go_enter Try.func15, Try.ntmps15
  go_wp2_with (go_at_call 42; refine (told_nil 43 _ _ _).mono ?_; rintro e w' ⟨rfl, rfl⟩)
  go_ret2
  exact ⟨rfl, rfl⟩

theorem begin_off (b : Nat) (w : World) (c1 : w.cell? ⟨b, 1, none⟩ = some (.bool false)) :
    Calls Try.prog 15 #[.pointer (some ⟨b, 0, none⟩)] w fun e w' => e = .returned (.tuple #[.int .u64 0, .int .i64 1]) ∧ w = w' := by
  go_enter Try.func15, Try.ntmps15
  go_wp2_with (go_at_call 42; refine (told_off 43 _ _ _ _ c1).mono ?_; rintro e w' ⟨rfl, rfl⟩)
  go_ret2
  exact ⟨rfl, rfl⟩

theorem end_ok (b : Nat) (n : Int) (w : World) (hs : SeqAt w b n) (h0 : 0 ≤ n) (h1 : n < 9000000000000000000) (h : n % 2 = 1) :
    Calls Try.prog 16 #[.pointer (some ⟨b, 0, none⟩)] w fun e w' => e = .returned (.tuple #[.int .u64 (n+1), .int .i64 0]) ∧ w' = w.setCell ⟨b, 0, none⟩ (.int .u64 (n+1)) := by
  go_enter Try.func16, Try.ntmps16
  go_wp2_with (go_at_call 42; refine (told_ok 40 _ _ _ _ _ hs h0 (by omega) (by omega) (odd_t _ _ h0 h) (fun _ _ => by kernel_rfl)).mono ?_; rintro e w' ⟨rfl, rfl⟩)
  go_ret2
  exact ⟨rfl, rfl⟩

theorem end_bad (b : Nat) (n : Int) (w : World) (hs : SeqAt w b n) (h0 : 0 ≤ n) (h : n % 2 = 0) :
    Calls Try.prog 16 #[.pointer (some ⟨b, 0, none⟩)] w fun e w' => e = .returned (.tuple #[.int .u64 0, .int .i64 271]) ∧ w = w' := by
  go_enter Try.func16, Try.ntmps16
  go_wp2_with (go_at_call 42; refine (told_bad 40 _ _ _ _ _ hs (odd_f _ _ h0 h) (fun _ _ => by kernel_rfl)).mono ?_; rintro e w' ⟨rfl, rfl⟩)
  go_ret2
  exact ⟨rfl, rfl⟩

theorem end_nil (w : World) :
    Calls Try.prog 16 #[.pointer none] w fun e w' => e = .returned (.tuple #[.int .u64 0, .int .i64 1]) ∧ w = w' := by
  go_enter Try.func16, Try.ntmps16
  go_wp2_with (go_at_call 42; refine (told_nil 40 _ _ _).mono ?_; rintro e w' ⟨rfl, rfl⟩)
  go_ret2
  exact ⟨rfl, rfl⟩

theorem end_off (b : Nat) (w : World) (c1 : w.cell? ⟨b, 1, none⟩ = some (.bool false)) :
    Calls Try.prog 16 #[.pointer (some ⟨b, 0, none⟩)] w fun e w' => e = .returned (.tuple #[.int .u64 0, .int .i64 1]) ∧ w = w' := by
  go_enter Try.func16, Try.ntmps16
  go_wp2_with (go_at_call 42; refine (told_off 40 _ _ _ _ c1).mono ?_; rintro e w' ⟨rfl, rfl⟩)
  go_ret2
  exact ⟨rfl, rfl⟩

theorem look_ok (b : Nat) (n : Int) (w : World) (hs : SeqAt w b n) (h0 : 0 ≤ n) (h1 : n < 9000000000000000000) (h : n % 2 = 0) :
    Calls Try.prog 17 #[.pointer (some ⟨b, 0, none⟩)] w fun e w' => e = .returned (.tuple #[.int .u64 n, .int .i64 0]) ∧ w = w' := by
  have hx : w.setCell ⟨b, 0, none⟩ (.int .u64 (n + 0)) = w := by rw [Int.add_zero]; exact setCell_self hs.c0
  go_enter Try.func17, Try.ntmps17
  go_wp2_with (go_at_call 42; refine (told_ok 43 _ _ _ _ _ hs h0 (by omega) (by omega) (even_t _ _ h0 h) (fun _ _ => by kernel_rfl)).mono ?_; rintro e w' ⟨rfl, rfl⟩; rw [hx])
  go_ret2
  exact ⟨rfl, rfl⟩

theorem look_bad (b : Nat) (n : Int) (w : World) (hs : SeqAt w b n) (h0 : 0 ≤ n) (h : n % 2 = 1) :
    Calls Try.prog 17 #[.pointer (some ⟨b, 0, none⟩)] w fun e w' => e = .returned (.tuple #[.int .u64 0, .int .i64 270]) ∧ w = w' := by
  go_enter Try.func17, Try.ntmps17
  go_wp2_with (go_at_call 42; refine (told_bad 43 _ _ _ _ _ hs (even_f _ _ h0 h) (fun _ _ => by kernel_rfl)).mono ?_; rintro e w' ⟨rfl, rfl⟩)
  go_ret2
  exact ⟨rfl, rfl⟩

theorem look_nil (w : World) :
    Calls Try.prog 17 #[.pointer none] w fun e w' => e = .returned (.tuple #[.int .u64 0, .int .i64 1]) ∧ w = w' := by
  go_enter Try.func17, Try.ntmps17
  go_wp2_with (go_at_call 42; refine (told_nil 43 _ _ _).mono ?_; rintro e w' ⟨rfl, rfl⟩)
  go_ret2
  exact ⟨rfl, rfl⟩

theorem look_off (b : Nat) (w : World) (c1 : w.cell? ⟨b, 1, none⟩ = some (.bool false)) :
    Calls Try.prog 17 #[.pointer (some ⟨b, 0, none⟩)] w fun e w' => e = .returned (.tuple #[.int .u64 0, .int .i64 1]) ∧ w = w' := by
  go_enter Try.func17, Try.ntmps17
  go_wp2_with (go_at_call 42; refine (told_off 43 _ _ _ _ c1).mono ?_; rintro e w' ⟨rfl, rfl⟩)
  go_ret2
  exact ⟨rfl, rfl⟩

end Go.Proofs.Ytbfadogjkhoohaa
