/- contracts of package lock: the lock's own cells -/
import Derived.Test.YtbfadogjkhoohaaLockC
namespace Go.Proofs.Ytbfadogjkhoohaa
open Go.RowKit
attribute [local go_sem] Oper.semAt_some

theorem grow_drewN (own : Nat → Prop) (w : World) (k : Nat) : Grow own w (w.drewN k) := ⟨rfl, rfl, rfl, Nat.le_refl _, fun _ _ _ => rfl⟩

/-- a lock at b: whose, held, spins -/
structure LockAt (w : World) (b : Nat) (th : Int) (h : Bool) (sp : Nat → Int) : Prop where
  c0 : w.cell? ⟨b, 0, none⟩ = some (.int .i64 th)
  c1 : w.cell? ⟨b, 1, none⟩ = some (.bool h)
  cs : ∀ k, k < 8 → w.cell? ⟨b, 2 + k, none⟩ = some (.int .i64 (sp k))
  c10 : w.cell? ⟨b, 10, none⟩ = some (.bool true)
  f : ∀ k, w.frozen? ⟨b, k, none⟩ = false

theorem LockAt.kept {w w' : World} {b : Nat} {th : Int} {h : Bool} {sp : Nat → Int} (hl : LockAt w b th h sp) (e : w'.heap[b]? = w.heap[b]?) : LockAt w' b th h sp :=
  ⟨(World.cell?_of_block (a := ⟨b, 0, none⟩) e).trans hl.c0, (World.cell?_of_block (a := ⟨b, 1, none⟩) e).trans hl.c1, fun k hk => (World.cell?_of_block (a := ⟨b, 2 + k, none⟩) e).trans (hl.cs k hk), (World.cell?_of_block (a := ⟨b, 10, none⟩) e).trans hl.c10,
   fun k => (World.frozen?_of_block (a := ⟨b, k, none⟩) e).trans (hl.f k)⟩
theorem LockAt.lt {w : World} {b : Nat} {th : Int} {h : Bool} {sp : Nat → Int} (hl : LockAt w b th h sp) : b < w.heap.size := by
  have := World.block_lt_of_cell? _ _ hl.c0
  simpa using this
theorem LockAt.grow {own : Nat → Prop} {w w' : World} {b : Nat} {th : Int} {h : Bool} {sp : Nat → Int} (hl : LockAt w b th h sp) (g : Grow own w w') (hn : ¬ own b) : LockAt w' b th h sp :=
  hl.kept (g.block b hl.lt hn)

def upd (sp : Nat → Int) (k : Nat) (v : Int) : Nat → Int := fun j => if j = k then v else sp j

theorem cs_same {w : World} {a : Addr} {u v : Value} (h : w.cell? a = some u) : (w.setCell a v).cell? a = some v := World.cell?_setCell_same _ _ _ h
theorem cs_other {w : World} {a b : Addr} {v : Value} (h : a ≠ b) : (w.setCell a v).cell? b = w.cell? b := World.cell?_setCell_other _ _ _ _ h
theorem LockAt.set0 {w : World} {b : Nat} {th : Int} {h : Bool} {sp : Nat → Int} (hl : LockAt w b th h sp) (v : Int) : LockAt (w.setCell ⟨b, 0, none⟩ (.int .i64 v)) b v h sp :=
  ⟨cs_same hl.c0, (cs_other (by simp)).trans hl.c1, fun k hk => (cs_other (by simp <;> omega)).trans (hl.cs k hk), (cs_other (by simp)).trans hl.c10, fun k => (World.frozen?_setCell _ _ _ _).trans (hl.f k)⟩
theorem LockAt.set1 {w : World} {b : Nat} {th : Int} {h : Bool} {sp : Nat → Int} (hl : LockAt w b th h sp) (v : Bool) : LockAt (w.setCell ⟨b, 1, none⟩ (.bool v)) b th v sp :=
  ⟨(cs_other (by simp)).trans hl.c0, cs_same hl.c1, fun k hk => (cs_other (by simp <;> omega)).trans (hl.cs k hk), (cs_other (by simp)).trans hl.c10, fun k => (World.frozen?_setCell _ _ _ _).trans (hl.f k)⟩
theorem LockAt.setS {w : World} {b : Nat} {th : Int} {h : Bool} {sp : Nat → Int} (hl : LockAt w b th h sp) (k : Nat) (hk : k < 8) (v : Int) : LockAt (w.setCell ⟨b, 2 + k, none⟩ (.int .i64 v)) b th h (upd sp k v) :=
  ⟨(cs_other (by simp <;> omega)).trans hl.c0, (cs_other (by simp <;> omega)).trans hl.c1, fun j hj => by
    by_cases e : j = k
    · subst e
      rw [cs_same (hl.cs j hj)]
      simp [upd]
    · rw [cs_other (by simp <;> omega), hl.cs j hj]
      simp [upd, e], (cs_other (by simp <;> omega)).trans hl.c10, fun k => (World.frozen?_setCell _ _ _ _).trans (hl.f k)⟩

theorem try_held (b : Nat) (th : Int) (sp : Nat → Int) (k : Nat) (hk : k < 8) (w : World) (hl : LockAt w b th true sp) :
    Calls Try.prog 48 #[.pointer (some ⟨b, 0, none⟩), .int .i64 (k : Int)] w fun e w' => e = .returned (.bool false) ∧ w' = (w.setCell ⟨b, 2 + k, none⟩ (.int .i64 (IntKind.i64.wrap (sp k + 1)))).drew := by
  have c0 := hl.c0
  have c1 := hl.c1
  have ck := hl.cs k hk
  have f := hl.f
  have hk' : (k : Int) < 8 := by omega
  have hb := hl.lt
  clear hl
  have mixed := mixedL
  refine (callsIn_wide (n := 0)).1 ?_
  gi_enter Try.func48, Try.ntmps48
  gi_wp2
  gi_region_with_o (fail)
  all_goals gi_wp2
  all_goals go_ret
  all_goals exact ⟨rfl, rfl⟩

theorem try_free (b : Nat) (th : Int) (sp : Nat → Int) (k : Nat) (hk : k < 8) (w : World) (hl : LockAt w b th false sp) :
    Calls Try.prog 48 #[.pointer (some ⟨b, 0, none⟩), .int .i64 (k : Int)] w fun e w' => e = .returned (.bool true) ∧ w' = ((w.setCell ⟨b, 0, none⟩ (.int .i64 k)).setCell ⟨b, 1, none⟩ (.bool true)).setCell ⟨b, 2 + k, none⟩ (.int .i64 0) := by
  have c0 := hl.c0
  have c1 := hl.c1
  have ck := hl.cs k hk
  have f := hl.f
  have hk' : (k : Int) < 8 := by omega
  have hb := hl.lt
  clear hl
  refine (callsIn_wide (n := 0)).1 ?_
  gi_enter Try.func48, Try.ntmps48
  gi_wp2
  go_ret
  exact ⟨rfl, rfl⟩

theorem hold_is (th : Int) (h : Bool) (t : Int) (w : World) :
    Calls Try.prog 50 #[.agg #[.int .i64 th, .bool h], .int .i64 t] w fun e w' => e = .returned (.bool (h && th == t)) ∧ w' = w.alloc (.cells #[.int .i64 th, .bool h] 65) := by
  refine (callsIn_wide (n := 0)).1 ?_
  cases h with
  | true =>
    gi_enter Try.func50, Try.ntmps50
    gi_wp2
    go_ret
    exact ⟨rfl, rfl⟩
  | false =>
    gi_enter Try.func50, Try.ntmps50
    gi_wp2
    go_ret
    exact ⟨rfl, rfl⟩

theorem try_is (b B : Nat) (th : Int) (h : Bool) (sp : Nat → Int) (t : Int) (w : World) (hl : LockAt w b th h sp) (h0 : w.cell? ⟨B, 0, none⟩ = some (.pointer (some ⟨b, 0, none⟩))) (h1 : w.cell? ⟨B + 1, 0, none⟩ = some (.int .i64 t)) :
    Calls Try.prog 49 #[.pointer (some ⟨B, 0, none⟩), .pointer (some ⟨B + 1, 0, none⟩)] w fun e w' => e = .returned (.bool (h && th == t)) ∧ Grow (fun _ => False) w w' := by
  have c0 := hl.c0
  have c1 := hl.c1
  clear hl
  have mixed := mixedL
  refine (callsIn_wide (n := 0)).1 ?_
  gi_enter Try.func49, Try.ntmps49
  gi_wp2
  gi_region_with_o (first
    | (gi_at_call 50; refine (callsIn_wide.2 (hold_is _ _ _ _)).mono ?_; rintro e w' ⟨rfl, rfl⟩))
  all_goals gi_wp2
  all_goals go_ret
  all_goals exact ⟨rfl, (Grow.drew _ _).trans (Grow.alloc _ _ _)⟩

theorem free_is (b B : Nat) (th : Int) (h : Bool) (sp : Nat → Int) (t : Int) (w : World) (hl : LockAt w b th h sp) (h0 : w.cell? ⟨B, 0, none⟩ = some (.pointer (some ⟨b, 0, none⟩))) (h1 : w.cell? ⟨B + 1, 0, none⟩ = some (.int .i64 t)) :
    Calls Try.prog 52 #[.pointer (some ⟨B, 0, none⟩), .pointer (some ⟨B + 1, 0, none⟩)] w fun e w' => e = .returned (.bool (!(h && th == t))) ∧ Grow (fun _ => False) w w' := by
  have c0 := hl.c0
  have c1 := hl.c1
  clear hl
  have mixed := mixedL
  refine (callsIn_wide (n := 0)).1 ?_
  gi_enter Try.func52, Try.ntmps52
  gi_wp2
  gi_region_with_o (first
    | (gi_at_call 50; refine (callsIn_wide.2 (hold_is _ _ _ _)).mono ?_; rintro e w' ⟨rfl, rfl⟩))
  all_goals gi_wp2
  all_goals go_ret
  all_goals refine ⟨?_, (Grow.drew _ _).trans (Grow.alloc _ _ _)⟩
  all_goals rw [Bool.not_and]
  all_goals rfl

theorem free_set (b B : Nat) (th : Int) (h : Bool) (sp : Nat → Int) (t : Int) (w : World) (hl : LockAt w b th h sp) (h0 : w.cell? ⟨B, 0, none⟩ = some (.pointer (some ⟨b, 0, none⟩))) :
    Calls Try.prog 51 #[.int .i64 t, .pointer (some ⟨B, 0, none⟩)] w fun e w' => e = .returned (.bool true) ∧ w' = (w.setCell ⟨b, 0, none⟩ (.int .i64 0)).setCell ⟨b, 1, none⟩ (.bool false) := by
  have c0 := hl.c0
  have c1 := hl.c1
  have f := hl.f
  have hb := hl.lt
  clear hl
  refine (callsIn_wide (n := 0)).1 ?_
  gi_enter Try.func51, Try.ntmps51
  gi_wp2
  go_ret
  exact ⟨rfl, rfl⟩

theorem spins_get (b B : Nat) (th : Int) (h : Bool) (sp : Nat → Int) (k : Nat) (hk : k < 8) (w : World) (hl : LockAt w b th h sp) (h0 : w.cell? ⟨B, 0, none⟩ = some (.pointer (some ⟨b, 0, none⟩))) :
    Calls Try.prog 54 #[.int .i64 (k : Int), .pointer (some ⟨B, 0, none⟩)] w fun e w' => e = .returned (.int .i64 (sp k)) ∧ w' = w := by
  have ck := hl.cs k hk
  have hk' : (k : Int) < 8 := by omega
  clear hl
  refine (callsIn_wide (n := 0)).1 ?_
  gi_enter Try.func54, Try.ntmps54
  gi_wp2
  go_ret
  exact ⟨rfl, rfl⟩

theorem lnew_any (w : World) : Calls Try.prog 22 #[] w fun e w' => e = .returned (.pointer (some ⟨w.heap.size, 0, none⟩)) ∧ LockAt w' w.heap.size 0 false (fun _ => 0) ∧ Grow (fun _ => False) w w' := by
  refine (callsIn_wide (n := 0)).1 ?_
  gi_enter Try.func22, Try.ntmps22
  gi_wp2
  go_ret
  refine ⟨rfl, ⟨?_, ?_, ?_, ?_, ?_⟩, Grow.alloc _ _ _⟩
  · simp [go_sem]
  · simp [go_sem]
  · intro k hk
    match k, hk with
    | 0, _ => simp [go_sem]
    | 1, _ => simp [go_sem]
    | 2, _ => simp [go_sem]
    | 3, _ => simp [go_sem]
    | 4, _ => simp [go_sem]
    | 5, _ => simp [go_sem]
    | 6, _ => simp [go_sem]
    | 7, _ => simp [go_sem]
  · simp [go_sem]
  · intro k; simp [go_sem]

theorem holder_any (b : Nat) (th : Int) (h : Bool) (sp : Nat → Int) (w : World) (hl : LockAt w b th h sp) :
    Calls Try.prog 23 #[.pointer (some ⟨b, 0, none⟩)] w fun e w' => e = .returned (.tuple #[.int .i64 th, .bool h]) ∧ Grow (fun _ => False) w w' := by
  have c0 := hl.c0
  have c1 := hl.c1
  have c10 := hl.c10
  clear hl
  go_enter Try.func23, Try.ntmps23
  go_wp2_with fail
  refine (lnone_at _ _ _ c10).mono ?_
  rintro e w' ⟨rfl, rfl⟩
  go_wp2_with fail
  go_quiet (fail)
  go_wp2
  go_ret2
  exact ⟨rfl, grow_drewN _ _ _⟩

end Go.Proofs.Ytbfadogjkhoohaa
