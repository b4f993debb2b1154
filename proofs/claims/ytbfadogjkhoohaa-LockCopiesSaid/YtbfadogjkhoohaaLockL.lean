/- contracts: waterlinelaw16.act -/
import Derived.Test.YtbfadogjkhoohaaLockK
namespace Go.Proofs.Ytbfadogjkhoohaa
open Go.RowKit
attribute [local go_sem] Oper.semAt_some undef

/-- the cells of a document's lock, boxed -/
structure RefAt (w : World) (B : Nat) (c : Int) (S : Nat → Int) : Prop where
  c0 : w.cell? ⟨B, 0, none⟩ = some (.int .i64 c)
  c1 : w.cell? ⟨B, 1, none⟩ = some (.int .i64 (S 0))
  c2 : w.cell? ⟨B, 2, none⟩ = some (.int .i64 (S 1))
  c3 : w.cell? ⟨B, 3, none⟩ = some (.int .i64 (S 2))
  c4 : w.cell? ⟨B, 4, none⟩ = some (.int .i64 (S 3))
  c5 : w.cell? ⟨B, 5, none⟩ = some (.int .i64 (S 4))
  c6 : w.cell? ⟨B, 6, none⟩ = some (.int .i64 (S 5))
  c7 : w.cell? ⟨B, 7, none⟩ = some (.int .i64 (S 6))
  c8 : w.cell? ⟨B, 8, none⟩ = some (.int .i64 (S 7))
  f : ∀ k, w.frozen? ⟨B, k, none⟩ = false

theorem RefAt.block {w w' : World} {B : Nat} {c : Int} {S : Nat → Int} (h : RefAt w B c S) (e : w'.heap[B]? = w.heap[B]?) : RefAt w' B c S :=
  have k : ∀ j, w'.cell? ⟨B, j, none⟩ = w.cell? ⟨B, j, none⟩ := fun j => World.cell?_of_block (a := ⟨B, j, none⟩) e
  ⟨(k 0).trans h.c0, (k 1).trans h.c1, (k 2).trans h.c2, (k 3).trans h.c3, (k 4).trans h.c4, (k 5).trans h.c5, (k 6).trans h.c6, (k 7).trans h.c7, (k 8).trans h.c8,
   fun j => (World.frozen?_of_block (a := ⟨B, j, none⟩) e).trans (h.f j)⟩
theorem RefAt.lt {w : World} {B : Nat} {c : Int} {S : Nat → Int} (h : RefAt w B c S) : B < w.heap.size := by
  have := World.block_lt_of_cell? _ _ h.c0
  simpa using this
theorem RefAt.grow {own : Nat → Prop} {w w' : World} {B : Nat} {c : Int} {S : Nat → Int} (h : RefAt w B c S) (g : Grow own w w') (hn : ¬ own B) : RefAt w' B c S :=
  h.block (g.block B h.lt hn)

/-- act's three boxes -/
theorem act_boxes (w : World) (c : Int) (S : Nat → Int) (x t : Int) : ∀ w3, ((w.alloc (.cells #[.int .i64 c, .int .i64 (S 0), .int .i64 (S 1), .int .i64 (S 2), .int .i64 (S 3), .int .i64 (S 4), .int .i64 (S 5), .int .i64 (S 6), .int .i64 (S 7)] 60)).alloc
    (.cells #[.int .i64 x, .int .i64 t] 45)).alloc (.cells #[.int .i64 0, .int .i64 0, .int .i64 0, .int .i64 0, .int .i64 0, .int .i64 0, .int .i64 0, .int .i64 0, .int .i64 0] 60) = w3 →
    RefAt w3 w.heap.size c S ∧ w3.cell? ⟨w.heap.size + 1, 0, none⟩ = some (.int .i64 x) ∧ w3.cell? ⟨w.heap.size + 1, 1, none⟩ = some (.int .i64 t) ∧ RefAt w3 (w.heap.size + 1 + 1) 0 (fun _ => 0) ∧ Newer w w3 ∧ w3.heap.size = w.heap.size + 1 + 1 + 1 := by
  rintro _ rfl
  refine ⟨⟨?_, ?_, ?_, ?_, ?_, ?_, ?_, ?_, ?_, ?_⟩, ?_, ?_, ⟨?_, ?_, ?_, ?_, ?_, ?_, ?_, ?_, ?_, ?_⟩, ((Grow.alloc _ _ _).trans (Grow.alloc _ _ _)).trans (Grow.alloc _ _ _), by simp⟩
  all_goals first | (intro k; simp [go_sem]; done) | (simp [go_sem]; done)

theorem load_ref {w : World} {B : Nat} {c : Int} {S : Nat → Int} (h : RefAt w B c S) : (loadVar 60 ⟨B, 0, none⟩).run Try.prog w = .ok (refV c S) w := by
  obtain ⟨c0, c1, c2, c3, c4, c5, c6, c7, c8, f⟩ := h
  unfold refV
  go_simp

/-- the cells as they stand behind a store of a whole lock -/
def refPut (w : World) (B : Nat) (c : Int) (S : Nat → Int) : World :=
  ((((((((w.setCell ⟨B, 0, none⟩ (.int .i64 c)).setCell ⟨B, 1, none⟩ (.int .i64 (S 0))).setCell ⟨B, 2, none⟩ (.int .i64 (S 1))).setCell ⟨B, 3, none⟩ (.int .i64 (S 2))).setCell ⟨B, 4, none⟩ (.int .i64 (S 3))).setCell
    ⟨B, 5, none⟩ (.int .i64 (S 4))).setCell ⟨B, 6, none⟩ (.int .i64 (S 5))).setCell ⟨B, 7, none⟩ (.int .i64 (S 6))).setCell ⟨B, 8, none⟩ (.int .i64 (S 7))

theorem RefAt.put {w : World} {B : Nat} {c : Int} {S : Nat → Int} (h : RefAt w B c S) (c' : Int) (S' : Nat → Int) : RefAt (refPut w B c' S') B c' S' := by
  obtain ⟨c0, c1, c2, c3, c4, c5, c6, c7, c8, f⟩ := h
  unfold refPut
  refine ⟨?_, ?_, ?_, ?_, ?_, ?_, ?_, ?_, ?_, ?_⟩
  all_goals first | (intro k; simp [go_sem, f]; done) | go_cell | (simp [go_sem, c0, c1, c2, c3, c4, c5, c6, c7, c8]; done)
theorem grow_refPut (w : World) (B : Nat) (c : Int) (S : Nat → Int) : Grow (fun k => k = B) w (refPut w B c S) := by
  have st : ∀ (W : World) (p : Addr) (u : Value), p.block = B → Grow (fun k => k = B) W (W.setCell p u) := fun W p u h => Grow.setCell (own := fun j => j = B) W p u h
  exact ((((((((st _ _ _ rfl).trans (st _ _ _ rfl)).trans (st _ _ _ rfl)).trans (st _ _ _ rfl)).trans (st _ _ _ rfl)).trans (st _ _ _ rfl)).trans (st _ _ _ rfl)).trans (st _ _ _ rfl)).trans (st _ _ _ rfl)

theorem results_tct {P : Program} {fn : Func} {u p v : Tmp} {ty : TypeId} (h : fn.results = #[.tmp u, .cell p ty, .tmp v]) {tmps : Array Value} {w : World} {ad : Addr} {x : Value} (ha : tmps.getD p undef = .pointer (some ad))
    (hl : (loadVar ty ad).run P w = .ok x w) : (results fn tmps).run P w = .ok (.tuple #[tmps.getD u undef, x, tmps.getD v undef]) w := by
  have ha' : tmps[p]?.getD undef = .pointer (some ad) := by simpa using ha
  simp [results, h, ha', asAddr, hl]

set_option maxRecDepth 100000 in
set_option maxHeartbeats 1600000 in
theorem act_try (b : Nat) (th th' : Int) (h h' : Bool) (sp sp' : Nat → Int) (c c' : Int) (S S' : Nat → Int) (t : Int) (r : Bool) (er : Int) (w : World) (hl : LockAt w b th h sp)
    (hT : ∀ W, LockAt W b th h sp → Calls Try.prog 24 #[.pointer (some ⟨b, 0, none⟩), .int .i64 t] W fun e W' => e = .returned (.tuple #[.bool r, .int .i64 er]) ∧ LockAt W' b th' h' sp' ∧ Grow (fun k => k = b ∨ W.heap.size ≤ k) W W')
    (hR : ∀ W, Calls Try.prog 56 #[refV c S, .int .i64 t] W fun e W' => e = .returned (.tuple #[refV c' S', .bool r, .int .i64 er]) ∧ Grow (fun _ => False) W W') :
    Calls Try.prog 30 #[.pointer (some ⟨b, 0, none⟩), refV c S, .agg #[.int .i64 0, .int .i64 t]] w fun e w' => e = .returned (.tuple #[.pointer (some ⟨b, 0, none⟩), refV c' S', .bool true]) ∧ LockAt w' b th' h' sp' ∧ Grow (fun k => k = b ∨ w.heap.size ≤ k) w w' := by
  have HL := Lib.hid hl
  have HT := Lib.hid hT
  have HR := Lib.hid hR
  have hb := hl.lt
  clear hl hT hR
  unfold refV
  refine (callsIn_wide (n := 0)).1 ?_
  gi_enter Try.func30, Try.ntmps30
  gi_wp2_with fail
  obtain ⟨w3, hw3⟩ : ∃ w3, ((w.alloc (.cells #[.int .i64 c, .int .i64 (S 0), .int .i64 (S 1), .int .i64 (S 2), .int .i64 (S 3), .int .i64 (S 4), .int .i64 (S 5), .int .i64 (S 6), .int .i64 (S 7)] 60)).alloc
    (.cells #[.int .i64 0, .int .i64 t] 45)).alloc (.cells #[.int .i64 0, .int .i64 0, .int .i64 0, .int .i64 0, .int .i64 0, .int .i64 0, .int .i64 0, .int .i64 0, .int .i64 0] 60) = w3 := ⟨_, rfl⟩
  obtain ⟨r1, x0, x1, r2, n3, z3⟩ := act_boxes w c S 0 t w3 hw3
  rw [hw3]
  clear hw3
  have z3 : w.heap.size + 1 + 1 + 1 ≤ w3.heap.size := Nat.le_of_eq z3.symm
  obtain ⟨B, hB⟩ : ∃ B, w.heap.size = B := ⟨_, rfl⟩
  have HB := Lib.hid hB
  rw [hB] at r1 x0 x1 r2 z3 hb
  rw [hB]
  have HN := Lib.hid n3
  clear hB n3
  refine (callsIn_wide.2 (HT.out _ (newer_lock HL.out HN.out))).mono ?_
  rintro e w4 ⟨rfl, l4, g4⟩
  have r1 := r1.grow g4 (fun h => by omega)
  have r2 := r2.grow g4 (fun h => by omega)
  have x0 := (g4.cell (p := ⟨B + 1, 0, none⟩) (by simp; omega) (fun h => by simp at h; omega)).trans x0
  have x1 := (g4.cell (p := ⟨B + 1, 1, none⟩) (by simp; omega) (fun h => by simp at h; omega)).trans x1
  have z4 : B + 1 + 1 + 1 ≤ w4.heap.size := Nat.le_trans z3 g4.size
  have HG4 := Lib.hid (And.intro l4 g4)
  clear l4 g4 x0
  have R2 := Lib.hid r2
  have c0 := r1.c0
  have c1 := r1.c1
  have c2 := r1.c2
  have c3 := r1.c3
  have c4 := r1.c4
  have c5 := r1.c5
  have c6 := r1.c6
  have c7 := r1.c7
  have c8 := r1.c8
  clear r1 r2
  gi_wp2_with fail
  have hR' := HR.out
  unfold refV at hR'
  refine (callsIn_wide.2 (hR' _)).mono ?_
  clear hR'
  rintro e w5 ⟨rfl, g5⟩
  have r2 := R2.out.grow g5 (fun h => h)
  have z5 : B + 1 + 1 + 1 ≤ w5.heap.size := Nat.le_trans z4 g5.size
  have HG5 := Lib.hid g5
  clear g5 c0 c1 c2 c3 c4 c5 c6 c7 c8 x1 R2
  have c0 := r2.c0
  have c1 := r2.c1
  have c2 := r2.c2
  have c3 := r2.c3
  have c4 := r2.c4
  have c5 := r2.c5
  have c6 := r2.c6
  have c7 := r2.c7
  have c8 := r2.c8
  have cf := r2.f
  have R2 := Lib.hid r2
  clear r2
  have mixed := mixedL
  have zb : B + 1 + 1 < w5.heap.size := by omega
  have zb2 : B + 1 + 1 ≠ w5.heap.size := by omega
  gi_wp2_with fail
  gi_region_with_o (first | (gi_at_call 25; refine (callsIn_wide.2 (lnum_any _ _)).mono ?_; rintro e w' ⟨rfl, rfl⟩))
  all_goals gi_wp2

  all_goals go_simp
  all_goals
    have r3 := (R2.out.put c' S')
    have gF : ∀ o, Grow (fun k => k = B + 1 + 1) w5 ((refPut w5 (B + 1 + 1) c' S').alloc o).drew := fun o => ((grow_refPut w5 (B + 1 + 1) c' S').trans (Grow.alloc _ _ _)).trans (Grow.drew _ _)
    have r4 : ∀ o, RefAt ((refPut w5 (B + 1 + 1) c' S').alloc o).drew (B + 1 + 1) c' S' := fun o => (r3.grow (Grow.alloc (fun _ => False) _ _) (fun h => h)).grow (Grow.drew (fun _ => False) _) (fun h => h)
    refine bodyPost_ret (results_tct rfl (ad := ⟨B + 1 + 1, 0, none⟩) rfl (load_ref (r4 _))) rfl ⟨rfl, ?_, ?_⟩
    · exact (HG4.out.1.grow HG5.out (fun h => h)).grow (gF _) (fun h => by have h : b = B + 1 + 1 := h; omega)
    · rw [HB.out]
      refine ((HN.out.mono ?_).trans (HG4.out.2.mono ?_)).trans ((HG5.out.mono (fun _ h => h.elim)).trans ((gF _).mono ?_))
      · intro k hk
        have hk : w.heap.size ≤ k := hk
        rw [HB.out] at hk
        exact .inr hk
      · intro k hk
        rcases hk with hk | hk
        · exact .inl hk
        · exact .inr (by omega)
      · intro k hk
        have hk : k = B + 1 + 1 := hk
        exact .inr (by omega)

end Go.Proofs.Ytbfadogjkhoohaa
