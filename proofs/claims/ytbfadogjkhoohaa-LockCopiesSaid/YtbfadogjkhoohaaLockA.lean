/- contracts of package lock: the questions -/
import Derived.Test.YtbfadogjkhoohaaCore
import Derived.Test.YtbfadogjkhoohaaProg
import Derived.Deep.QuietTactic
import Derived.BigQuiet
import Derived.LoopNIn
import Derived.LoopIn
import Derived.Shelf.RegionOpen
import Derived.Sort.CutIn
import Derived.Lib.Hide
import Derived.Laws.EntriesVeiled
namespace Go.Proofs.Ytbfadogjkhoohaa
open Go.RowKit
attribute [local go_sem] Oper.semAt_some

theorem Try.info87 : (Try.prog.info? 87).map (fun i => (i.zero, i.size, i.bytes)) = some (some (.agg #[.nilFunc, .int .i64 0]), 2, 16) := by kernel_rfl
theorem mixedL : Try.prog.follows Departure.mixedOrders = true := by kernel_rfl

theorem lnone_nil (w : World) : Calls Try.prog 46 #[.pointer none] w fun e w' => e = .returned (.bool true) ∧ w = w' := by
  go_enter Try.func46, Try.ntmps46
  go_wp2
  go_ret
  exact ⟨rfl, rfl⟩
theorem lnone_at (b : Nat) (t : Bool) (w : World) (h : w.cell? ⟨b, 10, none⟩ = some (.bool t)) : Calls Try.prog 46 #[.pointer (some ⟨b, 0, none⟩)] w fun e w' => e = .returned (.bool (!t)) ∧ w = w' := by
  go_enter Try.func46, Try.ntmps46
  go_wp2
  go_ret
  exact ⟨rfl, rfl⟩

/-- a question as yield is handed it -/
def enq (q : Value × Int) : Array Value := #[.agg #[q.1, .int .i64 q.2]]

set_option maxRecDepth 100000 in
set_option maxHeartbeats 1600000 in
theorem asks_iter1 (lb tb mb qb : Nat) (lp : Option Addr) (t : Int) (fn : Fn) (ff fc : Array Value) (e3 : Int) (w : World) (h1 : w.cell? ⟨lb, 0, none⟩ = some (.pointer lp)) (h2 : w.cell? ⟨tb, 0, none⟩ = some (.int .i64 t))
    (h3 : w.cell? ⟨mb, 0, none⟩ = some (.slice (some ⟨qb, 0, none⟩) 1 1)) (h4 : w.cell? ⟨qb, 0, none⟩ = some (.func fn ff fc)) (h5 : w.cell? ⟨qb, 1, none⟩ = some (.int .i64 e3)) :
    Iter Try.prog 64 #[.pointer (some ⟨lb, 0, none⟩), .pointer (some ⟨tb, 0, none⟩), .pointer (some ⟨mb, 0, none⟩)] enq
      [(.func (.func 46) #[.pointer lp] #[], 1), (.func (.func 65) #[] #[.pointer (some ⟨tb, 0, none⟩)], 2), (.func fn ff fc, e3)] (fun _ => False) w := by
  obtain ⟨i0, hi, hz0, hz1, hz2⟩ := info_parts Try.info87
  intro l W hW J Jx sJ sJx h0 hY
  have a1 := World.block_lt_of_cell? _ _ h1
  have a2 := World.block_lt_of_cell? _ _ h2
  have a3 := World.block_lt_of_cell? _ _ h3
  have a4 := World.block_lt_of_cell? _ _ h4
  have hs := hW.size
  have c1 := (hW.cell a1).trans h1
  have c2 := (hW.cell a2).trans h2
  have c3 := (hW.cell a3).trans h3
  have c4 := (hW.cell a4).trans h4
  have c5 := (hW.cell (p := ⟨qb, 1, none⟩) a4).trans h5
  have b1 : lb < W.heap.size := by simp at a1; omega
  have b2 : tb < W.heap.size := by simp at a2; omega
  have b3 : mb < W.heap.size := by simp at a3; omega
  have b4 : qb < W.heap.size := by simp at a4; omega
  clear h1 h2 h3 h4 h5 a1 a2 a3 a4 hs hW
  have hown := World.ownsRow_lit W (base := W.heap.size) (e := 87) (size := 2) #[.func (.func 46) #[.pointer lp] #[], .int .i64 1, .func (.func 65) #[] #[.pointer (some ⟨tb, 0, none⟩)], .int .i64 2] 2 (Nat.le_refl _) (by decide) rfl
  gi_enter Try.func64, Try.ntmps64
  gi_wp2_with (gi_at_builtin; refine wpListIn_append_own _ rfl _ _ 97 rfl W.heap.size 87 i0 (.agg #[.nilFunc, .int .i64 0]) 2 16 Try.underlying97 hi hz0 hz1 hz2 rfl (by decide) _ _ _ rfl hown ⟨qb, 0, none⟩ 1 1 [.func fn ff fc, .int .i64 e3] rfl rfl ?c1 ?c2 ?c3 ?c4 ?c5 ?_)
  case c1 =>
    intro j u hj
    match j, hj with
    | 0, hj => simp at hj; subst hj; simpa using c4
    | 1, hj => simp at hj; subst hj; simpa using c5
  case c2 => exact ⟨rfl, rfl⟩
  case c3 => decide
  intro v' w1 hown' hgrow _
  obtain ⟨g, cap, rfl⟩ := ownsRow_succ hown'
  have hg := hown'.lt g rfl
  have zg := hgrow.size
  simp only [World.size_alloc] at zg
  have e0 := hown'.cellAt 0 (by decide)
  have e1 := hown'.cellAt 1 (by decide)
  have e2 := hown'.cellAt 2 (by decide)
  have e3' := hown'.cellAt 3 (by decide)
  have e4 := hown'.cellAt 4 (by decide)
  have e5 := hown'.cellAt 5 (by decide)
  simp only [List.getElem?_cons_zero, List.getElem?_cons_succ] at e0 e1 e2 e3' e4 e5
  have hJ1 : ∀ E, J E [] w1 := fun E => sJ E [] W w1 (h0 E) ⟨hgrow.os, hgrow.tape, hgrow.output, by omega, fun k hk hn => by
    have h := hgrow.block k (by simp; omega) (by simp [Value.ownBlock]; omega)
    exact h.trans (Below.heap_alloc _ _ _ hk)⟩
  clear hown hgrow hown' c4 c5 c1 c2 c3
  obtain ⟨E, hE⟩ : ∃ E, w1.heap.size = E := ⟨_, rfl⟩
  have hEw : E ≤ w1.heap.size := Nat.le_of_eq hE.symm
  have hWE : W.heap.size ≤ E := by rw [← hE]; omega
  have hgE : g < E := by rw [← hE]; exact hg.2
  have hWg : W.heap.size ≤ g := hg.1
  obtain ⟨fn0, tm0, as0, bo0, hy0, hR0⟩ := hY E [] (.func (.func 46) #[.pointer lp] #[], 1) (w1.alloc (.cells #[.func (.func 46) #[.pointer lp] #[], .int .i64 1] 87)) (by exact List.prefix_iff_eq_take.2 rfl) (by omega) (by simp; omega) (sJ E _ _ _ (hJ1 E) (Grow.alloc _ _ _))
  simp only [enq] at hy0
  gi_wp2_with (first | (refine wpIn_loop_rounds 4 ?_; rw [roundsIn_succ]) | rw [roundsIn_succ])
  refine hR0.mono ?_
  clear hR0 hy0
  rintro e v0 ⟨k0, z0, (⟨rfl, j0⟩ | ⟨rfl, x0⟩)⟩
  rotate_left
  · gi_wp2
    refine bodyPost_ret (results_none rfl _ _ _) rfl ?_
    exact ⟨⟨_, rfl⟩, E, by omega, .inr ⟨_, List.prefix_iff_eq_take.2 rfl, by simp, x0⟩⟩
  simp only [World.size_alloc] at z0
  have bg0 : v0.heap[g]? = w1.heap[g]? := (k0 g (.inr ⟨by omega, by omega⟩)).trans (Below.heap_alloc _ _ _ (by omega))
  replace e2 := (World.cell?_of_block (w := w1) (w' := v0) (a := ⟨g, 2, none⟩) bg0).trans e2
  replace e3' := (World.cell?_of_block (w := w1) (w' := v0) (a := ⟨g, 3, none⟩) bg0).trans e3'
  replace e4 := (World.cell?_of_block (w := w1) (w' := v0) (a := ⟨g, 4, none⟩) bg0).trans e4
  replace e5 := (World.cell?_of_block (w := w1) (w' := v0) (a := ⟨g, 5, none⟩) bg0).trans e5
  clear bg0 k0
  clear e0 e1 hE hJ1
  have zz0 : E ≤ v0.heap.size := by omega
  obtain ⟨fn1, tm1, as1, bo1, hy1, hR1⟩ := hY E [(.func (.func 46) #[.pointer lp] #[], 1)] (.func (.func 65) #[] #[.pointer (some ⟨tb, 0, none⟩)], 2) (v0.alloc (.cells #[.func (.func 65) #[] #[.pointer (some ⟨tb, 0, none⟩)], .int .i64 2] 87)) (by exact List.prefix_iff_eq_take.2 rfl) (by omega) (by simp; omega) (sJ E _ _ _ (j0) (Grow.alloc _ _ _))
  simp only [enq] at hy1
  gi_wp2_with (first | (refine wpIn_loop_rounds 4 ?_; rw [roundsIn_succ]) | rw [roundsIn_succ])
  refine hR1.mono ?_
  clear hR1 hy1
  rintro e v1 ⟨k1, z1, (⟨rfl, j1⟩ | ⟨rfl, x1⟩)⟩
  rotate_left
  · gi_wp2
    refine bodyPost_ret (results_none rfl _ _ _) rfl ?_
    exact ⟨⟨_, rfl⟩, E, by omega, .inr ⟨_, List.prefix_iff_eq_take.2 rfl, by simp, x1⟩⟩
  simp only [World.size_alloc] at z1
  have bg1 : v1.heap[g]? = v0.heap[g]? := (k1 g (.inr ⟨by omega, by omega⟩)).trans (Below.heap_alloc _ _ _ (by omega))
  replace e4 := (World.cell?_of_block (w := v0) (w' := v1) (a := ⟨g, 4, none⟩) bg1).trans e4
  replace e5 := (World.cell?_of_block (w := v0) (w' := v1) (a := ⟨g, 5, none⟩) bg1).trans e5
  clear bg1 k1
  clear e2 e3'
  have zz1 : E ≤ v1.heap.size := by omega
  obtain ⟨fn2, tm2, as2, bo2, hy2, hR2⟩ := hY E [(.func (.func 46) #[.pointer lp] #[], 1), (.func (.func 65) #[] #[.pointer (some ⟨tb, 0, none⟩)], 2)] (.func fn ff fc, e3) (v1.alloc (.cells #[.func fn ff fc, .int .i64 e3] 87)) (by exact List.prefix_iff_eq_take.2 rfl) (by omega) (by simp; omega) (sJ E _ _ _ (j1) (Grow.alloc _ _ _))
  simp only [enq] at hy2
  gi_wp2_with (first | (refine wpIn_loop_rounds 4 ?_; rw [roundsIn_succ]) | rw [roundsIn_succ])
  refine hR2.mono ?_
  clear hR2 hy2
  rintro e v2 ⟨k2, z2, (⟨rfl, j2⟩ | ⟨rfl, x2⟩)⟩
  rotate_left
  · gi_wp2
    refine bodyPost_ret (results_none rfl _ _ _) rfl ?_
    exact ⟨⟨_, rfl⟩, E, by omega, .inr ⟨_, List.prefix_iff_eq_take.2 rfl, by simp, x2⟩⟩
  simp only [World.size_alloc] at z2
  have bg2 : v2.heap[g]? = v1.heap[g]? := (k2 g (.inr ⟨by omega, by omega⟩)).trans (Below.heap_alloc _ _ _ (by omega))
  clear bg2 k2
  clear e4 e5
  have zz2 : E ≤ v2.heap.size := by omega
  gi_wp2_with (first | rw [roundsIn_succ])
  go_end0
  exact ⟨⟨_, rfl⟩, E, by omega, .inl j2⟩

set_option maxRecDepth 100000 in
set_option maxHeartbeats 1600000 in
theorem asks_iter0 (lb tb mb : Nat) (lp : Option Addr) (t : Int) (w : World) (h1 : w.cell? ⟨lb, 0, none⟩ = some (.pointer lp)) (h2 : w.cell? ⟨tb, 0, none⟩ = some (.int .i64 t))
    (h3 : w.cell? ⟨mb, 0, none⟩ = some (.slice none 0 0)) :
    Iter Try.prog 64 #[.pointer (some ⟨lb, 0, none⟩), .pointer (some ⟨tb, 0, none⟩), .pointer (some ⟨mb, 0, none⟩)] enq
      [(.func (.func 46) #[.pointer lp] #[], 1), (.func (.func 65) #[] #[.pointer (some ⟨tb, 0, none⟩)], 2)] (fun _ => False) w := by
  obtain ⟨i0, hi, hz0, hz1, hz2⟩ := info_parts Try.info87
  intro l W hW J Jx sJ sJx h0 hY
  have a1 := World.block_lt_of_cell? _ _ h1
  have a2 := World.block_lt_of_cell? _ _ h2
  have a3 := World.block_lt_of_cell? _ _ h3
  have hs := hW.size
  have c1 := (hW.cell a1).trans h1
  have c2 := (hW.cell a2).trans h2
  have c3 := (hW.cell a3).trans h3
  have b1 : lb < W.heap.size := by simp at a1; omega
  have b2 : tb < W.heap.size := by simp at a2; omega
  have b3 : mb < W.heap.size := by simp at a3; omega
  clear h1 h2 h3 a1 a2 a3 hs hW
  have hown := World.ownsRow_lit W (base := W.heap.size) (e := 87) (size := 2) #[.func (.func 46) #[.pointer lp] #[], .int .i64 1, .func (.func 65) #[] #[.pointer (some ⟨tb, 0, none⟩)], .int .i64 2] 2 (Nat.le_refl _) (by decide) rfl
  have happ := run_append_owned_none (P := Try.prog) (W.alloc (.cells #[.func (.func 46) #[.pointer lp] #[], .int .i64 1, .func (.func 65) #[] #[.pointer (some ⟨tb, 0, none⟩)], .int .i64 2] 87)) W.heap.size 97 97 87 i0 2 Try.underlying97 hi _ 2 _ hown
  gi_enter Try.func64, Try.ntmps64
  gi_wp2_with fail
  obtain ⟨w1, hw1⟩ : ∃ w1, W.alloc (.cells #[.func (.func 46) #[.pointer lp] #[], .int .i64 1, .func (.func 65) #[] #[.pointer (some ⟨tb, 0, none⟩)], .int .i64 2] 87) = w1 := ⟨_, rfl⟩
  rw [hw1] at hown ⊢
  have hg := hown.lt W.heap.size rfl
  have e0 := hown.cellAt 0 (by decide)
  have e1 := hown.cellAt 1 (by decide)
  have e2 := hown.cellAt 2 (by decide)
  have e3' := hown.cellAt 3 (by decide)
  simp only [List.getElem?_cons_zero, List.getElem?_cons_succ] at e0 e1 e2 e3'
  have hJ1 : ∀ E, J E [] w1 := fun E => by rw [← hw1]; exact sJ E [] W _ (h0 E) (Grow.alloc _ _ _)
  obtain ⟨g, hgw⟩ : ∃ g, W.heap.size = g := ⟨_, rfl⟩
  rw [hgw] at e0 e1 e2 e3' hg
  have hWg : W.heap.size ≤ g := Nat.le_of_eq hgw
  clear hown c1 c2 c3 happ hw1
  obtain ⟨E, hE⟩ : ∃ E, w1.heap.size = E := ⟨_, rfl⟩
  have hEw : E ≤ w1.heap.size := Nat.le_of_eq hE.symm
  have hgE : g < E := by rw [← hE]; exact hg.2
  have hWE : W.heap.size ≤ E := by omega
  obtain ⟨fn0, tm0, as0, bo0, hy0, hR0⟩ := hY E [] (.func (.func 46) #[.pointer lp] #[], 1) (w1.alloc (.cells #[.func (.func 46) #[.pointer lp] #[], .int .i64 1] 87)) (by exact List.prefix_iff_eq_take.2 rfl) (by omega) (by simp; omega) (sJ E _ _ _ (hJ1 E) (Grow.alloc _ _ _))
  simp only [enq] at hy0
  gi_wp2_with (first | (refine wpIn_loop_rounds 4 ?_; rw [roundsIn_succ]) | rw [roundsIn_succ])
  refine hR0.mono ?_
  clear hR0 hy0
  rintro e v0 ⟨k0, z0, (⟨rfl, j0⟩ | ⟨rfl, x0⟩)⟩
  rotate_left
  · gi_wp2
    refine bodyPost_ret (results_none rfl _ _ _) rfl ?_
    exact ⟨⟨_, rfl⟩, E, by omega, .inr ⟨_, List.prefix_iff_eq_take.2 rfl, by simp, x0⟩⟩
  simp only [World.size_alloc] at z0
  have bg0 : v0.heap[g]? = w1.heap[g]? := (k0 g (.inr ⟨by omega, by omega⟩)).trans (Below.heap_alloc _ _ _ (by omega))
  replace e2 := (World.cell?_of_block (w := w1) (w' := v0) (a := ⟨g, 2, none⟩) bg0).trans e2
  replace e3' := (World.cell?_of_block (w := w1) (w' := v0) (a := ⟨g, 3, none⟩) bg0).trans e3'
  clear bg0 k0
  clear e0 e1 hE hJ1
  have zz0 : E ≤ v0.heap.size := by omega
  obtain ⟨fn1, tm1, as1, bo1, hy1, hR1⟩ := hY E [(.func (.func 46) #[.pointer lp] #[], 1)] (.func (.func 65) #[] #[.pointer (some ⟨tb, 0, none⟩)], 2) (v0.alloc (.cells #[.func (.func 65) #[] #[.pointer (some ⟨tb, 0, none⟩)], .int .i64 2] 87)) (by exact List.prefix_iff_eq_take.2 rfl) (by omega) (by simp; omega) (sJ E _ _ _ (j0) (Grow.alloc _ _ _))
  simp only [enq] at hy1
  gi_wp2_with (first | (refine wpIn_loop_rounds 4 ?_; rw [roundsIn_succ]) | rw [roundsIn_succ])
  refine hR1.mono ?_
  clear hR1 hy1
  rintro e v1 ⟨k1, z1, (⟨rfl, j1⟩ | ⟨rfl, x1⟩)⟩
  rotate_left
  · gi_wp2
    refine bodyPost_ret (results_none rfl _ _ _) rfl ?_
    exact ⟨⟨_, rfl⟩, E, by omega, .inr ⟨_, List.prefix_iff_eq_take.2 rfl, by simp, x1⟩⟩
  simp only [World.size_alloc] at z1
  have bg1 : v1.heap[g]? = v0.heap[g]? := (k1 g (.inr ⟨by omega, by omega⟩)).trans (Below.heap_alloc _ _ _ (by omega))
  clear bg1 k1
  clear e2 e3'
  have zz1 : E ≤ v1.heap.size := by omega
  gi_wp2_with (first | rw [roundsIn_succ])
  go_end0
  exact ⟨⟨_, rfl⟩, E, by omega, .inl j1⟩

end Go.Proofs.Ytbfadogjkhoohaa
