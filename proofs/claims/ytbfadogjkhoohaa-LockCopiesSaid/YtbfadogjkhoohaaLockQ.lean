/- contracts of package lock: on no lock -/
import Derived.Test.YtbfadogjkhoohaaLockP
namespace Go.Proofs.Ytbfadogjkhoohaa
open Go.RowKit
attribute [local go_sem] Oper.semAt_some undef

theorem LOff.newer {w W : World} {p : Option Addr} (h : LOff w p) (g : Newer w W) : LOff W p := by
  rcases h with rfl | ⟨b, rfl, h⟩
  · exact .inl rfl
  · exact .inr ⟨b, rfl, newer_cell h g⟩
theorem LOff.grow {own : Nat → Prop} {w W : World} {p : Option Addr} (h : LOff w p) (g : Grow own w W) (hn : ∀ b, own b → w.heap.size ≤ b) : LOff W p := h.newer (g.mono hn)

theorem lockErr_off (t : Int) (a3 : Bool) (e3 : Int) : lockErr true t a3 e3 = 1 := by unfold lockErr; rw [if_pos rfl]
theorem lockErr0_off (t : Int) : lockErr0 true t = 1 := by unfold lockErr0; rw [if_pos rfl]

theorem holder_off (p : Option Addr) (w : World) (hl : LOff w p) :
    Calls Try.prog 23 #[.pointer p] w fun e w' => e = .returned (.tuple #[.int .i64 0, .bool false]) ∧ Grow (fun _ => False) w w' := by
  go_enter Try.func23, Try.ntmps23
  go_wp2_with fail
  refine (lnone_off _ _ hl).mono ?_
  rintro e w' ⟨rfl, rfl⟩
  go_wp2
  go_ret2
  exact ⟨rfl, Grow.refl _ _⟩

theorem lbreak_off (p : Option Addr) (w : World) (hl : LOff w p) :
    Calls Try.prog 27 #[.pointer p] w fun e w' => e = .returned (.tuple #[.int .i64 0, .bool false]) ∧ Newer w w' := by
  go_enter Try.func27, Try.ntmps27
  go_wp2_with fail
  refine (holder_off p w hl).mono ?_
  rintro e w1 ⟨rfl, g1⟩
  have l1 := hl.grow g1 (fun _ h => h.elim)
  have G1 := Lib.hid g1
  clear g1
  go_wp2_with fail
  refine (lnone_off _ _ l1).mono ?_
  rintro e w' ⟨rfl, rfl⟩
  go_wp2
  go_ret2
  exact ⟨rfl, (Newer.refl w).ofGrow G1.out⟩

theorem ltry_off (p : Option Addr) (t : Int) (w : World) (hl : LOff w p) :
    Calls Try.prog 24 #[.pointer p, .int .i64 t] w fun e w' => e = .returned (.tuple #[.bool false, .int .i64 1]) ∧ Newer w w' := by
  have HL := Lib.hid hl
  clear hl
  refine (callsIn_wide (n := 0)).1 ?_
  gi_enter Try.func24, Try.ntmps24
  gi_wp2_with fail
  obtain ⟨w3, hw3⟩ : ∃ w3, ((w.alloc (.cells #[.pointer p] 40)).alloc (.cells #[.int .i64 t] 3)).alloc (.cells #[.func (.func 49) #[] #[.pointer (some ⟨w.heap.size, 0, none⟩), .pointer (some ⟨w.heap.size + 1, 0, none⟩)], .int .i64 260] 87) = w3 := ⟨_, rfl⟩
  obtain ⟨z, n0, n1, nf, ne, hN⟩ := three_new w _ _ _ _ 40 3 87 w3 hw3
  rw [hw3]
  clear hw3
  have z : w.heap.size + 1 + 1 + 1 ≤ w3.heap.size := Nat.le_of_eq z.symm
  have HN := Lib.hid hN
  have h3l := HL.out.newer hN
  have H3 := Lib.hid h3l
  clear hN h3l
  refine (callsIn_wide.2 (told1_any p true t 49 #[] _ false 260 (w.heap.size + 1 + 1) 48 _ #[] w3 (fun _ _ _ => True) (by decide) nf ne ?eg ?hn ?h3 ?ht)).mono ?_
  case eg => rintro f (rfl | rfl) args w <;> kernel_rfl
  case hn =>
    intro W hW
    exact lnone_off _ _ (H3.out.newer hW)
  case h3 => intro h; cases h
  case ht => intro h; rw [lockErr_off] at h; cases h
  rintro e w' (⟨he, rfl, hg⟩ | ⟨he, -⟩)
  · rw [lockErr_off] at *
    have HG := Lib.hid hg
    clear hg he
    gi_wp2
    go_ret2
    exact ⟨rfl, HN.out.trans (HG.out.mono (fun k hk => by have hk : w3.heap.size ≤ k := hk; show w.heap.size ≤ k; omega))⟩
  · rw [lockErr_off] at he
    cases he

theorem lfree_off (p : Option Addr) (t : Int) (w : World) (hl : LOff w p) :
    Calls Try.prog 26 #[.pointer p, .int .i64 t] w fun e w' => e = .returned (.int .i64 1) ∧ Newer w w' := by
  have HL := Lib.hid hl
  clear hl
  refine (callsIn_wide (n := 0)).1 ?_
  gi_enter Try.func26, Try.ntmps26
  gi_wp2_with fail
  obtain ⟨w3, hw3⟩ : ∃ w3, ((w.alloc (.cells #[.pointer p] 40)).alloc (.cells #[.int .i64 t] 3)).alloc (.cells #[.func (.func 52) #[] #[.pointer (some ⟨w.heap.size, 0, none⟩), .pointer (some ⟨w.heap.size + 1, 0, none⟩)], .int .i64 261] 87) = w3 := ⟨_, rfl⟩
  obtain ⟨z, n0, n1, nf, ne, hN⟩ := three_new w _ _ _ _ 40 3 87 w3 hw3
  rw [hw3]
  clear hw3
  have z : w.heap.size + 1 + 1 + 1 ≤ w3.heap.size := Nat.le_of_eq z.symm
  have HN := Lib.hid hN
  have h3l := HL.out.newer hN
  have H3 := Lib.hid h3l
  clear hN h3l
  refine (callsIn_wide.2 (told1_any p true t 52 #[] _ false 261 (w.heap.size + 1 + 1) 51 #[] _ w3 (fun _ _ _ => True) (by decide) nf ne ?eg ?hn ?h3 ?ht)).mono ?_
  case eg => rintro f (rfl | rfl) args w <;> kernel_rfl
  case hn =>
    intro W hW
    exact lnone_off _ _ (H3.out.newer hW)
  case h3 => intro h; cases h
  case ht => intro h; rw [lockErr_off] at h; cases h
  rintro e w' (⟨he, rfl, hg⟩ | ⟨he, -⟩)
  · rw [lockErr_off] at *
    have HG := Lib.hid hg
    clear hg he
    gi_wp2
    go_ret
    exact ⟨rfl, HN.out.trans (HG.out.mono (fun k hk => by have hk : w3.heap.size ≤ k := hk; show w.heap.size ≤ k; omega))⟩
  · rw [lockErr_off] at he
    cases he

theorem lspins_off (p : Option Addr) (t : Int) (w : World) (hl : LOff w p) :
    Calls Try.prog 28 #[.pointer p, .int .i64 t] w fun e w' => e = .returned (.tuple #[.int .i64 0, .int .i64 1]) ∧ Newer w w' := by
  have HL := Lib.hid hl
  clear hl
  refine (callsIn_wide (n := 0)).1 ?_
  gi_enter Try.func28, Try.ntmps28
  gi_wp2_with fail
  obtain ⟨w3, hw3⟩ : ∃ w3, w.alloc (.cells #[.pointer p] 40) = w3 := ⟨_, rfl⟩
  rw [hw3]
  have hN : Newer w w3 ∧ w3.cell? ⟨w.heap.size, 0, none⟩ = some (.pointer p) ∧ w.heap.size + 1 ≤ w3.heap.size := by
    subst hw3
    exact ⟨Grow.alloc _ _ _, by simp [go_sem], by simp⟩
  clear hw3
  obtain ⟨hN, n0, z⟩ := hN
  have HN := Lib.hid hN
  have h3l := HL.out.newer hN
  have H3 := Lib.hid h3l
  clear hN h3l
  refine (callsIn_wide.2 (told0_any p true t 54 #[] _ w3 (fun _ _ _ => True) ?eg ?hn ?ht)).mono ?_
  case eg => rintro args w; kernel_rfl
  case hn =>
    intro W hW
    exact lnone_off _ _ (H3.out.newer hW)
  case ht => intro h; rw [lockErr0_off] at h; cases h
  rintro e w' (⟨he, rfl, hg⟩ | ⟨he, -⟩)
  · rw [lockErr0_off] at *
    have HG := Lib.hid hg
    clear hg he
    gi_wp2
    go_ret2
    exact ⟨rfl, HN.out.trans (HG.out.mono (fun k hk => by have hk : w3.heap.size ≤ k := hk; show w.heap.size ≤ k; omega))⟩
  · rw [lockErr0_off] at he
    cases he

end Go.Proofs.Ytbfadogjkhoohaa
