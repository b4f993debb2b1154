/- the chapter's rows of layer 17 -/
import Derived.Test.YtbfadogjkhoohaaSeqG
namespace Go.Proofs.Ytbfadogjkhoohaa
open Go.RowKit
attribute [local go_sem] Oper.semAt_some

def dig (l : List Int) : Int := l.foldl (fun n x => 10 * n + x) 0
theorem dig_snoc (l : List Int) (x : Int) : dig (l ++ [x]) = 10 * dig l + x := by simp [dig]
theorem changes16 : changes 1 6 = [2, 4, 6] := by decide
theorem pre16 {l : List Int} (h : l <+: [2, 4, 6]) : 0 ≤ dig l ∧ dig l ≤ 246 ∧ ∀ x ∈ l, 0 ≤ x ∧ x ≤ 6 := by
  rw [List.prefix_iff_eq_take] at h
  match hn : l.length with
  | 0 => rw [hn] at h; rw [h]; decide
  | 1 => rw [hn] at h; rw [h]; decide
  | 2 => rw [hn] at h; rw [h]; decide
  | n + 3 => rw [hn] at h; rw [h]; simp; decide

set_option maxRecDepth 100000 in
set_option maxHeartbeats 800000 in
theorem works17 (w : World) : Calls Try.prog 13 #[] w fun e w' => e = .returned (.bool true) ∧ Below w.heap.size w w' := by
  refine (callsIn_wide (n := 0)).1 ?_
  refine callsIn_of_wp_marks Try.func13 rfl trivial ?_
  simp only [Try.ntmps13, List.size_toArray, List.length_nil, Nat.reduceSub, Array.replicate_succ, Array.replicate_zero, List.push_toArray, List.append_toArray, List.nil_append, List.cons_append]
  obtain ⟨b, hb⟩ : ∃ b, w.heap.size = b := ⟨_, rfl⟩
  have hnil := @run_eql_func_nil Try.prog 26 _ _ _ Try.underlying26
  gi_wp2_with fail
  refine (callsIn_wide.2 (new_st _)).mono ?_; rintro e w1 ⟨rfl, s1, g1, z1⟩
  have g1 := g1.below (n := b) (fun _ h => h.elim) (by omega)
  rw [hb] at s1 ⊢
  have l1 := s1.lt
  clear z1
  gi_wp2_with fail
  refine (callsIn_wide.2 (look_ok _ _ _ s1 (by omega) (by omega) (by omega))).mono ?_; rintro e w' ⟨rfl, rfl⟩
  gi_wp2_with fail
  refine (callsIn_wide.2 (begin_st _ _ _ s1 (by omega) (by omega) (by omega))).mono ?_; rintro e w2 ⟨rfl, h⟩
  have g2 := g1.trans (h.below (Nat.le_refl _) l1); have s2 : SeqAt w2 b 1 := h.at_; have l2 := s2.lt; clear h g1 s1 l1
  gi_wp2_with fail
  refine (callsIn_wide.2 (good_st _ _ 0 _ s2 (by omega) (by omega))).mono ?_; rintro e w3 ⟨rfl, h⟩
  have g3 := g2.trans (h.below (Nat.le_refl _) l2); have s3 : SeqAt w3 b 1 := h.at_; have l3 := s3.lt; clear h g2 s2 l2
  gi_wp2_with fail
  refine (callsIn_wide.2 (look_bad _ _ _ s3 (by omega) (by omega))).mono ?_; rintro e w' ⟨rfl, rfl⟩
  gi_wp2_with fail
  refine (callsIn_wide.2 (begin_bad _ _ _ s3 (by omega) (by omega))).mono ?_; rintro e w' ⟨rfl, rfl⟩
  gi_wp2_with fail
  refine (callsIn_wide.2 (end_st _ _ _ s3 (by omega) (by omega) (by omega))).mono ?_; rintro e w4 ⟨rfl, h⟩
  have g4 := g3.trans (h.below (Nat.le_refl _) l3); have s4 : SeqAt w4 b 2 := h.at_; have l4 := s4.lt; clear h g3 s3 l3
  gi_wp2_with fail
  refine (callsIn_wide.2 (good_st _ _ 0 _ s4 (by omega) (by omega))).mono ?_; rintro e w5 ⟨rfl, h⟩
  have g5 := g4.trans (h.below (Nat.le_refl _) l4); have s5 : SeqAt w5 b 2 := h.at_; have l5 := s5.lt; clear h g4 s4 l4
  gi_wp2_with fail
  refine (callsIn_wide.2 (good_st _ _ 2 _ s5 (by omega) (by omega))).mono ?_; rintro e w6 ⟨rfl, h⟩
  have g6 := g5.trans (h.below (Nat.le_refl _) l5); have s6 : SeqAt w6 b 2 := h.at_; have l6 := s6.lt; clear h g5 s5 l5
  gi_wp2_with fail
  refine (callsIn_wide.2 (end_bad _ _ _ s6 (by omega) (by omega))).mono ?_; rintro e w' ⟨rfl, rfl⟩
  gi_wp2_with fail
  refine (callsIn_wide.2 (changes_st 1 6 _ (by omega) (by omega))).mono ?_; rintro e w7 ⟨rfl, -, h, z7⟩
  have c7 := h.cell (p := ⟨w6.heap.size, 0, none⟩) (by simp) (fun h => h)
  have f7 := h.frozen (p := ⟨w6.heap.size, 0, none⟩) (by simp) (fun h => h)
  have g7 := (g6.alloc (by omega) (.cells #[.int .u64 0] 22)).trans (h.below (n := b) (fun _ h => h.elim) (by simp; omega))
  have c7' : w7.cell? ⟨w6.heap.size, 0, none⟩ = some (.int .u64 0) := c7.trans (by go_simp)
  have f7' : w7.frozen? ⟨w6.heap.size, 0, none⟩ = false := f7.trans (by go_simp)
  clear c7 f7 h g6 z7
  have z7 : w6.heap.size < w7.heap.size := by
    rcases Nat.lt_or_ge w6.heap.size w7.heap.size with hl | hl
    · exact hl
    · simp [World.cell?, Array.getElem?_eq_none hl] at c7'
  gi_wp2_with fail
  refine (callsIn_wide.2 (changes_st 1 6 _ (by omega) (by omega))).mono ?_; rintro e w8 ⟨rfl, hit, h, z8⟩
  have c8 := (h.cell (p := ⟨w6.heap.size, 0, none⟩) (by simpa using z7) (fun h => h)).trans c7'
  have f8 := (h.frozen (p := ⟨w6.heap.size, 0, none⟩) (by simpa using z7) (fun h => h)).trans f7'
  have g8 := g7.trans (h.below (n := b) (fun _ h => h.elim) (by omega))
  have HG := Lib.hid g8
  have hz : w6.heap.size < w8.heap.size := by omega
  clear h g7 c7' f7' hnil g8
  rw [changes16] at hit
  gi_wp2_with (apply wpIn_scope_hop)
  have hbz : b < w8.heap.size := by omega
  clear s6
  generalize w6.heap.size = nb at *
  generalize w7.heap.size = cb at *
  have z8' : cb + 2 ≤ w8.heap.size := by omega
  clear z8
  obtain ⟨I, hIe⟩ : ∃ I : Nat → List Int → World → Prop, I = fun _ pre A => A.cell? ⟨nb, 0, none⟩ = some (.int .u64 (dig pre)) ∧ A.frozen? ⟨nb, 0, none⟩ = false ∧ Below b w8 A ∧ w8.heap.size ≤ A.heap.size := ⟨_, rfl⟩
  have hI : ∀ E pre A B, I E pre A → Grow (Span w8.heap.size E) A B → I E pre B := by
    rw [hIe]
    rintro E pre A B ⟨h1, h2, h3, h4⟩ hg
    have hn : ¬ Span w8.heap.size E nb := fun h => by have := h.1; omega
    exact ⟨(hg.cell (p := ⟨nb, 0, none⟩) (by simp; omega) hn).trans h1, (hg.frozen (p := ⟨nb, 0, none⟩) (by simp; omega) hn).trans h2, h3.trans (hg.below (fun k h => by have := h.1; omega) (by omega)), Nat.le_trans h4 hg.size⟩
  refine wpIn_range (gf := 38) rfl (fun _ _ => by kernel_rfl) hit (fun k h => by rcases h with rfl | rfl <;> omega) (Below.refl _ _) (fun _ => rfl)
    I (fun _ _ _ _ => False) hI (fun _ _ _ _ _ h _ => h) ?init ?round ?done ?stop
  case init => rw [hIe]; exact fun E => ⟨c8, f8, Below.refl _ _, Nat.le_refl _⟩
  case round =>
    rintro E l' pre x A hpre hE hEA hi0
    obtain ⟨d1, d2, d3⟩ := pre16 hpre
    have hx := d3 x (by simp)
    obtain ⟨e1, e2, _⟩ := pre16 ((List.prefix_append pre [x]).trans hpre)
    rw [dig_snoc] at d1 d2
    obtain ⟨x0, x6⟩ := hx
    clear d3 hit c8 f8 hpre
    gi_wp2
    refine ⟨Keep.refl _ _, Nat.le_refl _, I E pre, hI E pre, hi0, ?_⟩
    clear hi0 hI
    subst hIe
    rintro W2 ⟨h1, h2, h3, h4⟩ hz2
    have H3 := Lib.hid h3
    clear h3
    have hd : ¬ 10000 < 10 * dig pre + x := by omega
    gi_wp2
    refine ⟨fun k h => Below.heap_setCell _ _ _ _ ?_, by simp, ?_, ?_, ?_, ?_⟩
    · show k ≠ nb
      rcases h with h | h
      · rcases h with h | h <;> omega
      · have := h.1; omega
    · rw [dig_snoc]; exact World.cell?_setCell_same' _ _ _ (by rw [h1]; rfl)
    · rw [World.frozen?_setCell]; exact h2
    · exact H3.out.setCell (p := ⟨nb, 0, none⟩) (by show b ≤ nb; omega) _
    · simp; omega
  case done =>
    rintro E A hE hi hK
    subst hIe
    obtain ⟨h1, h2, h3, h4⟩ := hi
    have h1' : A.cell? ⟨nb, 0, none⟩ = some (.int .u64 246) := h1
    clear h1
    gi_wp2_with (first | (gi_at_call 18; refine (callsIn_wide.2 (num_any _ _)).mono ?_; rintro e w' ⟨rfl, rfl⟩))
    exact ⟨by simp, .inl ⟨_, _, rfl, run_takeDeferred hK, _, results_tmp rfl _ _ _, rfl, by
      rw [hb]
      exact (HG.out.trans h3).trans ((Grow.putObj (own := fun k => b ≤ k) A w8.heap.size _ (by show b ≤ w8.heap.size; omega)).below (fun _ h => h) (by omega))⟩⟩
  case stop => exact fun _ _ _ _ _ _ _ h => h.elim

end Go.Proofs.Ytbfadogjkhoohaa
