/- SeqChanges: the walk -/
import Derived.Test.YtbfadogjkhoohaaSeqI
import Derived.Sort.CutIn
namespace Go.Proofs.Ytbfadogjkhoohaa
open Go.RowKit
attribute [local go_sem] Oper.semAt_some

theorem inBlock_out {id : Nat} {Q : Exit → Act → World → Prop} {e : Exit} {a : Act} {w : World} (he : e = .normal ∨ e = .exit id) (h : Q .normal a w) : Exit.inBlock id Q e a w := by
  rcases he with rfl | rfl
  · exact h
  · simpa [Exit.inBlock] using h

/-- What the law's loop keeps: its counter at nb; nothing else that lay in the world W at the loop has turned. -/
def CountI (W : World) (nb : Nat) (G : List Int → Prop) : Nat → List Int → World → Prop := fun _ pre A =>
  A.cell? ⟨nb, 0, none⟩ = some (.int .i64 pre.length) ∧ A.frozen? ⟨nb, 0, none⟩ = false ∧ Grow (fun k => k = nb ∨ W.heap.size ≤ k) W A ∧ G pre
theorem CountI.stable {W : World} {nb : Nat} {G : List Int → Prop} (hnb : nb < W.heap.size) : ∀ E pre A B, CountI W nb G E pre A → Grow (Span W.heap.size E) A B → CountI W nb G E pre B := by
  rintro E pre A B ⟨h1, h2, h3, h4⟩ hg
  have hn : ¬ Span W.heap.size E nb := fun h => by have := h.1; omega
  have hz := h3.size
  exact ⟨(hg.cell (p := ⟨nb, 0, none⟩) (by simp; omega) hn).trans h1, (hg.frozen (p := ⟨nb, 0, none⟩) (by simp; omega) hn).trans h2, h3.trans (hg.mono (fun k h => .inr h.1)), h4⟩
theorem CountI.cell {W : World} {nb : Nat} {G : List Int → Prop} {E : Nat} {pre : List Int} {A : World} (h : CountI W nb G E pre A) {b o : Nat} {v : Value} (hb : b < W.heap.size) (hn : b ≠ nb) (hc : W.cell? ⟨b, o, none⟩ = some v) : A.cell? ⟨b, o, none⟩ = some v :=
  (h.2.2.1.cell (p := ⟨b, o, none⟩) hb (fun h => h.elim hn (fun h => by simp at h; omega))).trans hc
theorem CountI.frozen {W : World} {nb : Nat} {G : List Int → Prop} {E : Nat} {pre : List Int} {A : World} (h : CountI W nb G E pre A) {b o : Nat} {v : Bool} (hb : b < W.heap.size) (hn : b ≠ nb) (hc : W.frozen? ⟨b, o, none⟩ = v) : A.frozen? ⟨b, o, none⟩ = v :=
  (h.2.2.1.frozen (p := ⟨b, o, none⟩) hb (fun h => h.elim hn (fun h => by simp at h; omega))).trans hc

set_option maxRecDepth 100000 in
set_option maxHeartbeats 1600000 in
theorem seqChanges_any (f u many : Int) (w : World) (hf0 : 0 ≤ f) (hu : u ≤ 18446744073709551615) :
    Calls Try.prog 3 #[.int .u64 f, .int .u64 u, .int .i64 many] w fun e w' => e = .returned (.bool true) ∧ Below w.heap.size w w' := by
  have hnil := @run_eql_func_nil Try.prog 26 _ _ _ Try.underlying26
  refine (callsIn_wide (n := 0)).1 ?_
  refine callsIn_of_wp_marks Try.func3 rfl trivial ?_
  simp only [Try.ntmps3, List.size_toArray, List.length_cons, List.length_nil, Nat.reduceAdd, Nat.reduceSub, Array.replicate_succ, Array.replicate_zero, List.push_toArray, List.append_toArray, List.nil_append, List.cons_append]
  gi_wp2_with fail
  refine (callsIn_wide.2 (refChanges_any f u _ hf0 hu)).mono ?_
  rintro e w1 ⟨v, rfl, hrow, hb1⟩
  obtain ⟨B, hB⟩ : ∃ B, w.heap.size = B := ⟨_, rfl⟩
  have key1 : w1.cell? ⟨B, 0, none⟩ = some (.int .i64 many) ∧ w1.cell? ⟨B + 1, 0, none⟩ = some (.bool false) ∧ w1.frozen? ⟨B + 1, 0, none⟩ = false ∧ B + 2 ≤ w1.heap.size ∧ Below B w w1 := by
    subst hB
    have hs := hb1.size
    simp at hs
    exact ⟨(hb1.cell (p := ⟨w.heap.size, 0, none⟩) (by simp; omega)).trans (by go_simp), (hb1.cell (p := ⟨w.heap.size + 1, 0, none⟩) (by simp)).trans (by go_simp), (hb1.frozen (p := ⟨w.heap.size + 1, 0, none⟩) (by simp)).trans (by go_simp), by omega,
      ((((Below.refl _ w).alloc (Nat.le_refl _) _).alloc (by simp) _)).trans (hb1.mono (by simp; omega))⟩
  obtain ⟨cm1, cr1, fr1, z1, g1⟩ := key1
  have hrow : w1.ownsRow (B + 2) 22 1 v (changes f u).length ((changes f u).map (Value.int .u64)) := by rw [← hB]; simpa using hrow
  clear hb1
  obtain ⟨xs, hxs⟩ : ∃ xs, changes f u = xs := ⟨_, rfl⟩
  obtain ⟨L, hL⟩ : ∃ L, xs.length = L := ⟨_, rfl⟩
  rw [hxs, hL] at hrow
  have hLm : L ≤ 1000 := by rw [← hL, ← hxs]; unfold changes; simp; omega
  have HL := Lib.hid hL
  have HX := Lib.hid hxs
  clear hL hxs
  obtain ⟨sa, sc, rfl⟩ := ownsRow_slice hrow
  rw [hB]
  gi_wp2_with fail
  refine (callsIn_wide.2 (changes_st f u _ hf0 hu)).mono ?_
  rintro e w3 ⟨rfl, hit, g3, z3⟩
  obtain ⟨vb, hvb⟩ : ∃ vb, w1.heap.size = vb := ⟨_, rfl⟩
  have g13 : Grow (fun _ => False) w1 w3 := (Grow.alloc _ _ _).trans g3
  have cw3 : w3.cell? ⟨vb, 0, none⟩ = some (.slice sa L sc) := by rw [← hvb]; exact (g3.cell (p := ⟨w1.heap.size, 0, none⟩) (by simp) (fun h => h)).trans (by go_simp)
  have cm3 : w3.cell? ⟨B, 0, none⟩ = some (.int .i64 many) := (g13.cell (p := ⟨B, 0, none⟩) (by simp; omega) (fun h => h)).trans cm1
  have cr3 : w3.cell? ⟨B + 1, 0, none⟩ = some (.bool false) := (g13.cell (p := ⟨B + 1, 0, none⟩) (by simp; omega) (fun h => h)).trans cr1
  have fr3 : w3.frozen? ⟨B + 1, 0, none⟩ = false := (g13.frozen (p := ⟨B + 1, 0, none⟩) (by simp; omega) (fun h => h)).trans fr1
  have hrow3 := ownsRow_grow hrow g13 (fun _ _ h => h)
  have g03 : Below B w w3 := g1.trans (g13.below (n := B) (fun _ h => h.elim) (by omega))
  have z3' : vb + 3 ≤ w3.heap.size := by rw [z3]; simp; omega
  rw [hvb]
  simp only [World.size_alloc, hvb, HX.out] at hit
  clear cm1 cr1 fr1 hrow g1 g3 g13 z3
  -- the first turn
  obtain ⟨tb, htb⟩ : ∃ tb, w3.heap.size = tb := ⟨_, rfl⟩
  gi_wp2_with (first | (refine wpIn_loop_rounds 3 ?_; rw [roundsIn_succ]))
  have key5 : ∀ w5, (w3.alloc (.cells #[.int .i64 0] 3)).alloc (.cells #[.int .i64 0] 3) = w5 → w5.heap.size = tb + 2 ∧ w5.cell? ⟨tb, 0, none⟩ = some (.int .i64 0) ∧ w5.cell? ⟨tb + 1, 0, none⟩ = some (.int .i64 0) ∧ w5.frozen? ⟨tb + 1, 0, none⟩ = false ∧ Grow (fun _ => False) w3 w5 := by
    rintro _ rfl
    subst htb
    exact ⟨by simp, by go_simp, by go_simp, by go_simp, (Grow.alloc _ _ _).trans (Grow.alloc _ _ _)⟩
  obtain ⟨w5, hw5⟩ : ∃ w5, (w3.alloc (.cells #[.int .i64 0] 3)).alloc (.cells #[.int .i64 0] 3) = w5 := ⟨_, rfl⟩
  obtain ⟨z5, ct5, cn5, fn5, g35⟩ := key5 w5 hw5
  rw [hw5]
  clear hw5 key5
  replace z5 : tb + 2 ≤ w5.heap.size := Nat.le_of_eq z5.symm
  have cw5 := (g35.cell (p := ⟨vb, 0, none⟩) (by simp; omega) (fun h => h)).trans cw3
  have cm5 := (g35.cell (p := ⟨B, 0, none⟩) (by simp; omega) (fun h => h)).trans cm3
  have cr5 := (g35.cell (p := ⟨B + 1, 0, none⟩) (by simp; omega) (fun h => h)).trans cr3
  have fr5 := (g35.frozen (p := ⟨B + 1, 0, none⟩) (by simp; omega) (fun h => h)).trans fr3
  have hrow5 := ownsRow_grow hrow3 g35 (fun _ _ h => h)
  have g05 : Below B w w5 := g03.trans (g35.below (n := B) (fun _ h => h.elim) (by omega))
  have hb35 : Below w3.heap.size w3 w5 := g35.below (n := w3.heap.size) (fun _ h => h.elim) (Nat.le_refl _)
  have hgx : ∀ k, (Value.slice sa L sc).ownBlock = some k → B + 2 ≤ k ∧ k < tb := fun k hk => by have := hrow3.lt k hk; omega
  clear cw3 cm3 cr3 fr3 g35 g03
  generalize hG : (fun pre : List Int => pre = [] ∨ (pre.length : Int) < many) = G
  refine wpIn_range_thru (gf := 38) (xs := xs) rfl (fun _ _ => by kernel_rfl) hit (fun k h => by rcases h with rfl | rfl <;> omega) hb35 (fun _ => rfl)
    (CountI w5 (tb + 1) G) (CountI w5 (tb + 1) (fun pre => many ≤ pre.length ∧ G pre.dropLast)) (CountI.stable (by omega)) (CountI.stable (by omega)) ?init ?round ?after
  case init => exact fun E => ⟨cn5, fn5, Grow.refl _ _, by rw [← hG]; exact .inl rfl⟩
  case round =>
    rintro E l' pre x A hpre hE hEA hi0
    have hlt : pre.length < L := by
      have := hpre.length_le
      rw [HL.out] at this
      simp at this
      omega
    have hxa : xs[pre.length]? = some x := by
      obtain ⟨t, rfl⟩ := hpre
      simp
    obtain ⟨g, rfl⟩ : ∃ g, sa = some ⟨g, 0, none⟩ := by
      rcases hrow5.2 with ⟨h1, h2⟩ | ⟨g, cap, cur, h1, _⟩
      · omega
      · exact ⟨g, by simpa using (Value.slice.inj h1).1⟩
    have hxc : w5.cell? ⟨g, pre.length, none⟩ = some (.int .u64 x) := by
      rw [hrow5.cellAt pre.length (by omega), List.getElem?_map, hxa]; rfl
    have hg := hgx g rfl
    have HP := Lib.hid hpre
    have HA := Lib.hid hxa
    clear hpre hxa hrow hrow3 hrow5 hit
    gi_wp2
    refine ⟨Keep.refl _ _, Nat.le_refl _, CountI w5 (tb + 1) G E pre, CountI.stable (by omega) E pre, hi0, ?_⟩
    clear hi0
    intro W2 hi hz2
    have d1 := hi.1
    have d2 := hi.2.1
    have dt := hi.cell (b := tb) (by omega) (by omega) ct5
    have dm := hi.cell (b := B) (by omega) (by omega) cm5
    have dw := hi.cell (b := vb) (by omega) (by omega) cw5
    have dx := hi.cell (b := g) (by omega) (by omega) hxc
    have HI := Lib.hid hi
    clear hi ct5 cm5 cw5 hxc cn5 fn5 cr5 fr5 g05
    have i1 : (0 : Int) ≤ (pre.length : Int) := by omega
    have i2 : (pre.length : Int) < (L : Int) := by omega
    gi_wp2
    all_goals
      have hi := HI.out
      have hkeep : ∀ v, Keep (Leans (fun k => k = vb + 1 ∨ k = vb + 1 + 1) w5.heap.size E) W2 (W2.setCell ⟨tb + 1, 0, none⟩ v) := fun v k h => Below.heap_setCell _ _ _ _ (by
        show k ≠ tb + 1
        rcases h with h | h
        · rcases h with h | h <;> omega
        · have := h.1; omega)
      have hC : ∀ G' : List Int → Prop, G' (pre ++ [x]) → CountI w5 (tb + 1) G' E (pre ++ [x]) (W2.setCell ⟨tb + 1, 0, none⟩ (.int .i64 (pre.length + 1))) := fun G' hG' =>
        ⟨(World.cell?_setCell_same' _ _ _ (by rw [d1]; rfl)).trans (by simp), by rw [World.frozen?_setCell]; exact d2, hi.2.2.1.trans (Grow.setCell _ _ _ (.inl rfl)), hG'⟩
      subst hG
    · have hm : many ≤ (pre.length : Int) + 1 := by assumption
      exact ⟨rfl, hkeep _, by simp, hC _ ⟨by simp; omega, by simpa using hi.2.2.2⟩⟩
    · have hm : (pre.length : Int) + 1 < many := by assumption
      exact ⟨hkeep _, by simp, hC _ (.inr (by simp; omega))⟩
  case after =>
    intro E A hE hi hK
    obtain ⟨n, hn, hnL, hn1⟩ : ∃ n : Nat, CountI w5 (tb + 1) (fun _ => True) E (List.replicate n 0) A ∧ n ≤ L ∧ (n : Int) = min (L : Int) (max 1 many) := by
      subst hG
      rcases hi with hi | ⟨pre, hpre, hne, hi⟩
      · refine ⟨L, ⟨by rw [List.length_replicate, ← HL.out]; exact hi.1, hi.2.1, hi.2.2.1, trivial⟩, Nat.le_refl _, ?_⟩
        rcases hi.2.2.2 with h | h
        · have := HL.out; rw [h] at this; simp at this; omega
        · have := HL.out; omega
      · have hle := hpre.length_le
        rw [HL.out] at hle
        refine ⟨pre.length, ⟨by rw [List.length_replicate]; exact hi.1, hi.2.1, hi.2.2.1, trivial⟩, hle, ?_⟩
        obtain ⟨h1, h2⟩ := hi.2.2.2
        have hp : 0 < pre.length := List.length_pos_iff.2 hne
        rcases h2 with h | h
        · have : pre.length = 1 := by
            have := congrArg List.length h
            simp at this; omega
          omega
        · simp at h; omega
    have dn := hn.1
    rw [List.length_replicate] at dn
    have dt := hn.cell (b := tb) (by omega) (by omega) ct5
    have dm := hn.cell (b := B) (by omega) (by omega) cm5
    have dw := hn.cell (b := vb) (by omega) (by omega) cw5
    have dr := hn.cell (b := B + 1) (by omega) (by omega) cr5
    have gr := hn.frozen (b := B + 1) (by omega) (by omega) fr5
    have hg5 := hn.2.2.1
    have zA := hg5.size
    have HK := Lib.hid hK
    have HN := Lib.hid hn1
    clear hi hn ct5 cn5 fn5 cw5 cm5 cr5 fr5 hK hn1
    gi_upto_region 15 with fail
    gi_cut [67] from 47 (fun b W => b = .bool false ∧ W = A)
    case first =>
      have hn1 := HN.out
      by_cases h1 : 1 < many <;> by_cases h2 : (if 1 < many then many else 1) < (L : Int)
      · rw [if_pos h1] at h2
        have q1 : (n : Int) ≤ many := by omega
        have q2 : many ≤ (n : Int) := by omega
        clear hn1
        gi_wp2_with fail
        gi_meet
        exact ⟨rfl, rfl⟩
      · rw [if_pos h1] at h2
        have q1 : (n : Int) ≤ L := by omega
        have q2 : (L : Int) ≤ (n : Int) := by omega
        clear hn1
        gi_wp2_with fail
        gi_meet
        exact ⟨rfl, rfl⟩
      · rw [if_neg h1] at h2
        have q1 : (n : Int) ≤ 1 := by omega
        have q2 : 1 ≤ (n : Int) := by omega
        clear hn1
        gi_wp2_with fail
        gi_meet
        exact ⟨rfl, rfl⟩
      · rw [if_neg h1] at h2
        have q1 : (n : Int) ≤ L := by omega
        have q2 : (L : Int) ≤ (n : Int) := by omega
        clear hn1
        gi_wp2_with fail
        gi_meet
        exact ⟨rfl, rfl⟩
    case rest =>
      obtain ⟨rfl, hW⟩ := hcut
      rw [hW]
      clear hW
      obtain ⟨tc, htc⟩ : ∃ tc, A.heap.size = tc := ⟨_, rfl⟩
      gi_wp2_with (first | rw [roundsIn_succ])
      have key6 : ∀ w6, (A.alloc (.cells #[.int .i64 1] 3)).alloc (.cells #[.int .i64 0] 3) = w6 → w6.heap.size = tc + 2 ∧ w6.cell? ⟨tc, 0, none⟩ = some (.int .i64 1) ∧ w6.cell? ⟨tc + 1, 0, none⟩ = some (.int .i64 0) ∧ w6.frozen? ⟨tc + 1, 0, none⟩ = false ∧ Grow (fun _ => False) A w6 := by
        rintro _ rfl
        subst htc
        exact ⟨by simp, by go_simp, by go_simp, by go_simp, (Grow.alloc _ _ _).trans (Grow.alloc _ _ _)⟩
      obtain ⟨w6, hw6⟩ : ∃ w6, (A.alloc (.cells #[.int .i64 1] 3)).alloc (.cells #[.int .i64 0] 3) = w6 := ⟨_, rfl⟩
      obtain ⟨z6, ct6, cn6, fn6, gA6⟩ := key6 w6 hw6
      rw [hw6]
      clear hw6 key6
      replace z6 : tc + 2 ≤ w6.heap.size := Nat.le_of_eq z6.symm
      have hEA : w5.heap.size ≤ tc := by omega
      have cw6 := (gA6.cell (p := ⟨vb, 0, none⟩) (by simp; omega) (fun h => h)).trans dw
      have cr6 := (gA6.cell (p := ⟨B + 1, 0, none⟩) (by simp; omega) (fun h => h)).trans dr
      have fr6 := (gA6.frozen (p := ⟨B + 1, 0, none⟩) (by simp; omega) (fun h => h)).trans gr
      have hrow6 := ownsRow_grow (ownsRow_grow hrow5 hg5 (fun k hk h => by have := hgx k hk; rcases h with h | h <;> omega)) gA6 (fun _ _ h => h)
      have hb36 : Below w3.heap.size w3 w6 := (hb35.trans (hg5.below (n := w3.heap.size) (fun k h => by rcases h with h | h <;> omega) (by omega))).trans (gA6.below (fun _ h => h.elim) (by omega))
      have hK6 : w6.heap[w5.heap.size]? = some (.deferred (some [])) := (gA6.block w5.heap.size (Array.getElem?_eq_some_iff.1 HK.out).1 (fun h => h)).trans HK.out
      have HK6 := Lib.hid hK6
      have gA6a := gA6
      have hg5a := hg5
      clear hrow3 hrow5 hrow gA6 hg5 dw dr gr dm dt dn hK6
      refine wpIn_range_thru (gf := 38) (xs := xs) rfl (fun _ _ => by kernel_rfl) hit (fun k h => by rcases h with rfl | rfl <;> omega) hb36 (fun _ => rfl)
        (CountI w6 (tc + 1) (fun _ => True)) (fun _ _ _ => False) (CountI.stable (by omega)) (fun _ _ _ _ h _ => h) ?init2 ?round2 ?after2
      case init2 => exact fun E => ⟨cn6, fn6, Grow.refl _ _, trivial⟩
      case round2 =>
        rintro E l' pre x A' hpre hE' hEA' hi0
        have hlt : pre.length < L := by
          have := hpre.length_le
          rw [HL.out] at this
          simp at this
          omega
        have hxa : xs[pre.length]? = some x := by
          obtain ⟨t, rfl⟩ := hpre
          simp
        obtain ⟨g, rfl⟩ : ∃ g, sa = some ⟨g, 0, none⟩ := by
          rcases hrow6.2 with ⟨h1, h2⟩ | ⟨g, cap, cur, h1, _⟩
          · omega
          · exact ⟨g, by simpa using (Value.slice.inj h1).1⟩
        have hxc : w6.cell? ⟨g, pre.length, none⟩ = some (.int .u64 x) := by
          rw [hrow6.cellAt pre.length (by omega), List.getElem?_map, hxa]; rfl
        have hg := hgx g rfl
        have HP := Lib.hid hpre
        have HA := Lib.hid hxa
        clear hpre hxa hrow6 hit
        gi_wp2
        refine ⟨Keep.refl _ _, Nat.le_refl _, CountI w6 (tc + 1) (fun _ => True) E pre, CountI.stable (by omega) E pre, hi0, ?_⟩
        clear hi0
        intro W2 hi hz2
        have d1 := hi.1
        have d2 := hi.2.1
        have dt := hi.cell (b := tc) (by omega) (by omega) ct6
        have dw := hi.cell (b := vb) (by omega) (by omega) cw6
        have dx := hi.cell (b := g) (by omega) (by omega) hxc
        have HI := Lib.hid hi
        clear hi ct6 cw6 hxc cn6 fn6 cr6 fr6
        have i1 : (0 : Int) ≤ (pre.length : Int) := by omega
        have i2 : (pre.length : Int) < (L : Int) := by omega
        gi_wp2
        have hi := HI.out
        refine ⟨fun k h => Below.heap_setCell _ _ _ _ ?_, by simp, (World.cell?_setCell_same' _ _ _ (by rw [d1]; rfl)).trans (by simp), by rw [World.frozen?_setCell]; exact d2, hi.2.2.1.trans (Grow.setCell _ _ _ (.inl rfl)), trivial⟩
        show k ≠ tc + 1
        rcases h with h | h
        · rcases h with h | h <;> omega
        · have := h.1; omega
      case after2 =>
        intro E2 A2 hE2 hi hK2
        replace hi := hi.resolve_right (fun ⟨_, _, _, h⟩ => h)
        have dn := hi.1
        rw [HL.out] at dn
        have d2 := hi.2.1
        have dt := hi.cell (b := tc) (by omega) (by omega) ct6
        have dw := hi.cell (b := vb) (by omega) (by omega) cw6
        have dr := hi.cell (b := B + 1) (by omega) (by omega) cr6
        have gr := hi.frozen (b := B + 1) (by omega) (by omega) fr6
        have HI := Lib.hid hi
        have HK2 := Lib.hid hK2
        clear hi hK2 ct6 cn6 fn6 cw6 cr6 fr6 hrow6 hit
        gi_wp2_with (first | rw [roundsIn_succ])
        refine (callsIn_wide.2 (works17 _)).mono ?_
        rintro e w7 ⟨rfl, hb7⟩
        have hi := HI.out
        have e1 : B + 1 < A2.heap.size := World.block_lt_of_cell? _ _ dr
        have hzz := hi.2.2.1.size
        have dr7 := (hb7.cell (p := ⟨B + 1, 0, none⟩) (by simp; omega)).trans ((cell_alloc_l _ dr))
        have gr7 := (hb7.frozen (p := ⟨B + 1, 0, none⟩) (by simp; omega)).trans ((frozen_alloc_l _ dr gr))
        have hA2 : A2.heap[w5.heap.size]? = some (.deferred (some [])) := (hi.2.2.1.block w5.heap.size (by omega) (fun h => by rcases h with h | h <;> omega)).trans HK6.out
        have k1 : w7.heap[w6.heap.size]? = some (.deferred (some [])) := (hb7.block w6.heap.size (by simp; omega)).trans ((Below.heap_alloc _ _ _ (Array.getElem?_eq_some_iff.1 HK2.out).1).trans HK2.out)
        have k2 : w7.heap[w5.heap.size]? = some (.deferred (some [])) := (hb7.block w5.heap.size (by simp; omega)).trans ((Below.heap_alloc _ _ _ (by omega)).trans hA2)
        have K1 := Lib.hid k1
        have K2 := Lib.hid k2
        have HB := Lib.hid hb7
        clear hi k1 k2 hb7 dr gr dt dw dn d2 hA2
        gi_wp2
        have hb7 := HB.out
        have hn : w6.heap.size ≠ w5.heap.size := by omega
        refine bodyPostM_marks [w6.heap.size, w5.heap.size] rfl ?_ (by simpa using hn) ?_
        · intro D hD
          have hD' : D = w6.heap.size ∨ D = w5.heap.size := by simpa using hD
          rcases hD' with rfl | rfl
          · exact (Below.heap_setCell _ _ _ _ (by show w6.heap.size ≠ B + 1; omega)).trans K1.out
          · exact (Below.heap_setCell _ _ _ _ (by show w5.heap.size ≠ B + 1; omega)).trans K2.out
        · intro w9 h9
          have z7 : A2.heap.size + 1 ≤ w7.heap.size := by simpa using hb7.size
          refine ⟨_, results_cell rfl rfl ((show w9.cell? ⟨B + 1, 0, none⟩ = some (.bool true) → (loadVar 4 ⟨B + 1, 0, none⟩).run Try.prog w9 = .ok (.bool true) w9 from fun h => by go_simp) ?_), rfl, ?_⟩
          · refine (h9.cell (p := ⟨B + 1, 0, none⟩) (by simp; omega) (by simp; omega)).trans ?_
            exact World.cell?_setCell_same' _ _ _ (by rw [dr7]; rfl)
          · rw [hB]
            have j1 : Below B w A2 := ((g05.trans (hg5a.below (n := B) (fun k h => by rcases h with h | h <;> omega) (by omega))).trans (gA6a.below (fun _ h => h.elim) (by omega))).trans (HI.out.2.2.1.below (fun k h => by rcases h with h | h <;> omega) (by omega))
            have j2 : Below B w w7 := (j1.alloc (by omega) _).trans (hb7.mono (by simp; omega))
            exact (j2.setCell (p := ⟨B + 1, 0, none⟩) (by simp) _).trans (h9.below (n := B) (fun k h => by
              have h' : k = w6.heap.size ∨ k = w5.heap.size := by simpa using h
              rcases h' with h' | h' <;> omega) (by simp; omega))

end Go.Proofs.Ytbfadogjkhoohaa
