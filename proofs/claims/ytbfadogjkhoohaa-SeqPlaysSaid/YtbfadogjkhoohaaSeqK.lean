/- SeqCounts: the walk -/
import Derived.Test.YtbfadogjkhoohaaSeqJ
namespace Go.Proofs.Ytbfadogjkhoohaa
open Go.RowKit
attribute [local go_sem] Oper.semAt_some

/-- the looks told till now -/
def twos (k : Nat) : List Value := (List.range k).map (fun j : Nat => Value.int .u64 (2 * (j : Int)))
theorem twos_succ (k : Nat) : twos (k + 1) = twos k ++ [.int .u64 (2 * (k : Int))] := by simp [twos, List.range_succ]
theorem twos_get (k j : Nat) (h : j < k) : (twos k)[j]? = some (.int .u64 (2 * (j : Int))) := by simp [twos, h]

theorem evens_append (l m : List Int) : evens (l ++ m) = evens l ++ evens m := by simp [evens]
theorem upTo_two (N : Nat) : upTo 0 (2 * ((N + 1 : Nat) : Int)) = upTo 0 (2 * (N : Int)) ++ [2 * (N : Int) + 1, 2 * (N : Int) + 2] := by
  unfold upTo
  rw [show (2 * ((N + 1 : Nat) : Int) - 0).toNat = 2 * N + 1 + 1 by omega, show (2 * (N : Int) - 0).toNat = 2 * N by omega, List.range_succ, List.range_succ]
  simp
  omega
theorem evens_two (N : Nat) : evens (upTo 0 (2 * (N : Int))) = (List.range N).map (fun j : Nat => 2 * (j : Int) + 2) := by
  induction N with
  | zero => rfl
  | succ N ih =>
    rw [upTo_two, evens_append, ih, List.range_succ, List.map_append]
    congr 1
    have h1 : (2 * (N : Int) + 1) % 2 = 1 := by omega
    have h2 : (2 * (N : Int) + 2) % 2 = 0 := by omega
    simp [evens, h1, h2]
theorem changes_two (N : Nat) (h : N ≤ 200) : changes 0 (2 * (N : Int)) = (List.range N).map (fun j : Nat => 2 * (j : Int) + 2) := by
  unfold changes
  rw [evens_two, List.take_of_length_le (by simp; omega)]

theorem CountI.bump {W : World} {nb : Nat} {G G' : List Int → Prop} {E : Nat} {pre : List Int} {A : World} {x : Int} {K : Nat → Prop} (hi : CountI W nb G E pre A) (hK : ∀ k, K k → k ≠ nb) (hg : G' (pre ++ [x])) :
    Keep K A (A.setCell ⟨nb, 0, none⟩ (.int .i64 (pre.length + 1))) ∧ A.heap.size ≤ (A.setCell ⟨nb, 0, none⟩ (.int .i64 (pre.length + 1))).heap.size ∧
      CountI W nb G' E (pre ++ [x]) (A.setCell ⟨nb, 0, none⟩ (.int .i64 (pre.length + 1))) :=
  ⟨fun k h => Below.heap_setCell _ _ _ _ (hK k h), by simp, (World.cell?_setCell_same' _ _ _ (by rw [hi.1]; rfl)).trans (by simp), by rw [World.frozen?_setCell]; exact hi.2.1, hi.2.2.1.trans (Grow.setCell _ _ _ (.inl rfl)), hg⟩

structure CountsAt (B b lb : Nat) (w : World) (k : Nat) (n : Int) (v : Value) (W : World) : Prop where
  res : Boxed W B 4 (.bool false)
  at_ : SeqAt W b n
  box : Boxed W lb 23 v
  row : W.ownsRow (B + 2) 22 1 v k (twos k)
  below : Below B w W

set_option maxRecDepth 100000 in
set_option maxHeartbeats 1600000 in
theorem seqCounts_any (many : Int) (w : World) :
    Calls Try.prog 4 #[.int .i64 many] w fun e w' => e = .returned (.bool true) ∧ Below w.heap.size w w' := by
  obtain ⟨i0, hi, hz0, hz1, hz2⟩ := info_parts Try.info22
  have hnil := @run_eql_func_nil Try.prog 26 _ _ _ Try.underlying26
  obtain ⟨B, hB⟩ : ∃ B, w.heap.size = B := ⟨_, rfl⟩
  by_cases hm0 : many < 0 ∨ 200 < many
  · have hm : (many < 0) ∨ (¬ many < 0 ∧ 200 < many) := by omega
    rcases hm with hm | ⟨hm, hm'⟩
    all_goals
      clear hm0
      refine (callsIn_wide (n := 0)).1 ?_
      refine callsIn_of_wp_marks Try.func4 rfl trivial ?_
      simp only [Try.ntmps4, List.size_toArray, List.length_cons, List.length_nil, Nat.reduceAdd, Nat.reduceSub, Array.replicate_succ, Array.replicate_zero, List.push_toArray, List.append_toArray, List.nil_append, List.cons_append]
      gi_wp2_with fail
      refine (callsIn_wide.2 (works17 _)).mono ?_
      rintro e w1 ⟨rfl, hb1⟩
      have b1 := (Boxed.new w 4 (.bool false))
      have b2 : Boxed w1 w.heap.size 4 (.bool false) := (hb1.block w.heap.size (by simp)).trans b1
      have c2 := b2.cell
      have f2 := b2.frozen
      have HB := Lib.hid hb1
      clear hb1
      rw [hB] at b2 c2 f2
      gi_wp2
      have hb1 := HB.out
      refine bodyPostM_marks [] rfl (by simp) (by simp) ?_
      intro w9 h9
      refine ⟨_, results_cell rfl rfl ((show w9.cell? ⟨B, 0, none⟩ = some (.bool true) → (loadVar 4 ⟨B, 0, none⟩).run Try.prog w9 = .ok (.bool true) w9 from fun h => by go_simp) ?_), rfl, ?_⟩
      · have b3 := boxed_grow (b2.set (.bool true)) h9 (by simp)
        exact b3.cell
      · rw [hB]
        exact ((((Below.refl B w).alloc (by omega) _).trans (hb1.mono (by simp; omega))).setCell (p := ⟨B, 0, none⟩) (by simp) _).trans (h9.below (n := B) (by simp) (by have := hb1.size; simp at this; simp; omega))
  · obtain ⟨N, rfl⟩ : ∃ N : Nat, many = N := ⟨many.toNat, by omega⟩
    have hN : N ≤ 200 := by omega
    clear hm0
    refine (callsIn_wide (n := 0)).1 ?_
    refine callsIn_of_wp_marks Try.func4 rfl trivial ?_
    simp only [Try.ntmps4, List.size_toArray, List.length_cons, List.length_nil, Nat.reduceAdd, Nat.reduceSub, Array.replicate_succ, Array.replicate_zero, List.push_toArray, List.append_toArray, List.nil_append, List.cons_append]
    gi_wp2_with fail
    refine (callsIn_wide.2 (new_any _)).mono ?_
    rintro e w1 ⟨rfl, rfl⟩
    gi_wp2_with fail
    gi_loopw [5] (fun i wr => ∃ (k : Nat) (v : Value), i = .int .i64 k ∧ k ≤ N ∧ CountsAt B (B + 1) (B + 1 + 1 + 1) w (k + 1) (2 * (k : Int)) v wr)
      (fun i _ => N - (intOf i).toNat)
    case atStart =>
      refine ⟨0, .slice (some ⟨B + 1 + 1, 0, none⟩) 1 1, rfl, Nat.zero_le _, ?_⟩
      subst hB
      have s1 : SeqAt (w.alloc (.cells #[.bool false] 4) |>.alloc (.cells #[.int .u64 0, .bool true] 75)) (w.heap.size + 1) 0 := ⟨by go_simp, by go_simp, by go_simp⟩
      have r1 := World.ownsRow_lit (w.alloc (.cells #[.bool false] 4) |>.alloc (.cells #[.int .u64 0, .bool true] 75)) (base := w.heap.size + 2) (e := 22) (size := 1) #[.int .u64 0] 1 (by simp) (by decide) rfl
      have r2 := r1.alloc (.cells #[.slice (some ⟨w.heap.size + 1 + 1, 0, none⟩) 1 1] 23)
      refine ⟨(((Boxed.new w 4 (.bool false)).alloc _).alloc _).alloc _, (s1.alloc _).alloc _, ?_, ?_, ((((Below.refl _ w).alloc (Nat.le_refl _) _).alloc (by simp) _).alloc (by simp; omega) _).alloc (by simp; omega) _⟩
      · have b := Boxed.new (w.alloc (.cells #[.bool false] 4) |>.alloc (.cells #[.int .u64 0, .bool true] 75) |>.alloc (.cells #[.int .u64 0] 22)) 23 (.slice (some ⟨w.heap.size + 1 + 1, 0, none⟩) 1 1)
        simpa using b
      · simpa [twos] using r2
    case round =>
      obtain ⟨k, v, rfl, hk, hC⟩ := hrel
      by_cases hlt : k < N
      · have lb := hC.at_.lt
        have hs0 := hC.at_
        have zr := hC.box.lt
        gi_wp2_with fail
        refine (callsIn_wide.2 (begin_st _ _ _ hs0 (by omega) (by omega) (by omega))).mono ?_; rintro e w1 ⟨rfl, h1⟩
        have s1 := h1.at_
        gi_wp2_with fail
        refine (callsIn_wide.2 (end_st _ _ _ s1 (by omega) (by omega) (by omega))).mono ?_; rintro e w2 ⟨rfl, h2⟩
        have s2 := h2.at_
        gi_wp2_with fail
        refine (callsIn_wide.2 (look_ok _ _ _ s2 (by omega) (by omega) (by omega))).mono ?_; rintro e w3 ⟨rfl, rfl⟩
        have hg : Grow (fun j => j = B + 1) wr w2 := h1.grow.trans h2.grow
        have hres := boxed_grow hC.res hg (by omega)
        have hbox := boxed_grow hC.box hg (by omega)
        have hrow := ownsRow_grow hC.row hg (fun j hj => by have := (hC.row.lt j hj).1; omega)
        have hbel : Below B w w2 := hC.below.trans (hg.below (n := B) (fun j h => by omega) (by omega))
        obtain ⟨sa, sc, rfl⟩ := ownsRow_slice hrow
        have cb := hbox.cell
        clear hC hs0 h1 h2 s1
        have zw := hrow.lt
        gi_wp2_with (first
          | (gi_at_call 18; refine (callsIn_wide.2 (num_any _ _)).mono ?_; rintro e w' ⟨rfl, rfl⟩)
          | (gi_at_builtin; refine wpListIn_append_own _ rfl _ _ 23 rfl (B + 2) 22 i0 (.int .u64 0) 1 8 Try.underlying23 hi hz0 hz1 hz2 rfl (by decide) _ _ _ rfl (hrow.alloc _) ⟨w2.heap.size, 0, none⟩ 1 1 [.int .u64 (2 * (k : Int) + 1 + 1)] rfl rfl ?c1 ?c2 ?c3 ?c4 ?c5 ?_))
        case c1 =>
          intro j u hj
          match j, hj with
          | 0, hj => simp at hj; subst hj; simp [Addr.add]
        case c2 => intro u hu; simp at hu; subst hu; rfl
        case c3 => unfold maxLen; omega
        case c4 => omega
        case c5 => simp; have := hbox.lt; omega
        intro v' w4 hown' hgrow _
        obtain ⟨g', cap', rfl⟩ := ownsRow_succ hown'
        have zb := hbox.lt
        obtain ⟨hv1, hv2, hr2, _, hb2⟩ := hbox.appended (by decide) hrow (by omega) (by omega) hown' hgrow
        have hc1 := hv1.cell
        have hf1 := hv1.frozen
        have ha := World.grownBy_alloc w2 (.cells #[.int .u64 (2 * (k : Int) + 1 + 1)] 22) none
        have s4 : SeqAt (w4.setCell ⟨B + 1 + 1 + 1, 0, none⟩ (.slice (some ⟨g', 0, none⟩) (k + 1 + 1) cap')) (B + 1) (2 * (k : Int) + 1 + 1) := s2.below hb2 (by omega)
        have r4 : Boxed (w4.setCell ⟨B + 1 + 1 + 1, 0, none⟩ (.slice (some ⟨g', 0, none⟩) (k + 1 + 1) cap')) B 4 (.bool false) := (hb2.block B (by omega)).trans hres
        have b4 := hbel.trans (hb2.mono (by omega))
        clear hown' hgrow hv1 hrow hbox hres s2 cb ha hb2 hbel
        gi_wp2
        go_roundw
        case rel =>
          refine ⟨k + 1, _, by go_num, by omega, r4, ?_, hv2, ?_, b4⟩
          · rw [show 2 * ((k + 1 : Nat) : Int) = 2 * (k : Int) + 1 + 1 by omega]; exact s4
          · rw [twos_succ, show 2 * ((k + 1 : Nat) : Int) = 2 * (k : Int) + 1 + 1 by omega]; exact hr2
        case measure => simp [intOf]; omega
      · obtain rfl : k = N := by omega
        have hs0 := hC.at_
        have lb := hs0.lt
        have zr := hC.box.lt
        gi_wp2_with fail
        have bk := Boxed.new wr 3 (.int .i64 0)
        have s1 := hs0.alloc (.cells #[.int .i64 0] 3)
        refine (callsIn_wide.2 (now_ok _ _ _ s1)).mono ?_; rintro e w1 ⟨rfl, rfl⟩
        gi_wp2_with fail
        refine (callsIn_wide.2 (changes_st 0 _ _ (by omega) (by omega))).mono ?_; rintro e w2 ⟨rfl, -, g2, z2⟩
        clear z2
        have s2 := s1.grow g2 (fun h => h)
        gi_wp2_with fail
        refine (callsIn_wide.2 (now_ok _ _ _ s2)).mono ?_; rintro e w1 ⟨rfl, rfl⟩
        gi_wp2_with fail
        refine (callsIn_wide.2 (changes_st 0 _ _ (by omega) (by omega))).mono ?_; rintro e w3 ⟨rfl, hit, g3, z3⟩
        rw [changes_two k hN] at hit
        have g03 : Grow (fun _ => False) wr w3 := ((Grow.alloc _ _ _).trans g2).trans g3
        have s3 := s2.grow g3 (fun h => h)
        have bk3 := boxed_grow (boxed_grow bk g2 (fun h => h)) g3 (fun h => h)
        have hres := boxed_grow hC.res g03 (fun h => h)
        have hbox := boxed_grow hC.box g03 (fun h => h)
        have hrow := ownsRow_grow hC.row g03 (fun _ _ h => h)
        have hbel : Below B w w3 := hC.below.trans (g03.below (n := B) (fun _ h => h.elim) (by omega))
        have hrowr := hC.row
        obtain ⟨sa, sc, rfl⟩ := ownsRow_slice hrow
        obtain ⟨kb, hkb⟩ : ∃ kb, wr.heap.size = kb := ⟨_, rfl⟩
        rw [hkb] at bk3 zr
        have zk := bk3.lt
        have zc : w2.heap.size + 2 ≤ w3.heap.size := by omega
        clear z3 hC hs0 s1 s2 bk g03
        have zkb : kb < w2.heap.size := by have := g2.size; simp at this; omega
        generalize w2.heap.size = cb at *
        have hgx : ∀ j, (Value.slice sa (k + 1) sc).ownBlock = some j → B + 2 ≤ j ∧ j < kb := fun j hj => by
          have h1 := hrow.lt j hj
          have h2 := hrowr.lt j hj
          omega
        have ck := bk3.cell
        have fk := bk3.frozen
        have cb3 := hbox.cell
        clear g2 g3
        gi_wp2_with fail
        obtain ⟨xs, hxs⟩ : ∃ xs, (List.range k).map (fun j : Nat => 2 * (j : Int) + 2) = xs := ⟨_, rfl⟩
        rw [hxs] at hit
        have HX := Lib.hid hxs
        clear hxs
        refine wpIn_range_thru (gf := 38) (xs := xs) rfl (fun _ _ => by kernel_rfl) hit (fun j h => by rcases h with rfl | rfl <;> omega) (Below.refl _ _) (fun _ => rfl)
          (CountI w3 kb (fun _ => True)) (fun _ _ _ => False) (CountI.stable (by omega)) (fun _ _ _ _ h _ => h) ?init ?round1 ?after
        case init => exact fun E => ⟨ck, fk, Grow.refl _ _, trivial⟩
        case round1 =>
          rintro E l' pre x A hpre hE hEA hi0
          have hxl : xs.length = k := by rw [← HX.out]; simp
          have hlt : pre.length < k := by
            have := hpre.length_le
            rw [hxl] at this
            simp at this
            omega
          have hxa : x = 2 * (pre.length : Int) + 1 + 1 := by
            have h1 : xs[pre.length]? = some x := by obtain ⟨t, rfl⟩ := hpre; simp
            rw [← HX.out] at h1
            simp [hlt] at h1
            omega
          obtain ⟨g, rfl⟩ : ∃ g, sa = some ⟨g, 0, none⟩ := by
            obtain ⟨g, cap, h⟩ := ownsRow_succ hrow
            exact ⟨g, by simpa using (Value.slice.inj h).1⟩
          have hxc : w3.cell? ⟨g, pre.length + 1, none⟩ = some (.int .u64 (2 * (pre.length : Int) + 1 + 1)) := by
            rw [hrow.cellAt (pre.length + 1) (by omega), twos_get _ _ (by omega)]
            rfl
          have hg := hgx g rfl
          subst hxa
          have HP := Lib.hid hpre
          clear hpre hxl hit hrow
          gi_wp2
          refine ⟨Keep.refl _ _, Nat.le_refl _, CountI w3 kb (fun _ => True) E pre, CountI.stable (by omega) E pre, hi0, ?_⟩
          clear hi0
          intro W2 hi hz2
          have d1 := hi.1
          have d2 := hi.2.1
          have dw := hi.cell (b := B + 1 + 1 + 1) (by omega) (by omega) cb3
          have dx := hi.cell (b := g) (by omega) (by omega) hxc
          have HI := Lib.hid hi
          clear hi cb3 hxc ck fk hbox hres hrowr s3 hbel bk3
          have hne : kb ≠ g := by omega
          have hne' : kb ≠ B + 1 + 1 + 1 := by omega
          gi_wp2
          refine CountI.bump HI.out (fun j h => ?_) trivial
          rcases h with h | h
          · rcases h with h | h <;> omega
          · have := h.1; omega
        case after =>
          intro E A hE hi hK
          replace hi := hi.resolve_right (fun ⟨_, _, _, h⟩ => h)
          have hxl : xs.length = k := by rw [← HX.out]; simp
          have d1 := hi.1
          rw [hxl] at d1
          have d2 := hi.2.1
          have cbA := hi.cell (b := B + 1 + 1 + 1) (by omega) (by omega) cb3
          have gA := hi.2.2.1
          have zA := gA.size
          have sA := s3.grow gA (fun h => by rcases h with h | h <;> omega)
          have rA := boxed_grow hres gA (fun h => by rcases h with h | h <;> omega)
          have rowA := ownsRow_grow hrow gA (fun j hj h => by have := hgx j hj; rcases h with h | h <;> omega)
          have belA := hbel.trans (gA.below (n := B) (fun j h => by rcases h with h | h <;> omega) (by omega))
          have hgx' : ∀ j, (Value.slice sa (k + 1) sc).ownBlock = some j → ¬ (j = B + 1) := fun j hj h => by have := hgx j hj; omega
          have HK := Lib.hid hK
          clear hi hK cb3 ck fk hbox hres hrowr s3 hbel bk3 hrow hit hxl
          gi_wp2_with fail
          gi_loopw [14] (fun i wr => ∃ j : Nat, i = .int .i64 j ∧ j ≤ k + 1 ∧ SeqAt wr (B + 1) (2 * (k : Int)) ∧ Grow (fun q => q = B + 1) A wr) (fun i _ => k + 1 - (intOf i).toNat)
          case atStart => exact ⟨0, rfl, Nat.zero_le _, sA, Grow.refl _ _⟩
          case round =>
            obtain ⟨j, rfl, hj, hs, hg⟩ := hrel
            have c1 := (hg.cell (p := ⟨B + 1 + 1 + 1, 0, none⟩) (by simp; omega) (by simp; omega)).trans cbA
            by_cases hlt : j < k + 1
            · have hrw := ownsRow_grow rowA hg hgx'
              obtain ⟨g, rfl⟩ : ∃ g, sa = some ⟨g, 0, none⟩ := by
                obtain ⟨g, cap, h⟩ := ownsRow_succ hrw
                exact ⟨g, by simpa using (Value.slice.inj h).1⟩
              have hxc : wr.cell? ⟨g, j, none⟩ = some (.int .u64 (2 * (j : Int))) := by
                rw [hrw.cellAt j (by omega), twos_get _ _ (by omega)]
              have zw := hg.size
              have bl : B + 1 < wr.heap.size := hs.lt
              clear hrw
              rcases Nat.lt_or_ge j k with hjk | hjk
              · have hd : ((2 * (k : Int)) % 2 == 0 && 2 * (k : Int) == 2 * (j : Int)) = false := by simp; omega
                gi_wp2_with fail
                refine (callsIn_wide.2 (good_st _ _ _ _ hs (by omega) (by omega))).mono ?_
                rintro e w7 ⟨rfl, h7⟩
                rw [hd]
                have s7 := h7.at_
                have g7 := hg.trans h7.grow
                clear h7 hd hs hg c1 hxc
                gi_wp2_with fail
                go_roundw
                case rel => exact ⟨j + 1, by go_num, by omega, s7, g7⟩
                case measure => simp [intOf]; omega
              · obtain rfl : j = k := by omega
                have hd : ((2 * (j : Int)) % 2 == 0 && 2 * (j : Int) == 2 * (j : Int)) = true := by simp
                gi_wp2_with fail
                refine (callsIn_wide.2 (good_st _ _ _ _ hs (by omega) (by omega))).mono ?_
                rintro e w7 ⟨rfl, h7⟩
                rw [hd]
                have s7 := h7.at_
                have g7 := hg.trans h7.grow
                clear h7 hd hs hg c1 hxc
                gi_wp2_with fail
                go_roundw
                case rel => exact ⟨j + 1, by go_num, by omega, s7, g7⟩
                case measure => simp [intOf]
            · have zw := hg.size
              have zb := hs.lt
              have c2 := (hg.cell (p := ⟨kb, 0, none⟩) (by simp; omega) (by simp; omega)).trans d1
              have b2 := boxed_grow rA hg (by omega)
              have hK2 : wr.heap[w3.heap.size]? = some (.deferred (some [])) := (hg.block w3.heap.size (Array.getElem?_eq_some_iff.1 HK.out).1 (by omega)).trans HK.out
              have bel2 : Below B w wr := belA.trans (hg.below (n := B) (fun q h => by omega) (by omega))
              clear hs rowA sA rA belA
              have HG := Lib.hid hg
              clear hg
              gi_wp2_with fail
              refine (callsIn_wide.2 (works17 _)).mono ?_
              rintro e w8 ⟨rfl, hb8⟩
              have b8 : Boxed w8 B 4 (.bool false) := (hb8.block B (by omega)).trans b2
              have c8 := b8.cell
              have f8 := b8.frozen
              have hK8 := (hb8.block w3.heap.size (Array.getElem?_eq_some_iff.1 hK2).1).trans hK2
              have bel8 := bel2.trans (hb8.mono (by omega))
              have HK8 := Lib.hid hK8
              have z8 := hb8.size
              clear hK2 hb8 hK8 b2
              gi_wp2_with fail
              refine bodyPostM_marks [w3.heap.size] rfl ?_ (by simp) ?_
              · intro D hD
                obtain rfl : D = w3.heap.size := by simpa using hD
                exact (Below.heap_setCell _ _ _ _ (by show w3.heap.size ≠ B; omega)).trans HK8.out
              · intro w9 h9
                refine ⟨_, results_cell rfl rfl ((show w9.cell? ⟨B, 0, none⟩ = some (.bool true) → (loadVar 4 ⟨B, 0, none⟩).run Try.prog w9 = .ok (.bool true) w9 from fun h => by go_simp) ?_), rfl, ?_⟩
                · exact (boxed_grow (b8.set (.bool true)) h9 (by simp; omega)).cell
                · rw [hB]
                  exact (bel8.setCell (p := ⟨B, 0, none⟩) (by simp) _).trans (h9.below (n := B) (fun q h => by
                    have h' : q = w3.heap.size := by simpa using h
                    omega) (by simp; omega))

end Go.Proofs.Ytbfadogjkhoohaa
