/- the iterators of package seq, on: Changes -/
import Derived.Test.YtbfadogjkhoohaaSeqE
import Derived.Shelf.RegionOpen
import Derived.Lib.Hide
namespace Go.Proofs.Ytbfadogjkhoohaa
open Go.RowKit
attribute [local go_sem] Oper.semAt_some

theorem behind_any (f u : Int) (w : World) : Calls Try.prog 39 #[.int .u64 f, .int .u64 u] w fun e w' =>
    e = .returned (.func (.func 62) #[] #[.pointer (some ⟨w.heap.size, 0, none⟩), .pointer (some ⟨w.heap.size + 1, 0, none⟩)]) ∧ w' = (w.alloc (.cells #[.int .u64 f] 22)).alloc (.cells #[.int .u64 u] 22) := by
  go_enter Try.func39, Try.ntmps39
  go_wp2
  go_ret
  exact ⟨rfl, rfl⟩
theorem changes_any (f u : Int) (w : World) : Calls Try.prog 12 #[.int .u64 f, .int .u64 u] w fun e w' =>
    e = .returned (.func (.func 38) #[] #[.pointer (some ⟨w.heap.size, 0, none⟩), .pointer (some ⟨w.heap.size + 1, 0, none⟩)]) ∧ w' = (w.alloc (.cells #[.int .u64 f] 22)).alloc (.cells #[.int .u64 u] 22) := by
  go_enter Try.func12, Try.ntmps12
  go_wp2
  go_ret
  exact ⟨rfl, rfl⟩

def evens (l : List Int) : List Int := l.filter (fun x => x % 2 == 0)
theorem evens_even (l : List Int) (x : Int) (h : x % 2 = 0) : evens (l ++ [x]) = evens l ++ [x] := by simp [evens, h]
theorem evens_odd (l : List Int) (x : Int) (h : x % 2 = 1) : evens (l ++ [x]) = evens l := by simp [evens, h]
theorem evens_prefix {l m : List Int} (h : l <+: m) : evens l <+: evens m := by
  obtain ⟨t, rfl⟩ := h
  exact ⟨evens t, by simp [evens]⟩
/-- what Changes hands over -/
def changes (f u : Int) : List Int := (evens (upTo f u)).take 1000

theorem evens_take {f u : Int} {l : List Int} (h : l <+: upTo f u) (hl : (evens l).length ≤ 1000) : evens l <+: changes f u := by
  have hp := evens_prefix h
  rw [List.prefix_iff_eq_take] at hp ⊢
  unfold changes
  rw [List.take_take, Nat.min_eq_left hl]
  exact hp

theorem mixed : Try.prog.follows Departure.mixedOrders = true := by kernel_rfl

set_option maxHeartbeats 1600000 in
theorem changes_iter (fb ub : Nat) (f u : Int) (w : World) (hf0 : 0 ≤ f) (hu : u ≤ 18446744073709551615) (hfb : fb < w.heap.size) (hub : ub < w.heap.size)
    (hf : w.cell? ⟨fb, 0, none⟩ = some (.int .u64 f)) (hu' : w.cell? ⟨ub, 0, none⟩ = some (.int .u64 u)) :
    Iter Try.prog 38 #[.pointer (some ⟨fb, 0, none⟩), .pointer (some ⟨ub, 0, none⟩)] (fun x : Int => #[.int .u64 x]) (changes f u) (fun k => k = fb ∨ k = ub) w := by
  intro l W hW J Jx sJ sJx h0 hY
  have hf1 : W.cell? ⟨fb, 0, none⟩ = some (.int .u64 f) := (hW.cell (p := ⟨fb, 0, none⟩) hfb).trans hf
  have hu1 : W.cell? ⟨ub, 0, none⟩ = some (.int .u64 u) := (hW.cell (p := ⟨ub, 0, none⟩) hub).trans hu'
  clear hf hu'
  have a0 : fb < W.heap.size := Nat.lt_of_lt_of_le hfb hW.size
  have a1 : fb < W.heap.size + 1 := by omega
  have b0 : ub < W.heap.size := Nat.lt_of_lt_of_le hub hW.size
  have b1 : ub < W.heap.size + 1 := by omega
  refine callsIn_of_wp_marks Try.func38 rfl trivial ?_
  simp only [Try.ntmps38, List.size_toArray, List.length_cons, List.length_nil, Nat.reduceAdd, Nat.reduceSub, Array.replicate_succ, Array.replicate_zero, List.push_toArray, List.append_toArray, List.nil_append, List.cons_append]
  gi_wp2_with (first
    | apply wpIn_scope_hop
    | apply wpIn_label
    | (gi_at_call 39; refine (callsIn_wide.2 (behind_any _ _ _)).mono ?_; rintro e w' ⟨rfl, rfl⟩))
  have key : ∀ w4, (((W.alloc (.cells #[.func (.yield l) #[] #[]] 37)).alloc (.cells #[.int .i64 0] 3)).alloc (.cells #[.int .u64 f] 22)).alloc (.cells #[.int .u64 u] 22) = w4 → w4.heap.size = W.heap.size + 4 ∧ w4.cell? ⟨W.heap.size, 0, none⟩ = some (.func (.yield l) #[] #[]) ∧
      w4.cell? ⟨W.heap.size + 1, 0, none⟩ = some (.int .i64 0) ∧ w4.frozen? ⟨W.heap.size + 1, 0, none⟩ = false ∧
      w4.cell? ⟨W.heap.size + 1 + 1, 0, none⟩ = some (.int .u64 f) ∧ w4.cell? ⟨W.heap.size + 1 + 1 + 1, 0, none⟩ = some (.int .u64 u) := by
    rintro _ rfl
    exact ⟨by simp, by go_simp, by go_simp, by go_simp, by go_simp, by go_simp⟩
  obtain ⟨w4, hw4⟩ : ∃ w4, (((W.alloc (.cells #[.func (.yield l) #[] #[]] 37)).alloc (.cells #[.int .i64 0] 3)).alloc (.cells #[.int .u64 f] 22)).alloc (.cells #[.int .u64 u] 22) = w4 := ⟨_, rfl⟩
  obtain ⟨hz4, cy, cm, fm, cf, cu⟩ := key w4 hw4
  clear key
  have hg4 : ∀ own, Grow own W w4 := fun own => by
    rw [← hw4]; exact (((Grow.alloc own W _).trans (Grow.alloc own _ _)).trans (Grow.alloc own _ _)).trans (Grow.alloc own _ _)
  rw [hw4]
  clear hw4 hf1 hu1 hW
  have hsub : ∀ E k, Span w4.heap.size E k → Span W.heap.size E k := fun E k h => ⟨by have := h.1; omega, h.2⟩
  have hnot : ∀ E k, k < w4.heap.size → ¬ Span w4.heap.size E k := fun E k h h' => by have := h'.1; omega
  obtain ⟨I, hIe⟩ : ∃ I : Nat → List Int → World → Prop, I = fun E pre A => J E (evens pre) A ∧ (evens pre).length ≤ 1000 ∧ A.cell? ⟨W.heap.size + 1, 0, none⟩ = some (.int .i64 (evens pre).length) ∧
      A.frozen? ⟨W.heap.size + 1, 0, none⟩ = false ∧ A.cell? ⟨W.heap.size, 0, none⟩ = some (.func (.yield l) #[] #[]) ∧ w4.heap.size ≤ A.heap.size := ⟨_, rfl⟩
  have hI : ∀ E pre A B, I E pre A → Grow (Span w4.heap.size E) A B → I E pre B := by
    rw [hIe]
    rintro E pre A B ⟨hj, hlen, h1, h2, h3, h4⟩ hgr
    exact ⟨sJ E _ A B hj (hgr.mono (hsub E)), hlen, (hgr.cell (p := ⟨W.heap.size + 1, 0, none⟩) (by simp; omega) (hnot E _ (by simp; omega))).trans h1,
      (hgr.frozen (p := ⟨W.heap.size + 1, 0, none⟩) (by simp; omega) (hnot E _ (by simp; omega))).trans h2,
      (hgr.cell (p := ⟨W.heap.size, 0, none⟩) (by simp; omega) (hnot E _ (by simp; omega))).trans h3, Nat.le_trans h4 hgr.size⟩
  refine wpIn_range (gf := 62) rfl (fun _ _ => by kernel_rfl) (behind_iter _ _ f u w4 hf0 hu (by omega) (by omega) cf cu) (fun k h => by rcases h with rfl | rfl <;> omega) (Below.refl _ _) (fun _ => rfl)
    I (fun c E _ A => c = .exit 0 ∧ (J E (changes f u) A ∨ ∃ q, q <+: changes f u ∧ q ≠ [] ∧ Jx E q A))
    hI ?sIx ?init ?round ?done ?stop
  case sIx =>
    rintro c E pre A B ⟨hc, hj⟩ hgr
    exact ⟨hc, hj.imp (fun h => sJ E _ A B h (hgr.mono (hsub E))) (fun ⟨q, h1, h2, h3⟩ => ⟨q, h1, h2, sJx E _ A B h3 (hgr.mono (hsub E))⟩)⟩
  case init => rw [hIe]; exact fun E => ⟨sJ E _ W w4 (h0 E) (hg4 _), by simp [evens], by simpa [evens] using cm, fm, cy, Nat.le_refl _⟩
  case round =>
    rintro E l' pre x A hpre hE hEA hi0
    have hx0 : 0 ≤ x := by
      have : x ∈ upTo f u := hpre.subset (by simp)
      simp only [upTo, List.mem_map, List.mem_range] at this
      obtain ⟨i, _, rfl⟩ := this
      omega
    have hmix := mixed
    gi_wp2
    refine ⟨Keep.refl _ _, Nat.le_refl _, I E pre, hI E pre, hi0, ?_⟩
    clear hi0 hI
    subst hIe
    rintro W2 ⟨hj, hlen, h1, h2, h3, h4⟩ hz2
    rcases Int.emod_two_eq x with hx | hx
    · by_cases hm : (evens pre).length = 1000
      · have hd : (((evens pre).length : Int) == 1000) = true := by simp [hm]
        have hall : J E (changes f u) W2.drew := by
          have hp := evens_take (f := f) (u := u) (l := pre) ⟨[x] ++ hpre.choose, by rw [← List.append_assoc]; exact hpre.choose_spec⟩ hlen
          have : (changes f u).length ≤ (evens pre).length := by rw [hm]; unfold changes; simp; omega
          rw [← hp.eq_of_length_le this]
          exact sJ E _ _ _ hj (Grow.drew _ _)
        have HA := Lib.hid hall
        clear hall
        gi_wp2_with (gi_at_call 40; refine (CallsIn.inRound l' (callsIn_wide.2 (odd_f x _ hx0 hx))).mono ?_; rintro e w' ⟨rfl, rfl⟩)
        gi_region_with_o (fail)
        all_goals gi_wp2
        all_goals exact ⟨Keep.refl _ _, Nat.le_refl _, rfl, .inl HA.out⟩
      · have hd : (((evens pre).length : Int) == 1000) = false := by simp; omega
        have hev := evens_even pre x hx
        have hle : (evens (pre ++ [x])).length ≤ 1000 := by rw [hev]; simp; omega
        have hq : evens pre ++ [x] <+: changes f u := by rw [← hev]; exact evens_take hpre hle
        obtain ⟨fn, tmps, assign, body, hy, hR⟩ := hY E (evens pre) x W2.drew hq (by omega) (show E ≤ W2.heap.size by omega) (sJ E _ _ _ hj (Grow.drew _ _))
        obtain ⟨Pg, hPg⟩ : ∃ Pg : Bool → World → Prop, Pg = fun g W3 => (g = true → J E (evens pre ++ [x]) W3) ∧ (g = false → Jx E (evens pre ++ [x]) W3) := ⟨_, rfl⟩
        have hR' : RoundIn (Wide.inRound l') 0 Try.prog l fn tmps assign body W2.drew fun e W3 => ∃ g : Bool, e = .returned (.bool g) ∧ Pg g W3 ∧ Keep (Leans (fun k => k = fb ∨ k = ub) W.heap.size E) W2.drew W3 ∧ W2.heap.size ≤ W3.heap.size := by
          refine RoundIn.mono (F := Wide.inRound l') hR ?_
          rintro e W3 ⟨hk3, hz3, (⟨rfl, hJ3⟩ | ⟨rfl, hJx3⟩)⟩
          · exact ⟨true, rfl, by rw [hPg]; exact ⟨fun _ => hJ3, fun h => absurd h (by simp)⟩, hk3, hz3⟩
          · exact ⟨false, rfl, by rw [hPg]; exact ⟨fun h => absurd h (by simp), fun _ => hJx3⟩, hk3, hz3⟩
        have HQ := Lib.hid hq
        have HE := Lib.hid hev
        have HL := Lib.hid hle
        have HP := Lib.hid hPg
        clear hq hev hle hm hj hR hPg
        gi_wp2_with (gi_at_call 40; refine (CallsIn.inRound l' (callsIn_wide.2 (odd_f x _ hx0 hx))).mono ?_; rintro e w' ⟨rfl, rfl⟩)
        gi_region_with_o (first
          | (gi_at_call 41; refine (CallsIn.inRound l' (callsIn_wide.2 (plain_any _ _))).mono ?_; rintro e w' ⟨rfl, rfl⟩)
          | (refine RoundIn.mono (F := Wide.inRound l') hR' ?_
             rintro e W3 ⟨g, rfl, hp3, hk3, hz3⟩))
        all_goals
          have k1 : W3.cell? ⟨W.heap.size + 1, 0, none⟩ = some (.int .i64 (evens pre).length) := (World.cell?_of_block (w := W2.drew) (hk3 (W.heap.size + 1) (.inr ⟨by omega, by omega⟩))).trans h1
          have k2 : W3.frozen? ⟨W.heap.size + 1, 0, none⟩ = false := (World.frozen?_of_block (w := W2.drew) (hk3 (W.heap.size + 1) (.inr ⟨by omega, by omega⟩))).trans h2
          have k3 : W3.cell? ⟨W.heap.size, 0, none⟩ = some (.func (.yield l) #[] #[]) := (World.cell?_of_block (w := W2.drew) (hk3 W.heap.size (.inr ⟨by omega, by omega⟩))).trans h3
          have HK := Lib.hid hk3
          clear hk3 h1 h2 h3
          rcases g with _ | _
        all_goals gi_wp2
        all_goals
          have hk3 := HK.out
          have hP := HP.out
          subst hP
          have hkk : ∀ k, Leans (fun k => k = W.heap.size + 1 + 1 ∨ k = W.heap.size + 1 + 1 + 1) (W.heap.size + 4) E k → W.heap.size ≤ k ∧ k < E ∧ k ≠ W.heap.size + 1 := by
            rintro k (h | h)
            · rcases h with h | h <;> omega
            · have := h.1; have := h.2; omega
        all_goals first
          | (exact ⟨fun k h => hk3 k (.inr ⟨(hkk k h).1, (hkk k h).2.1⟩), hz3, rfl, .inr ⟨_, HQ.out, by simp, hp3.2 rfl⟩⟩)
          | (refine ⟨fun k h => (Below.heap_setCell _ _ _ _ (hkk k h).2.2).trans (hk3 k (.inr ⟨(hkk k h).1, (hkk k h).2.1⟩)), by simpa using hz3, ?_, HL.out, ?_, ?_, ?_, ?_⟩
             · rw [HE.out]; exact sJ E _ _ _ (hp3.1 rfl) (Grow.setCell _ _ _ ⟨by show W.heap.size ≤ W.heap.size + 1; omega, by show W.heap.size + 1 < E; omega⟩)
             · rw [HE.out, List.length_append]; exact (World.cell?_setCell_same' _ _ _ (by rw [k1]; rfl)).trans (by simp)
             · rw [World.frozen?_setCell]; exact k2
             · exact (World.cell?_of_block (w := W3) (a := ⟨W.heap.size, 0, none⟩) (Below.heap_setCell _ _ _ _ (by show W.heap.size ≠ W.heap.size + 1; omega))).trans k3
             · simp; omega)
    · gi_wp2_with (gi_at_call 40; refine (CallsIn.inRound l' (callsIn_wide.2 (odd_t x _ hx0 hx))).mono ?_; rintro e w' ⟨rfl, rfl⟩)
      have hev := evens_odd pre x hx
      exact ⟨Keep.refl _ _, Nat.le_refl _, by rw [hev]; exact hj, by rw [hev]; exact hlen, by rw [hev]; exact h1, h2, h3, by omega⟩
  case done =>
    rintro E A hE hi hK
    clear hI
    subst hIe
    obtain ⟨hj, hlen, h1, h2, h3, h4⟩ := hi
    have hall : evens (upTo f u) = changes f u := by unfold changes; rw [List.take_of_length_le hlen]
    rw [hall] at hj
    gi_wp2
    simp only [Exit.hop_normal]
    exact ⟨by simp, .inl ⟨_, _, rfl, run_takeDeferred hK, _, results_none rfl _ _ _, ⟨_, rfl⟩, E, by omega, .inl (sJ E _ _ _ hj (Grow.putObj _ _ _ ⟨by omega, by omega⟩))⟩⟩
  case stop =>
    rintro E c pre A hE hpre hne ⟨rfl, hj⟩ hK
    gi_wp2
    simp only [Exit.hop_normal]
    refine ⟨by simp, .inl ⟨_, _, rfl, run_takeDeferred hK, _, results_none rfl _ _ _, ⟨_, rfl⟩, E, by omega, ?_⟩⟩
    have hgr : Grow (Span W.heap.size E) A (A.putObj w4.heap.size (.deferred none)) := Grow.putObj _ _ _ ⟨by omega, by omega⟩
    exact hj.imp (fun h => sJ E _ _ _ h hgr) (fun ⟨q, a, b, h⟩ => ⟨q, a, b, sJx E _ _ _ h hgr⟩)

end Go.Proofs.Ytbfadogjkhoohaa
