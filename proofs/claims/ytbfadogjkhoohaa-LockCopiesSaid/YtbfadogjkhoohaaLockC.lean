/- contracts of package lock: told of a number -/
import Derived.Test.YtbfadogjkhoohaaLockB
namespace Go.Proofs.Ytbfadogjkhoohaa
open Go.RowKit
attribute [local go_sem] Oper.semAt_some

def lockErr0 (isn : Bool) (t : Int) : Int := if isn then 1 else if t < 0 ∨ 8 ≤ t then 2 else 0

set_option maxRecDepth 100000 in
set_option maxHeartbeats 1600000 in
theorem told0_any (lp : Option Addr) (isn : Bool) (t : Int) (tf : Nat) (tff tfc : Array Value) (w : World) (R : Value → World → World → Prop)
    (eg : ∀ args w, (callFunc tf args).run Try.prog w = .ok (.enter tf args) w)
    (hn : ∀ W, Newer w W → Calls Try.prog 46 #[.pointer lp] W fun e W' => e = .returned (.bool isn) ∧ W = W')
    (ht : lockErr0 isn t = 0 → ∀ W, Newer w W → Calls Try.prog tf (tff ++ #[.int .i64 t] ++ tfc) W fun e W' => ∃ v, e = .returned v ∧ R v W W' ∧ Grow (fun k => k < w.heap.size) W W') :
    Calls Try.prog 53 #[.pointer lp, .int .i64 t, .func (.func tf) tff tfc, .slice none 0 0] w fun e w' =>
      (lockErr0 isn t ≠ 0 ∧ e = .returned (.tuple #[.int .i64 0, .int .i64 (lockErr0 isn t)]) ∧ Newer w w') ∨
      (lockErr0 isn t = 0 ∧ ∃ v W W', Newer w W ∧ R v W W' ∧ e = .returned (.tuple #[v, .int .i64 0]) ∧ Grow (fun k => w.heap.size ≤ k) W' w') := by
  have HN := Lib.hid hn
  have HT := Lib.hid ht
  have HE := Lib.hid eg
  clear hn ht eg
  refine (callsIn_wide (n := 0)).1 ?_
  refine callsIn_of_wp_marks Try.func53 rfl trivial ?_
  simp only [Try.ntmps53, List.size_toArray, List.length_cons, List.length_nil, Nat.reduceAdd, Nat.reduceSub, Array.replicate_succ, Array.replicate_zero, List.push_toArray, List.append_toArray, List.nil_append, List.cons_append]
  gi_wp2_with (first | apply wpIn_scope_hop | apply wpIn_label)
  refine (callsIn_wide.2 (asks_any lp t _ ⟨_, _, _, rfl⟩ _)).mono ?_
  rintro e w' ⟨rfl, rfl⟩
  gi_wp2_with fail
  obtain ⟨B, hB⟩ : ∃ B, w.heap.size = B := ⟨_, rfl⟩
  have key4 : ∀ w4, (((w.alloc (.cells #[.int .i64 0] 32)).alloc (.cells #[.pointer lp] 40)).alloc (.cells #[.int .i64 t] 3)).alloc (.cells #[.slice none 0 0] 97) = w4 →
      w4.heap.size = B + 4 ∧ Boxed w4 B 32 (.int .i64 0) ∧ Boxed w4 (B + 1) 40 (.pointer lp) ∧ Boxed w4 (B + 1 + 1) 3 (.int .i64 t) ∧ Boxed w4 (B + 1 + 1 + 1) 97 (.slice none 0 0) ∧ Newer w w4 := by
    rintro _ rfl
    subst hB
    have n1 := Boxed.new w 32 (.int .i64 0)
    have n2 := Boxed.new (w.alloc (.cells #[.int .i64 0] 32)) 40 (.pointer lp)
    have n3 := Boxed.new ((w.alloc (.cells #[.int .i64 0] 32)).alloc (.cells #[.pointer lp] 40)) 3 (.int .i64 t)
    have n4 := Boxed.new (((w.alloc (.cells #[.int .i64 0] 32)).alloc (.cells #[.pointer lp] 40)).alloc (.cells #[.int .i64 t] 3)) 97 (.slice none 0 0)
    simp only [World.size_alloc] at n2 n3 n4
    exact ⟨by simp, ((n1.alloc _).alloc _).alloc _, (n2.alloc _).alloc _, n3.alloc _, n4, (((Grow.alloc _ w _).trans (Grow.alloc _ _ _)).trans (Grow.alloc _ _ _)).trans (Grow.alloc _ _ _)⟩
  obtain ⟨w4, hw4⟩ : ∃ w4, (((w.alloc (.cells #[.int .i64 0] 32)).alloc (.cells #[.pointer lp] 40)).alloc (.cells #[.int .i64 t] 3)).alloc (.cells #[.slice none 0 0] 97) = w4 := ⟨_, rfl⟩
  obtain ⟨z4, n1, n2, n3, n4, hN4⟩ := key4 w4 hw4
  rw [hw4]
  clear hw4 key4
  rw [hB]
  replace z4 : B + 4 ≤ w4.heap.size := Nat.le_of_eq z4.symm
  have hit := asks_iter0 (B + 1) (B + 1 + 1) (B + 1 + 1 + 1) lp t w4 n2.cell n3.cell n4.cell
  obtain ⟨I, hIe⟩ : ∃ I : Nat → List (Value × Int) → World → Prop, I = fun _ pre A => Boxed A B 32 (.int .i64 0) ∧ Boxed A (B + 1 + 1) 3 (.int .i64 t) ∧ Newer w A ∧ w4.heap.size ≤ A.heap.size ∧
      (0 < pre.length → isn = false) ∧ (1 < pre.length → ¬ t < 0 ∧ ¬ 8 ≤ t) := ⟨_, rfl⟩
  have hI : ∀ E pre A B', I E pre A → Grow (Span w4.heap.size E) A B' → I E pre B' := by
    rw [hIe]
    rintro E pre A B' ⟨i1, i2, i3, i4, i5⟩ hg
    exact ⟨boxed_grow i1 hg (fun h => by have := h.1; omega), boxed_grow i2 hg (fun h => by have := h.1; omega), i3.trans (hg.mono (fun k h => by have := h.1; show w.heap.size ≤ k; omega)), Nat.le_trans i4 hg.size, i5⟩
  refine wpIn_range_thru (gf := 64) rfl (fun _ _ => by kernel_rfl) hit (fun _ h => h.elim) (Below.refl _ _) (fun _ => rfl) I
    (fun _ _ A => Boxed A B 32 (.int .i64 (lockErr0 isn t)) ∧ lockErr0 isn t ≠ 0 ∧ Newer w A ∧ w4.heap.size ≤ A.heap.size) hI ?sIx ?init ?round ?after
  case sIx =>
    rintro E pre A B' ⟨i1, i2, i3, i4⟩ hg
    exact ⟨boxed_grow i1 hg (fun h => by have := h.1; omega), i2, i3.trans (hg.mono (fun k h => by have := h.1; show w.heap.size ≤ k; omega)), Nat.le_trans i4 hg.size⟩
  case init => rw [hIe]; exact fun E => ⟨n1, n3, hN4, Nat.le_refl _, by simp, by simp⟩
  case round =>
    rintro E l' pre x A hpre hE hEA hi0
    obtain ⟨f, fa, fb, e, ans, rfl, he, hef, hc, hpass, htell⟩ : ∃ (f : Nat) (fa fb : Array Value) (e : Int) (ans : Bool), x = (.func (.func f) fa fb, e) ∧ e ≠ 0 ∧ (∀ args w, (callFunc f args).run Try.prog w = .ok (.enter f args) w) ∧
        (∀ W, I E pre W → Calls Try.prog f (fa ++ fb) W fun e W' => e = .returned (.bool ans) ∧ Grow (fun _ => False) W W') ∧
        (∀ W, I E pre W → ans = false → I E (pre ++ [x]) W) ∧ (ans = true → lockErr0 isn t = e) := by
      clear hI hit
      rcases pre2 hpre with ⟨rfl, rfl⟩ | ⟨rfl, rfl⟩
      · refine ⟨46, _, _, 1, isn, rfl, by decide, fun _ _ => by kernel_rfl, ?_, ?_, ?_⟩
        · intro W hi
          rw [hIe] at hi
          refine (HN.out W hi.2.2.1).mono ?_
          rintro e' w' ⟨rfl, rfl⟩
          exact ⟨rfl, Grow.refl _ _⟩
        · intro W hi h
          rw [hIe] at hi ⊢
          exact ⟨hi.1, hi.2.1, hi.2.2.1, hi.2.2.2.1, fun _ => h, by simp⟩
        · rintro rfl
          simp [lockErr0]
      · refine ⟨65, _, _, 2, decide (t < 0) || decide (8 ≤ t), rfl, by decide, fun _ _ => by kernel_rfl, ?_, ?_, ?_⟩
        · intro W hi
          rw [hIe] at hi
          refine (thr_ask _ t W hi.2.1.cell).mono ?_
          rintro e' w' ⟨rfl, rfl⟩
          exact ⟨rfl, Grow.refl _ _⟩
        · intro W hi h
          rw [hIe] at hi ⊢
          exact ⟨hi.1, hi.2.1, hi.2.2.1, hi.2.2.2.1, fun _ => hi.2.2.2.2.1 (by simp), fun _ => by simpa using h⟩
        · intro h
          rw [hIe] at hi0
          simp [lockErr0, hi0.2.2.2.2.1 (by simp)]
          intro h1
          simp at h
          omega
    clear hit n1 n2 n3 n4 hN4 hpre
    simp only [enq]
    gi_wp2
    refine ⟨Keep.grow (Grow.alloc (fun _ => False) _ _) (fun k h => h.elim (fun h => h.elim) (fun h => by have := h.2; omega)) (fun _ _ h => h),
      fun W => W.cell? ⟨A.heap.size, 0, none⟩ = some (.func (.func f) fa fb) ∧ W.cell? ⟨A.heap.size, 1, none⟩ = some (.int .i64 e) ∧ A.heap.size < W.heap.size ∧ I E pre W, ?_, ?_, ?_⟩
    · rintro A1 B1 ⟨x1, x2, x3, x4⟩ hg
      exact ⟨(hg.cell x3 (fun h => by have := h.2; simp at this; omega)).trans x1, (hg.cell x3 (fun h => by have := h.2; simp at this; omega)).trans x2, Nat.lt_of_lt_of_le x3 hg.size, hI _ _ _ _ x4 hg⟩
    · refine ⟨?_, ?_, by simp, hI _ _ _ _ hi0 (Grow.alloc _ _ _)⟩
      · simp [go_sem]
      · simp [go_sem]
    rintro W2 ⟨x1, x2, x3, x4⟩ hz2
    clear hi0 hz2
    have hcc := hc W2 x4
    have HP := Lib.hid hpass
    have HT' := Lib.hid htell
    clear hc hpass htell
    gi_wp2
    refine (callsIn_wide.2 hcc).mono ?_
    clear hcc
    rintro ev w3 ⟨rfl, g3⟩
    have x5 : I E pre w3 := hI _ _ _ _ x4 (g3.mono (fun _ h => h.elim))
    have y2 := (g3.cell x3 (fun h => h)).trans x2
    have hz3 : W2.heap.size ≤ w3.heap.size := g3.size
    have hk3 : Keep (Leans (fun _ => False) w4.heap.size E) W2 w3 := Keep.grow g3 (fun k h => h.elim (fun h => h.elim) (fun h => by have := h.2; omega)) (fun _ _ h => h)
    clear x1 x2 g3
    cases ans with
    | false =>
      gi_wp2
      exact ⟨hk3, hz3, by have h := HP.out w3 x5; rw [hIe] at h; simpa using h⟩
    | true =>
      have x6 := x5
      rw [hIe] at x6
      obtain ⟨bk, bt, bN, bz, _⟩ := x6
      have cb := bk.cell
      have fb := bk.frozen
      have hB3 := bk.lt
      gi_wp2
      have hle := HT'.out trivial
      refine ⟨rfl, hk3.trans (fun k hk => ?_), by simpa using hz3, ?_, by rw [hle]; exact he, ?_, ?_⟩
      · exact Below.heap_setCell _ _ _ _ (hk.elim (fun h => h.elim) (fun h => by have := h.1; simp; omega))
      · rw [hle]; exact bk.set _
      · exact bN.trans (Grow.setCell _ _ _ (by show w.heap.size ≤ B; omega))
      · simpa using bz
  case after =>
    rintro E A hE hA hmark
    clear hit hI n1 n2 n3 n4 hN4 HN
    rcases hA with hA | ⟨pre, -, -, hA⟩
    · rw [hIe] at hA
      obtain ⟨b1, b2, b3, b4, b5, b6⟩ := hA
      clear hIe
      have hle : lockErr0 isn t = 0 := by
        have h1 := b5 (by simp)
        have h2 := b6 (by simp)
        simp [lockErr0, h1]
        omega
      have hcc := HT.out hle A b3
      have heg := HE.out
      have c1 := b1.cell
      have f1 := b1.frozen
      have l1 := b1.lt
      clear HT HE b5 b6
      gi_wp2
      refine (callsIn_wide.2 hcc).mono ?_
      clear hcc heg
      rintro ev w5 ⟨v, rfl, hR, g5⟩
      have bz5 := boxed_grow b1 g5 (by rw [hB]; omega)
      have hm5 : w5.heap[w4.heap.size]? = some (.deferred (some [])) := (g5.block _ (Array.getElem?_eq_some_iff.1 hmark).1 (by rw [hB]; omega)).trans hmark
      have c5 := bz5.cell
      have f5 := bz5.frozen
      have l5 := bz5.lt
      have HR := Lib.hid hR
      have HG := Lib.hid g5
      have HM := Lib.hid hm5
      have HM0 := Lib.hid hmark
      clear hR g5 hm5 hmark b1 b2 c1 f1 l1
      gi_wp2
      simp only [Exit.hop_ret]
      refine bodyPostM_marks [w4.heap.size] rfl ?_ (by simp) ?_
      · intro D hD
        obtain rfl : D = w4.heap.size := by simpa using hD
        exact (Below.heap_setCell _ _ _ _ (by show w4.heap.size ≠ B; omega)).trans HM.out
      · intro w9 h9
        refine ⟨_, results_tmp_cell rfl rfl ((show w9.cell? ⟨B, 0, none⟩ = some (.int .i64 0) → (loadVar 32 ⟨B, 0, none⟩).run Try.prog w9 = .ok (.int .i64 0) w9 from fun h => by go_simp) ?_), .inr ⟨hle, v, _, _, b3, HR.out, rfl, ?_⟩⟩
        · exact (boxed_grow (bz5.set (.int .i64 0)) h9 (by simp; omega)).cell
        · refine (Grow.setCell _ _ _ (by show w.heap.size ≤ B; omega)).trans (h9.mono (fun k hk => ?_))
          obtain rfl : k = w4.heap.size := by simpa using hk
          omega
    · obtain ⟨b1, b2, b3, b4⟩ := hA
      have c1 := b1.cell
      have f1 := b1.frozen
      have l1 := b1.lt
      have HM := Lib.hid hmark
      clear HT HE hIe hmark
      gi_wp2_with (first
        | apply wpIn_goto
        | (refine Exit.hop_goto rfl ?_)
        | apply wpIn_label)
      refine wpIn_calm ?_
      have mixed := mixedL
      gi_region_with_o (fail)
      gi_wp2
      simp only [Exit.noGoto_ret]
      have hd : Boxed (A.setCell ⟨B, 0, none⟩ (.int .i64 (lockErr0 isn t))).drew B 32 (.int .i64 (lockErr0 isn t)) := b1.set _
      refine bodyPostM_marks [w4.heap.size] rfl ?_ (by simp) ?_
      · intro D hD
        obtain rfl : D = w4.heap.size := by simpa using hD
        exact (Below.heap_setCell _ _ _ _ (by show w4.heap.size ≠ B; omega)).trans HM.out
      · intro w9 h9
        refine ⟨_, results_tmp_cell rfl rfl ((show w9.cell? ⟨B, 0, none⟩ = some (.int .i64 (lockErr0 isn t)) → (loadVar 32 ⟨B, 0, none⟩).run Try.prog w9 = .ok (.int .i64 (lockErr0 isn t)) w9 from fun h => by go_simp) ?_), .inl ⟨b2, rfl, ?_⟩⟩
        · exact (boxed_grow hd h9 (by simp; omega)).cell
        · refine (b3.trans ((Grow.setCell _ _ _ (by show w.heap.size ≤ B; omega)).trans (Grow.drew _ _))).trans (h9.mono (fun k hk => ?_))
          obtain rfl : k = w4.heap.size := by simpa using hk
          omega

end Go.Proofs.Ytbfadogjkhoohaa
