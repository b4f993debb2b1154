/- contracts of package lock: told -/
import Derived.Test.YtbfadogjkhoohaaLockA
namespace Go.Proofs.Ytbfadogjkhoohaa
open Go.RowKit
attribute [local go_sem] Oper.semAt_some

theorem thr_ask (tb : Nat) (t : Int) (w : World) (h : w.cell? ⟨tb, 0, none⟩ = some (.int .i64 t)) : Calls Try.prog 65 #[.pointer (some ⟨tb, 0, none⟩)] w fun e w' => e = .returned (.bool (decide (t < 0) || decide (8 ≤ t))) ∧ w = w' := by
  by_cases h1 : t < 0
  · go_enter Try.func65, Try.ntmps65
    go_wp2
    go_ret
    exact ⟨by simp [h1], rfl⟩
  · go_enter Try.func65, Try.ntmps65
    go_wp2
    go_ret
    refine ⟨?_, rfl⟩
    have : ¬ t < 0 := by omega
    simp [this]

theorem pre3 {α : Type} {pre : List α} {x a b c : α} (h : pre ++ [x] <+: [a, b, c]) : (pre = [] ∧ x = a) ∨ (pre = [a] ∧ x = b) ∨ (pre = [a, b] ∧ x = c) := by
  obtain ⟨t, ht⟩ := h
  match pre, ht with
  | [], ht => simp at ht; exact .inl ⟨rfl, ht.1⟩
  | [p], ht => simp at ht; exact .inr (.inl ⟨by rw [ht.1], ht.2.1⟩)
  | [p, q], ht => simp at ht; exact .inr (.inr ⟨by rw [ht.1, ht.2.1], ht.2.2.1⟩)
  | p :: q :: r :: l, ht => simp at ht
theorem pre2 {α : Type} {pre : List α} {x a b : α} (h : pre ++ [x] <+: [a, b]) : (pre = [] ∧ x = a) ∨ (pre = [a] ∧ x = b) := by
  obtain ⟨t, ht⟩ := h
  match pre, ht with
  | [], ht => simp at ht; exact .inl ⟨rfl, ht.1⟩
  | [p], ht => simp at ht; exact .inr ⟨by rw [ht.1], ht.2.1⟩
  | p :: q :: l, ht => simp at ht

theorem asks_any (lp : Option Addr) (t : Int) (sl : Value) (hs : ∃ a n c, sl = .slice a n c) (w : World) : Calls Try.prog 63 #[.pointer lp, .int .i64 t, sl] w fun e w' =>
    e = .returned (.func (.func 64) #[] #[.pointer (some ⟨w.heap.size, 0, none⟩), .pointer (some ⟨w.heap.size + 1, 0, none⟩), .pointer (some ⟨w.heap.size + 1 + 1, 0, none⟩)]) ∧
      w' = ((w.alloc (.cells #[.pointer lp] 40)).alloc (.cells #[.int .i64 t] 3)).alloc (.cells #[sl] 97) := by
  obtain ⟨a, n, c, rfl⟩ := hs
  go_enter Try.func63, Try.ntmps63
  go_wp2
  go_ret
  exact ⟨rfl, rfl⟩

theorem wpIn_calm {F : Fence} {n : Nat} {P : Program} {c : Code} {K : Act → World → Prop} {Q : Exit → Act → World → Prop} {a : Act} {w : World}
    (h : c.wpIn F n P (Exit.then K (fun _ _ _ => False)) a w) : c.wpIn F n P (Exit.then K Q) a w := by
  refine wpIn_mono h ?_
  intro e a w hq
  cases e with
  | normal => exact hq
  | exit id => exact hq.elim
  | goto t => exact hq.elim
  | ret => exact hq.elim
  | panic ch => exact hq.elim
  | outgrown => exact hq.elim

/-- nothing that lay in w has turned -/
def Newer (w W : World) : Prop := Grow (fun k => w.heap.size ≤ k) w W
theorem Newer.refl (w : World) : Newer w w := Grow.refl _ _
theorem Newer.ofGrow {w W W' : World} (h : Newer w W) (g : Grow (fun _ => False) W W') : Newer w W' := h.trans (g.mono (fun _ h => h.elim))

/-- which error is told: the first question's that says yes -/
def lockErr (isn : Bool) (t : Int) (a3 : Bool) (e3 : Int) : Int := if isn then 1 else if t < 0 ∨ 8 ≤ t then 2 else if a3 then e3 else 0

set_option maxRecDepth 100000 in
set_option maxHeartbeats 1600000 in
theorem told1_any (lp : Option Addr) (isn : Bool) (t : Int) (f3 : Nat) (ff fc : Array Value) (a3 : Bool) (e3 : Int) (qb : Nat) (tf : Nat) (tff tfc : Array Value) (w : World) (R : Value → World → World → Prop)
    (he3 : e3 ≠ 0) (hq0 : w.cell? ⟨qb, 0, none⟩ = some (.func (.func f3) ff fc)) (hq1 : w.cell? ⟨qb, 1, none⟩ = some (.int .i64 e3))
    (eg : ∀ f, f = f3 ∨ f = tf → ∀ args w, (callFunc f args).run Try.prog w = .ok (.enter f args) w)
    (hn : ∀ W, Newer w W → Calls Try.prog 46 #[.pointer lp] W fun e W' => e = .returned (.bool isn) ∧ W = W')
    (h3 : isn = false → ∀ W, Newer w W → Calls Try.prog f3 (ff ++ fc) W fun e W' => e = .returned (.bool a3) ∧ Grow (fun _ => False) W W')
    (ht : lockErr isn t a3 e3 = 0 → ∀ W, Newer w W → Calls Try.prog tf (tff ++ #[.int .i64 t] ++ tfc) W fun e W' => ∃ v, e = .returned v ∧ R v W W' ∧ Grow (fun k => k < w.heap.size) W W') :
    Calls Try.prog 47 #[.pointer lp, .int .i64 t, .func (.func tf) tff tfc, .slice (some ⟨qb, 0, none⟩) 1 1] w fun e w' =>
      (lockErr isn t a3 e3 ≠ 0 ∧ e = .returned (.tuple #[.bool false, .int .i64 (lockErr isn t a3 e3)]) ∧ Newer w w') ∨
      (lockErr isn t a3 e3 = 0 ∧ ∃ v W W', Newer w W ∧ R v W W' ∧ e = .returned (.tuple #[v, .int .i64 0]) ∧ Grow (fun k => w.heap.size ≤ k) W' w') := by
  have HN := Lib.hid hn
  have H3 := Lib.hid h3
  have HT := Lib.hid ht
  have HE := Lib.hid eg
  clear hn h3 ht eg
  refine (callsIn_wide (n := 0)).1 ?_
  refine callsIn_of_wp_marks Try.func47 rfl trivial ?_
  simp only [Try.ntmps47, List.size_toArray, List.length_cons, List.length_nil, Nat.reduceAdd, Nat.reduceSub, Array.replicate_succ, Array.replicate_zero, List.push_toArray, List.append_toArray, List.nil_append, List.cons_append]
  gi_wp2_with (first | apply wpIn_scope_hop | apply wpIn_label)
  refine (callsIn_wide.2 (asks_any lp t _ ⟨_, _, _, rfl⟩ _)).mono ?_
  rintro e w' ⟨rfl, rfl⟩
  gi_wp2_with fail
  obtain ⟨B, hB⟩ : ∃ B, w.heap.size = B := ⟨_, rfl⟩
  have key4 : ∀ w4, (((w.alloc (.cells #[.int .i64 0] 32)).alloc (.cells #[.pointer lp] 40)).alloc (.cells #[.int .i64 t] 3)).alloc (.cells #[.slice (some ⟨qb, 0, none⟩) 1 1] 97) = w4 →
      w4.heap.size = B + 4 ∧ Boxed w4 B 32 (.int .i64 0) ∧ Boxed w4 (B + 1) 40 (.pointer lp) ∧ Boxed w4 (B + 1 + 1) 3 (.int .i64 t) ∧ Boxed w4 (B + 1 + 1 + 1) 97 (.slice (some ⟨qb, 0, none⟩) 1 1) ∧ Newer w w4 := by
    rintro _ rfl
    subst hB
    have n1 := Boxed.new w 32 (.int .i64 0)
    have n2 := Boxed.new (w.alloc (.cells #[.int .i64 0] 32)) 40 (.pointer lp)
    have n3 := Boxed.new ((w.alloc (.cells #[.int .i64 0] 32)).alloc (.cells #[.pointer lp] 40)) 3 (.int .i64 t)
    have n4 := Boxed.new (((w.alloc (.cells #[.int .i64 0] 32)).alloc (.cells #[.pointer lp] 40)).alloc (.cells #[.int .i64 t] 3)) 97 (.slice (some ⟨qb, 0, none⟩) 1 1)
    simp only [World.size_alloc] at n2 n3 n4
    exact ⟨by simp, ((n1.alloc _).alloc _).alloc _, (n2.alloc _).alloc _, n3.alloc _, n4, (((Grow.alloc _ w _).trans (Grow.alloc _ _ _)).trans (Grow.alloc _ _ _)).trans (Grow.alloc _ _ _)⟩
  obtain ⟨w4, hw4⟩ : ∃ w4, (((w.alloc (.cells #[.int .i64 0] 32)).alloc (.cells #[.pointer lp] 40)).alloc (.cells #[.int .i64 t] 3)).alloc (.cells #[.slice (some ⟨qb, 0, none⟩) 1 1] 97) = w4 := ⟨_, rfl⟩
  obtain ⟨z4, n1, n2, n3, n4, hN4⟩ := key4 w4 hw4
  rw [hw4]
  clear hw4 key4
  rw [hB]
  replace z4 : B + 4 ≤ w4.heap.size := Nat.le_of_eq z4.symm
  have bq := World.block_lt_of_cell? _ _ hq0
  have hit := asks_iter1 (B + 1) (B + 1 + 1) (B + 1 + 1 + 1) qb lp t (.func f3) ff fc e3 w4 n2.cell n3.cell n4.cell ((hN4.cell bq (by simp at bq ⊢; omega)).trans hq0) ((hN4.cell (p := ⟨qb, 1, none⟩) bq (by simp at bq ⊢; omega)).trans hq1)
  obtain ⟨I, hIe⟩ : ∃ I : Nat → List (Value × Int) → World → Prop, I = fun _ pre A => Boxed A B 32 (.int .i64 0) ∧ Boxed A (B + 1 + 1) 3 (.int .i64 t) ∧ Newer w A ∧ w4.heap.size ≤ A.heap.size ∧
      (0 < pre.length → isn = false) ∧ (1 < pre.length → ¬ t < 0 ∧ ¬ 8 ≤ t) ∧ (2 < pre.length → a3 = false) := ⟨_, rfl⟩
  have hI : ∀ E pre A B', I E pre A → Grow (Span w4.heap.size E) A B' → I E pre B' := by
    rw [hIe]
    rintro E pre A B' ⟨i1, i2, i3, i4, i5⟩ hg
    exact ⟨boxed_grow i1 hg (fun h => by have := h.1; omega), boxed_grow i2 hg (fun h => by have := h.1; omega), i3.trans (hg.mono (fun k h => by have := h.1; show w.heap.size ≤ k; omega)), Nat.le_trans i4 hg.size, i5⟩
  refine wpIn_range_thru (gf := 64) rfl (fun _ _ => by kernel_rfl) hit (fun _ h => h.elim) (Below.refl _ _) (fun _ => rfl) I
    (fun _ _ A => Boxed A B 32 (.int .i64 (lockErr isn t a3 e3)) ∧ lockErr isn t a3 e3 ≠ 0 ∧ Newer w A ∧ w4.heap.size ≤ A.heap.size) hI ?sIx ?init ?round ?after
  case sIx =>
    rintro E pre A B' ⟨i1, i2, i3, i4⟩ hg
    exact ⟨boxed_grow i1 hg (fun h => by have := h.1; omega), i2, i3.trans (hg.mono (fun k h => by have := h.1; show w.heap.size ≤ k; omega)), Nat.le_trans i4 hg.size⟩
  case init => rw [hIe]; exact fun E => ⟨n1, n3, hN4, Nat.le_refl _, by simp, by simp, by simp⟩
  case round =>
    rintro E l' pre x A hpre hE hEA hi0
    obtain ⟨f, fa, fb, e, ans, rfl, he, hef, hc, hpass, htell⟩ : ∃ (f : Nat) (fa fb : Array Value) (e : Int) (ans : Bool), x = (.func (.func f) fa fb, e) ∧ e ≠ 0 ∧ (∀ args w, (callFunc f args).run Try.prog w = .ok (.enter f args) w) ∧
        (∀ W, I E pre W → Calls Try.prog f (fa ++ fb) W fun e W' => e = .returned (.bool ans) ∧ Grow (fun _ => False) W W') ∧
        (∀ W, I E pre W → ans = false → I E (pre ++ [x]) W) ∧ (ans = true → lockErr isn t a3 e3 = e) := by
      clear hI hit
      rcases pre3 hpre with ⟨rfl, rfl⟩ | ⟨rfl, rfl⟩ | ⟨rfl, rfl⟩
      · refine ⟨46, _, _, 1, isn, rfl, by decide, fun _ _ => by kernel_rfl, ?_, ?_, ?_⟩
        · intro W hi
          rw [hIe] at hi
          refine (HN.out W hi.2.2.1).mono ?_
          rintro e' w' ⟨rfl, rfl⟩
          exact ⟨rfl, Grow.refl _ _⟩
        · intro W hi h
          rw [hIe] at hi ⊢
          exact ⟨hi.1, hi.2.1, hi.2.2.1, hi.2.2.2.1, fun _ => h, by simp, by simp⟩
        · rintro rfl
          simp [lockErr]
      · refine ⟨65, _, _, 2, decide (t < 0) || decide (8 ≤ t), rfl, by decide, fun _ _ => by kernel_rfl, ?_, ?_, ?_⟩
        · intro W hi
          rw [hIe] at hi
          refine (thr_ask _ t W hi.2.1.cell).mono ?_
          rintro e' w' ⟨rfl, rfl⟩
          exact ⟨rfl, Grow.refl _ _⟩
        · intro W hi h
          rw [hIe] at hi ⊢
          exact ⟨hi.1, hi.2.1, hi.2.2.1, hi.2.2.2.1, fun _ => hi.2.2.2.2.1 (by simp), fun _ => by simpa using h, by simp⟩
        · intro h
          rw [hIe] at hi0
          simp [lockErr, hi0.2.2.2.2.1 (by simp)]
          intro h1 h2
          simp at h
          omega
      · have hisn : isn = false := by rw [hIe] at hi0; exact hi0.2.2.2.2.1 (by simp)
        refine ⟨f3, _, _, e3, a3, rfl, he3, fun _ _ => HE.out _ (.inl rfl) _ _, ?_, ?_, ?_⟩
        · intro W hi
          rw [hIe] at hi
          exact H3.out hisn W hi.2.2.1
        · intro W hi h
          rw [hIe] at hi ⊢
          exact ⟨hi.1, hi.2.1, hi.2.2.1, hi.2.2.2.1, fun _ => hisn, fun _ => hi.2.2.2.2.2.1 (by simp), fun _ => h⟩
        · rintro rfl
          rw [hIe] at hi0
          have h2 := hi0.2.2.2.2.2.1 (by simp)
          simp [lockErr, hisn]
          omega
    clear hit n1 n2 n3 n4 hN4 hq0 hq1 bq hpre he3
    simp only [enq]
    gi_wp2
    refine ⟨Keep.grow (Grow.alloc (fun _ => False) _ _) (fun k h => h.elim (fun h => h.elim) (fun h => by have := h.2; omega)) (fun _ _ h => h),
      fun W => W.cell? ⟨A.heap.size, 0, none⟩ = some (.func (.func f) fa fb) ∧ W.cell? ⟨A.heap.size, 1, none⟩ = some (.int .i64 e) ∧ A.heap.size < W.heap.size ∧ I E pre W, ?_, ?_, ?_⟩
    · rintro A1 B1 ⟨x1, x2, x3, x4⟩ hg
      exact ⟨(hg.cell x3 (fun h => by have := h.2; simp at this; omega)).trans x1, (hg.cell x3 (fun h => by have := h.2; simp at this; omega)).trans x2, Nat.lt_of_lt_of_le x3 hg.size, hI _ _ _ _ x4 hg⟩
    · refine ⟨?_, ?_, by simp, hI _ _ _ _ hi0 (Grow.alloc _ _ _)⟩
      · simp [go_sem]
      · simp [go_sem]
    rintro W2 ⟨x1, x2, x3, x4⟩ hz2
    clear hi0 hz2
    have hcc := hc W2 x4
    have HP := Lib.hid hpass
    have HT' := Lib.hid htell
    clear hc hpass htell
    gi_wp2
    refine (callsIn_wide.2 hcc).mono ?_
    clear hcc
    rintro ev w3 ⟨rfl, g3⟩
    have x5 : I E pre w3 := hI _ _ _ _ x4 (g3.mono (fun _ h => h.elim))
    have y2 := (g3.cell x3 (fun h => h)).trans x2
    have hz3 : W2.heap.size ≤ w3.heap.size := g3.size
    have hk3 : Keep (Leans (fun _ => False) w4.heap.size E) W2 w3 := Keep.grow g3 (fun k h => h.elim (fun h => h.elim) (fun h => by have := h.2; omega)) (fun _ _ h => h)
    clear x1 x2 g3
    cases ans with
    | false =>
      gi_wp2
      exact ⟨hk3, hz3, by have h := HP.out w3 x5; rw [hIe] at h; simpa using h⟩
    | true =>
      have x6 := x5
      rw [hIe] at x6
      obtain ⟨bk, bt, bN, bz, _⟩ := x6
      have cb := bk.cell
      have fb := bk.frozen
      have hB3 := bk.lt
      gi_wp2
      have hle := HT'.out trivial
      refine ⟨rfl, hk3.trans (fun k hk => ?_), by simpa using hz3, ?_, by rw [hle]; exact he, ?_, ?_⟩
      · exact Below.heap_setCell _ _ _ _ (hk.elim (fun h => h.elim) (fun h => by have := h.1; simp; omega))
      · rw [hle]; exact bk.set _
      · exact bN.trans (Grow.setCell _ _ _ (by show w.heap.size ≤ B; omega))
      · simpa using bz
  case after =>
    rintro E A hE hA hmark
    clear hit hI n1 n2 n3 n4 hN4 hq0 hq1 bq he3 H3 HN
    rcases hA with hA | ⟨pre, -, -, hA⟩
    · rw [hIe] at hA
      obtain ⟨b1, b2, b3, b4, b5, b6, b7⟩ := hA
      clear hIe
      have hle : lockErr isn t a3 e3 = 0 := by
        have h1 := b5 (by simp)
        have h2 := b6 (by simp)
        have h3 := b7 (by simp)
        simp [lockErr, h1, h3]
        omega
      have hcc := HT.out hle A b3
      have heg := HE.out tf (.inr rfl)
      have c1 := b1.cell
      have f1 := b1.frozen
      have l1 := b1.lt
      clear HT HE b5 b6 b7
      gi_wp2
      refine (callsIn_wide.2 hcc).mono ?_
      clear hcc heg
      rintro ev w5 ⟨v, rfl, hR, g5⟩
      have bz5 := boxed_grow b1 g5 (by rw [hB]; omega)
      have hm5 : w5.heap[w4.heap.size]? = some (.deferred (some [])) := (g5.block _ (Array.getElem?_eq_some_iff.1 hmark).1 (by rw [hB]; omega)).trans hmark
      have c5 := bz5.cell
      have f5 := bz5.frozen
      have l5 := bz5.lt
      have HR := Lib.hid hR
      have HG := Lib.hid g5
      have HM := Lib.hid hm5
      have HM0 := Lib.hid hmark
      clear hR g5 hm5 hmark b1 b2 c1 f1 l1
      gi_wp2
      simp only [Exit.hop_ret]
      refine bodyPostM_marks [w4.heap.size] rfl ?_ (by simp) ?_
      · intro D hD
        obtain rfl : D = w4.heap.size := by simpa using hD
        exact (Below.heap_setCell _ _ _ _ (by show w4.heap.size ≠ B; omega)).trans HM.out
      · intro w9 h9
        refine ⟨_, results_tmp_cell rfl rfl ((show w9.cell? ⟨B, 0, none⟩ = some (.int .i64 0) → (loadVar 32 ⟨B, 0, none⟩).run Try.prog w9 = .ok (.int .i64 0) w9 from fun h => by go_simp) ?_), .inr ⟨hle, v, _, _, b3, HR.out, rfl, ?_⟩⟩
        · exact (boxed_grow (bz5.set (.int .i64 0)) h9 (by simp; omega)).cell
        · refine (Grow.setCell _ _ _ (by show w.heap.size ≤ B; omega)).trans (h9.mono (fun k hk => ?_))
          obtain rfl : k = w4.heap.size := by simpa using hk
          omega
    · obtain ⟨b1, b2, b3, b4⟩ := hA
      have c1 := b1.cell
      have f1 := b1.frozen
      have l1 := b1.lt
      have HM := Lib.hid hmark
      clear HT HE hIe hmark
      gi_wp2_with (first
        | apply wpIn_goto
        | (refine Exit.hop_goto rfl ?_)
        | apply wpIn_label)
      refine wpIn_calm ?_
      have mixed := mixedL
      gi_region_with_o (fail)
      gi_wp2
      simp only [Exit.noGoto_ret]
      have hd : Boxed (A.setCell ⟨B, 0, none⟩ (.int .i64 (lockErr isn t a3 e3))).drew B 32 (.int .i64 (lockErr isn t a3 e3)) := b1.set _
      refine bodyPostM_marks [w4.heap.size] rfl ?_ (by simp) ?_
      · intro D hD
        obtain rfl : D = w4.heap.size := by simpa using hD
        exact (Below.heap_setCell _ _ _ _ (by show w4.heap.size ≠ B; omega)).trans HM.out
      · intro w9 h9
        refine ⟨_, results_tmp_cell rfl rfl ((show w9.cell? ⟨B, 0, none⟩ = some (.int .i64 (lockErr isn t a3 e3)) → (loadVar 32 ⟨B, 0, none⟩).run Try.prog w9 = .ok (.int .i64 (lockErr isn t a3 e3)) w9 from fun h => by go_simp) ?_), .inl ⟨b2, rfl, ?_⟩⟩
        · exact (boxed_grow hd h9 (by simp; omega)).cell
        · refine (b3.trans ((Grow.setCell _ _ _ (by show w.heap.size ≤ B; omega)).trans (Grow.drew _ _))).trans (h9.mono (fun k hk => ?_))
          obtain rfl : k = w4.heap.size := by simpa using hk
          omega

end Go.Proofs.Ytbfadogjkhoohaa
