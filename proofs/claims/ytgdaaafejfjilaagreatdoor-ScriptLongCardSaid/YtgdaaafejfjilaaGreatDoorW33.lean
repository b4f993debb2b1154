/- ScriptSame: the walk -/
import Derived.Test.YtgdaaafejfjilaaGreatDoorW30
namespace Go.Proofs.YtgdaaafejfjilaaGreatDoor
open Go.RowKit
attribute [local go_sem] Oper.semAt_some undef

theorem sameL_comm (a b : ActL) : sameL b a = sameL a b := by
  cases h : sameL a b with
  | true =>
    obtain rfl := sameL_iff.1 h
    exact h
  | false =>
    cases h' : sameL b a with
    | false => rfl
    | true =>
      obtain rfl := sameL_iff.1 h'
      rw [h'] at h; cases h

/-- two acts in a row of their own -/
theorem sliceA_two {W : World} {z : Nat} {a b : ActL} {v8 v9 u8 u9 : Value} (h : ActF W z 0 a v8 v9) (k : ActF W z 10 b u8 u9) (ha : SliceB W v8 a.bytes ∧ SliceM W v9 a.marks) (hb : SliceB W u8 b.bytes ∧ SliceM W u9 b.marks) : SliceA W (.slice (some ⟨z, 0, none⟩) 2 2) [a, b] := by
  refine ⟨_, _, rfl, fun j hj => ?_⟩
  have hj : j < 2 := hj
  rcases (by omega : j = 0 ∨ j = 1) with rfl | rfl
  · exact ⟨z, 0, v8, v9, rfl, h, ha⟩
  · exact ⟨z, 0, u8, u9, rfl, k, hb⟩
theorem sliceA_one {W : World} {z : Nat} {a : ActL} {v8 v9 : Value} (h : ActF W z 0 a v8 v9) (ha : SliceB W v8 a.bytes ∧ SliceM W v9 a.marks) : SliceA W (.slice (some ⟨z, 0, none⟩) 1 1) [a] := by
  refine ⟨_, _, rfl, fun j hj => ?_⟩
  have hj : j < 1 := hj
  obtain rfl : j = 0 := by omega
  exact ⟨z, 0, v8, v9, rfl, h, ha⟩

/-- a row of two acts -/
theorem two_named (w : World) (a b : ActL) (v8 v9 u8 u9 : Value) : ∃ W, w.alloc (.cells #[.int .i64 a.kind, .int .i64 a.thread, .int .i64 a.n, .int .i64 a.okind, .string ⟨a.path.toArray⟩, .string ⟨a.dest.toArray⟩, .int .i64 a.at_, .int .i64 a.on, v8, v9, .int .i64 b.kind, .int .i64 b.thread, .int .i64 b.n, .int .i64 b.okind, .string ⟨b.path.toArray⟩, .string ⟨b.dest.toArray⟩, .int .i64 b.at_, .int .i64 b.on, u8, u9] 29) = W ∧ ActF W w.heap.size 0 a v8 v9 ∧ ActF W w.heap.size 10 b u8 u9 ∧ Newer w W := by
  refine ⟨_, rfl, ?_, ?_, Newer.alloc _ _⟩
  · constructor <;> simp [go_sem]
  · constructor <;> simp [go_sem]
theorem one_named (w : World) (a : ActL) (v8 v9 : Value) : ∃ W, w.alloc (.cells #[.int .i64 a.kind, .int .i64 a.thread, .int .i64 a.n, .int .i64 a.okind, .string ⟨a.path.toArray⟩, .string ⟨a.dest.toArray⟩, .int .i64 a.at_, .int .i64 a.on, v8, v9] 29) = W ∧ ActF W w.heap.size 0 a v8 v9 ∧ Newer w W := by
  refine ⟨_, rfl, ?_, Newer.alloc _ _⟩
  constructor <;> simp [go_sem]

/-- two boxed acts are held -/
theorem held_box {w1 W : World} {x y : Nat} {a b : ActL} {v8 v9 u8 u9 : Value} (n : Newer w1 W) (h : ActC w1 x a v8 v9) (k : ActC w1 y b u8 u9) : Newer w1 W ∧
    (W.cell? ⟨x, 0, none⟩ = some (.int .i64 a.kind) ∧ W.cell? ⟨x, 1, none⟩ = some (.int .i64 a.thread) ∧ W.cell? ⟨x, 2, none⟩ = some (.int .i64 a.n) ∧ W.cell? ⟨x, 3, none⟩ = some (.int .i64 a.okind) ∧ W.cell? ⟨x, 4, none⟩ = some (.string ⟨a.path.toArray⟩) ∧ W.cell? ⟨x, 5, none⟩ = some (.string ⟨a.dest.toArray⟩) ∧ W.cell? ⟨x, 6, none⟩ = some (.int .i64 a.at_) ∧ W.cell? ⟨x, 7, none⟩ = some (.int .i64 a.on) ∧ W.cell? ⟨x, 8, none⟩ = some v8 ∧ W.cell? ⟨x, 9, none⟩ = some v9) ∧
    (W.cell? ⟨y, 0, none⟩ = some (.int .i64 b.kind) ∧ W.cell? ⟨y, 1, none⟩ = some (.int .i64 b.thread) ∧ W.cell? ⟨y, 2, none⟩ = some (.int .i64 b.n) ∧ W.cell? ⟨y, 3, none⟩ = some (.int .i64 b.okind) ∧ W.cell? ⟨y, 4, none⟩ = some (.string ⟨b.path.toArray⟩) ∧ W.cell? ⟨y, 5, none⟩ = some (.string ⟨b.dest.toArray⟩) ∧ W.cell? ⟨y, 6, none⟩ = some (.int .i64 b.at_) ∧ W.cell? ⟨y, 7, none⟩ = some (.int .i64 b.on) ∧ W.cell? ⟨y, 8, none⟩ = some u8 ∧ W.cell? ⟨y, 9, none⟩ = some u9) := by
  obtain ⟨c0, c1, c2, c3, c4, c5, c6, c7, c8, c9⟩ := h.newer n
  obtain ⟨d0, d1, d2, d3, d4, d5, d6, d7, d8, d9⟩ := k.newer n
  exact ⟨n, ⟨c0, c1, c2, c3, c4, c5, c6, c7, c8, c9⟩, d0, d1, d2, d3, d4, d5, d6, d7, d8, d9⟩

set_option maxRecDepth 100000 in
set_option maxHeartbeats 3200000 in
theorem scriptSame_any (a b : ActL) (p8 p9 q8 q9 : Option Addr) (n8 n9 m8 m9 k8 k9 l8 l9 : Nat) (w : World) (E : Env w) (ha : SliceB w (.slice p8 n8 m8) a.bytes ∧ SliceM w (.slice p9 n9 m9) a.marks) (hb : SliceB w (.slice q8 k8 l8) b.bytes ∧ SliceM w (.slice q9 k9 l9) b.marks) :
    Calls Tryz.prog 5 #[actV a (.slice p8 n8 m8) (.slice p9 n9 m9), actV b (.slice q8 k8 l8) (.slice q9 k9 l9)] w fun e w' => e = .returned (.bool true) ∧ Newer w w' := by
  have HE := Lib.hid E
  have HS := Lib.hid ha
  have HT := Lib.hid hb
  clear E ha hb
  unfold actV
  go_enter Tryz.func5, Tryz.ntmps5
  go_upto_region 1 with fail
  obtain ⟨w1, x, h1, hx, hA, n1⟩ := box_named w a (.slice p8 n8 m8) (.slice p9 n9 m9)
  obtain ⟨w2, y, h2, hy, hB, n2⟩ := box_named w1 b (.slice q8 k8 l8) (.slice q9 k9 l9)
  have hxy : y = x + 1 := by rw [← hy, ← h1, ← hx]; simp
  rw [h1, h2, hx]
  subst hxy
  have hA2 := hA.newer n2
  have HN2 := Lib.hid (n1.trans n2)
  have HA2 := Lib.hid hA2
  have HB2 := Lib.hid hB
  obtain ⟨c0, c1, c2, c3, c4, c5, c6, c7, c8, c9⟩ := hA2
  obtain ⟨d0, d1, d2, d3, d4, d5, d6, d7, d8, d9⟩ := hB
  clear h1 h2 hx hy hA n1 n2
  go_wp2_with fail
  obtain ⟨w3, h3, hf, hg, n3⟩ := two_named w2 a b (.slice p8 n8 m8) (.slice p9 n9 m9) (.slice q8 k8 l8) (.slice q9 k9 l9)
  rw [h3]
  have HN3 := Lib.hid (HN2.out.trans n3)
  have hsl := sliceA_two hf hg ⟨HS.out.1.newer HN3.out, HS.out.2.newer HN3.out⟩ ⟨HT.out.1.newer HN3.out, HT.out.2.newer HN3.out⟩
  refine (few_any [a, b] _ 2 w3 hsl (by simp)).mono ?_
  rintro e w4 ⟨rfl, n4⟩
  have HN4 := Lib.hid (HN3.out.trans n4)
  have HA4 := Lib.hid (HA2.out.newer (n3.trans n4))
  have HB4 := Lib.hid (HB2.out.newer (n3.trans n4))
  obtain ⟨fw, hfw⟩ : ∃ f, fewL [a, b] 2 = f := ⟨_, rfl⟩
  rw [hfw]
  have HF := Lib.hid hfw
  clear h3 hf hg n3 n4 hsl hfw c0 c1 c2 c3 c4 c5 c6 c7 c8 c9 d0 d1 d2 d3 d4 d5 d6 d7 d8 d9
  cases fw with
  | false =>
    go_wp2_with fail
    refine (works_any w4 (HE.out.newer HN4.out)).mono ?_
    rintro e w5 ⟨rfl, n5⟩
    have HN5 := Lib.hid (HN4.out.trans n5)
    clear n5
    go_wp2_with fail
    go_ret
    exact ⟨rfl, HN5.out⟩
  | true =>
    have hfew := (fewL_all HF.out).1
    have hfa := hfew a (by simp)
    have hfb := hfew b (by simp)
    have HM : Hid ((a.bytes.length ≤ 1000000 ∧ a.marks.length ≤ 1000000) ∧ (b.bytes.length ≤ 1000000 ∧ b.marks.length ≤ 1000000)) := Lib.hid (by
      have h1 := hfa.2.2
      have h2 := hfb.2.2
      exact ⟨⟨by omega, by omega⟩, by omega, by omega⟩)
    obtain ⟨X, hX⟩ : ∃ X, sameL a b = X := ⟨_, rfl⟩
    have H16 : Hid (∀ W, Newer w4 W → Calls Tryz.prog 16 #[actV a (.slice p8 n8 m8) (.slice p9 n9 m9), actV b (.slice q8 k8 l8) (.slice q9 k9 l9)] W fun e w' => e = .returned (.bool X) ∧ Newer W w') := Lib.hid (fun W n => by
      have n0 := HN4.out.trans n
      have := refSame_any a b p8 p9 q8 q9 n8 n9 m8 m9 k8 k9 l8 l9 W ⟨HS.out.1.newer n0, HS.out.2.newer n0⟩ ⟨HT.out.1.newer n0, HT.out.2.newer n0⟩ HM.out.1.2 HM.out.2.2
      rwa [hX] at this)
    have H17 : Hid (∀ W u v x, Newer w4 W → ((u = actV a (.slice p8 n8 m8) (.slice p9 n9 m9) ∧ v = actV b (.slice q8 k8 l8) (.slice q9 k9 l9) ∧ x = X) ∨ (u = actV b (.slice q8 k8 l8) (.slice q9 k9 l9) ∧ v = actV a (.slice p8 n8 m8) (.slice p9 n9 m9) ∧ x = X) ∨ (u = actV a (.slice p8 n8 m8) (.slice p9 n9 m9) ∧ v = actV a (.slice p8 n8 m8) (.slice p9 n9 m9) ∧ x = true)) → Calls Tryz.prog 17 #[u, v] W fun e w' => e = .returned (.bool x) ∧ Newer W w') := Lib.hid (fun W u v x n h => by
      have n0 := HN4.out.trans n
      rcases h with ⟨rfl, rfl, rfl⟩ | ⟨rfl, rfl, rfl⟩ | ⟨rfl, rfl, rfl⟩
      · have := same_any a b p8 p9 q8 q9 n8 n9 m8 m9 k8 k9 l8 l9 W ⟨HS.out.1.newer n0, HS.out.2.newer n0⟩ ⟨HT.out.1.newer n0, HT.out.2.newer n0⟩ HM.out.1 HM.out.2
        rwa [hX] at this
      · have := same_any b a q8 q9 p8 p9 k8 k9 l8 l9 n8 n9 m8 m9 W ⟨HT.out.1.newer n0, HT.out.2.newer n0⟩ ⟨HS.out.1.newer n0, HS.out.2.newer n0⟩ HM.out.2 HM.out.1
        rwa [sameL_comm, hX] at this
      · have := same_any a a p8 p9 p8 p9 n8 n9 m8 m9 n8 n9 m8 m9 W ⟨HS.out.1.newer n0, HS.out.2.newer n0⟩ ⟨HS.out.1.newer n0, HS.out.2.newer n0⟩ HM.out.1 HM.out.1
        rwa [sameL_iff.2 rfl] at this)
    have HW : Hid (∀ W, Newer w4 W → Calls Tryz.prog 11 #[] W fun e w' => e = .returned (.bool true) ∧ Newer W w') := Lib.hid (fun W n => works_any W (HE.out.newer (HN4.out.trans n)))
    clear hX hfew hfa hfb
    cases X
    all_goals
      go_wp2_with fail
      go_region_held3 (fun w' => Newer w4 w' ∧ (w'.cell? ⟨x, 0, none⟩ = some (.int .i64 a.kind) ∧ w'.cell? ⟨x, 1, none⟩ = some (.int .i64 a.thread) ∧ w'.cell? ⟨x, 2, none⟩ = some (.int .i64 a.n) ∧ w'.cell? ⟨x, 3, none⟩ = some (.int .i64 a.okind) ∧ w'.cell? ⟨x, 4, none⟩ = some (.string ⟨a.path.toArray⟩) ∧ w'.cell? ⟨x, 5, none⟩ = some (.string ⟨a.dest.toArray⟩) ∧ w'.cell? ⟨x, 6, none⟩ = some (.int .i64 a.at_) ∧ w'.cell? ⟨x, 7, none⟩ = some (.int .i64 a.on) ∧ w'.cell? ⟨x, 8, none⟩ = some (.slice p8 n8 m8) ∧ w'.cell? ⟨x, 9, none⟩ = some (.slice p9 n9 m9)) ∧ (w'.cell? ⟨x + 1, 0, none⟩ = some (.int .i64 b.kind) ∧ w'.cell? ⟨x + 1, 1, none⟩ = some (.int .i64 b.thread) ∧ w'.cell? ⟨x + 1, 2, none⟩ = some (.int .i64 b.n) ∧ w'.cell? ⟨x + 1, 3, none⟩ = some (.int .i64 b.okind) ∧ w'.cell? ⟨x + 1, 4, none⟩ = some (.string ⟨b.path.toArray⟩) ∧ w'.cell? ⟨x + 1, 5, none⟩ = some (.string ⟨b.dest.toArray⟩) ∧ w'.cell? ⟨x + 1, 6, none⟩ = some (.int .i64 b.at_) ∧ w'.cell? ⟨x + 1, 7, none⟩ = some (.int .i64 b.on) ∧ w'.cell? ⟨x + 1, 8, none⟩ = some (.slice q8 k8 l8) ∧ w'.cell? ⟨x + 1, 9, none⟩ = some (.slice q9 k9 l9))) (first | exact held_box (Newer.drew _) HA4.out HB4.out | (go_split_ands; exact ⟨by assumption, ⟨by assumption, by assumption, by assumption, by assumption, by assumption, by assumption, by assumption, by assumption, by assumption, by assumption⟩, by assumption, by assumption, by assumption, by assumption, by assumption, by assumption, by assumption, by assumption, by assumption, by assumption⟩) | (go_split_ands; exact held_box (Newer.trans (by assumption) (by assumption)) HA4.out HB4.out)) (first | (go_at_call 16; refine (H16.out _ (by first | assumption | exact Newer.drew _ | (go_split_ands; assumption))).mono ?_; rintro e w' ⟨rfl, n2⟩) | (go_at_call 17; refine (H17.out _ _ _ _ (by first | assumption | exact Newer.drew _ | (go_split_ands; assumption)) (by first | exact .inl ⟨rfl, rfl, rfl⟩ | exact .inr (.inl ⟨rfl, rfl, rfl⟩) | exact .inr (.inr ⟨rfl, rfl, rfl⟩))).mono ?_; rintro e w' ⟨rfl, n2⟩) | (go_at_call 11; refine (HW.out _ (by first | assumption | exact Newer.drew _ | (go_split_ands; assumption))).mono ?_; rintro e w' ⟨rfl, n2⟩))
    all_goals
      go_split_ands
      have hN := Lib.hid (‹Newer w4 _›)
      go_wp2_with fail
      go_ret
      exact ⟨rfl, HN4.out.trans hN.out⟩

end Go.Proofs.YtgdaaafejfjilaaGreatDoor
