/- the laws' helpers: num, same, few -/
import Derived.Test.YtgdaaafejfjilaaGreatDoorW28
import Derived.Deep.RegionHeld3
import Derived.Deep.Cut
namespace Go.Proofs.YtgdaaafejfjilaaGreatDoor
open Go.RowKit
attribute [local go_sem] Oper.semAt_some undef

theorem num_any (k : Int) (w : World) : Calls Tryz.prog 14 #[.int .i64 k] w fun e w' => e = .returned (.int .i64 k) ∧ w' = w := by
  go_enter Tryz.func14, Tryz.ntmps14
  go_wp2
  go_ret
  exact ⟨rfl, rfl⟩

def fewA (a : ActL) : Bool := decide (a.path.length ≤ 400) && (decide (a.dest.length ≤ 400) && (decide (a.bytes.length ≤ 500) && decide (a.marks.length ≤ 80)))
theorem fewA_iff {a : ActL} : fewA a = true ↔ FewA a := by unfold fewA FewA; simp
def fewL (l : List ActL) (most : Int) : Bool := l.all fewA && decide ((l.length : Int) ≤ most)
theorem few_no {l : List ActL} {most : Int} {j : Nat} (hj : j < l.length) (h : ¬ FewA l[j]) : false = fewL l most := by
  symm
  unfold fewL
  rw [Bool.and_eq_false_iff]
  left
  rw [List.all_eq_false]
  exact ⟨_, List.getElem_mem hj, fun e => h (fewA_iff.1 e)⟩
theorem few_yes {l : List ActL} {most : Int} (h : ∀ j (hj : j < l.length), FewA l[j]) : decide ((l.length : Int) ≤ most) = fewL l most := by
  have : l.all fewA = true := by
    rw [List.all_eq_true]
    intro x hx
    obtain ⟨j, hj, rfl⟩ := List.getElem_of_mem hx
    exact fewA_iff.2 (h j hj)
  unfold fewL
  rw [this, Bool.true_and]
theorem fewL_all {l : List ActL} {most : Int} (h : fewL l most = true) : (∀ a ∈ l, FewA a) ∧ (l.length : Int) ≤ most := by
  unfold fewL at h
  simp only [Bool.and_eq_true, decide_eq_true_eq, List.all_eq_true] at h
  exact ⟨fun a ha => fewA_iff.1 (h.1 a ha), h.2⟩

set_option maxRecDepth 100000 in
set_option maxHeartbeats 1600000 in
theorem few_any (l : List ActL) (v : Value) (most : Int) (w : World) (h : SliceA w v l) (hl : l.length ≤ 9223372036854775807) :
    Calls Tryz.prog 10 #[v, .int .i64 most] w fun e w' => e = .returned (.bool (fewL l most)) ∧ Newer w w' := by
  obtain ⟨p, cp, rfl, hp⟩ := h
  obtain ⟨n, hn⟩ : ∃ n, l.length = n := ⟨_, rfl⟩
  rw [hn] at hl ⊢
  have HP := Lib.hid (And.intro hn hp)
  clear hp hn
  go_enter Tryz.func10, Tryz.ntmps10
  go_wp2_with fail
  go_loopw [5] (fun i wr => ∃ (j : Nat), j ≤ n ∧ i = .int .i64 j ∧ (∀ k (hk : k < l.length), k < j → FewA l[k]) ∧ Newer w wr) (fun i _ => n - (intOf i).toNat)
  case atStart => exact ⟨0, Nat.zero_le _, rfl, fun k _ h => absurd h (Nat.not_lt_zero _), Newer.refl _⟩
  case round =>
    obtain ⟨j, hj, rfl, hf, hw⟩ := hrel
    have HF := Lib.hid hf
    have HW := Lib.hid hw
    clear hf hw
    by_cases hlt : j < n
    · obtain ⟨g, o, v8, v9, rfl, hc, s8, s9⟩ := HP.out.2 j (by rw [HP.out.1]; exact hlt)
      have HNO : Hid (¬ FewA (l[j]'(by rw [HP.out.1]; exact hlt)) → false = fewL l most) := Lib.hid (few_no _)
      have HYES : Hid (FewA (l[j]'(by rw [HP.out.1]; exact hlt)) → ∀ k (hk : k < l.length), k < j + 1 → FewA l[k]) := Lib.hid (fun h k hk hkj => by
        by_cases e : k = j
        · subst e; exact h
        · exact HF.out k hk (by omega))
      obtain ⟨a, ha⟩ : ∃ a, l[j]'(by rw [HP.out.1]; exact hlt) = a := ⟨_, rfl⟩
      rw [ha] at hc s8 s9 HNO HYES
      obtain ⟨q8, l8, e8, -⟩ := id s8
      obtain ⟨q9, l9, e9, -⟩ := id s9
      obtain ⟨k8, hk8⟩ : ∃ k, a.bytes.length = k := ⟨_, rfl⟩
      obtain ⟨k9, hk9⟩ : ∃ k, a.marks.length = k := ⟨_, rfl⟩
      rw [hk8] at e8
      rw [hk9] at e9
      subst e8 e9
      obtain ⟨-, -, -, c3, c4, c5, c6, c7, c8, c9⟩ := hc.newer HW.out
      have HK := Lib.hid (And.intro hk8 hk9)
      have hg : g < wr.heap.size := by have := World.block_lt_of_cell? _ _ c3; simpa using this
      clear hc s8 s9 ha hk8 hk9 HF
      have zp : (ByteArray.mk a.path.toArray).size = a.path.length := by show a.path.toArray.size = _; simp
      have zd : (ByteArray.mk a.dest.toArray).size = a.dest.length := by show a.dest.toArray.size = _; simp
      by_cases hp : 400 < a.path.length
      · have HF := Lib.hid (HNO.out (fun h => by have := h.1; omega))
        have fp : decide ((400 : Int) < (a.path.length : Int)) = true := by simp; omega
        clear hp HNO HYES
        go_wp2_with fail
        go_ret
        exact ⟨ret_bool HF.out, HW.out.trans (Newer.alloc _ _)⟩
      · have fp : decide ((400 : Int) < (a.path.length : Int)) = false := by simp; omega
        have HPP := Lib.hid hp
        clear hp
        by_cases hd : 400 < a.dest.length
        · have HF := Lib.hid (HNO.out (fun h => by have := h.2.1; omega))
          have fd : decide ((400 : Int) < (a.dest.length : Int)) = true := by simp; omega
          clear hd HNO HYES
          go_wp2_with fail
          go_ret
          exact ⟨ret_bool HF.out, HW.out.trans (Newer.alloc _ _)⟩
        · have fd : decide ((400 : Int) < (a.dest.length : Int)) = false := by simp; omega
          have HDD := Lib.hid hd
          clear hd
          by_cases hb : 500 < k8
          · have HF := Lib.hid (HNO.out (fun h => by have := h.2.2.1; have := HK.out.1; omega))
            have fb : decide ((500 : Int) < (k8 : Int)) = true := by simp; omega
            clear hb HNO HYES
            go_wp2_with fail
            go_ret
            exact ⟨ret_bool HF.out, HW.out.trans (Newer.alloc _ _)⟩
          · have fb : decide ((500 : Int) < (k8 : Int)) = false := by simp; omega
            have HBB := Lib.hid hb
            clear hb
            by_cases hm : 80 < k9
            · have HF := Lib.hid (HNO.out (fun h => by have := h.2.2.2; have := HK.out.2; omega))
              have fm : decide ((80 : Int) < (k9 : Int)) = true := by simp; omega
              clear hm HNO HYES
              go_wp2_with fail
              go_ret
              exact ⟨ret_bool HF.out, HW.out.trans (Newer.alloc _ _)⟩
            · have fm : decide ((80 : Int) < (k9 : Int)) = false := by simp; omega
              have HN := Lib.hid (HYES.out ⟨by have := HPP.out; omega, by have := HDD.out; omega, by have := HK.out.1; have := HBB.out; omega, by have := HK.out.2; omega⟩)
              clear hm HNO HYES
              go_wp2_with fail
              go_roundw
              case rel => exact ⟨j + 1, by omega, by go_num, HN.out, HW.out.trans (Newer.alloc _ _)⟩
              case measure => simp [intOf]; omega
    · have HY := Lib.hid (few_yes (l := l) (most := most) (fun k hk => HF.out k hk (by rw [HP.out.1] at hk; omega)))
      rw [HP.out.1] at HY
      have hjn : j = n := by omega
      subst hjn
      go_wp2_with fail
      go_ret
      exact ⟨ret_bool HY.out, HW.out⟩

/-- two acts are held through a region that reads -/
theorem held_two {w1 W : World} {g o g' o' : Nat} {a b : ActL} {v8 v9 u8 u9 : Value} (n : Newer w1 W) (h : ActF w1 g o a v8 v9) (k : ActF w1 g' o' b u8 u9) : Newer w1 W ∧
    (W.cell? ⟨g, o, none⟩ = some (.int .i64 a.kind) ∧ W.cell? ⟨g, o + 1, none⟩ = some (.int .i64 a.thread) ∧ W.cell? ⟨g, o + 2, none⟩ = some (.int .i64 a.n) ∧ W.cell? ⟨g, o + 3, none⟩ = some (.int .i64 a.okind) ∧ W.cell? ⟨g, o + 4, none⟩ = some (.string ⟨a.path.toArray⟩) ∧ W.cell? ⟨g, o + 5, none⟩ = some (.string ⟨a.dest.toArray⟩) ∧ W.cell? ⟨g, o + 6, none⟩ = some (.int .i64 a.at_) ∧ W.cell? ⟨g, o + 7, none⟩ = some (.int .i64 a.on) ∧ W.cell? ⟨g, o + 8, none⟩ = some v8 ∧ W.cell? ⟨g, o + 9, none⟩ = some v9) ∧
    (W.cell? ⟨g', o', none⟩ = some (.int .i64 b.kind) ∧ W.cell? ⟨g', o' + 1, none⟩ = some (.int .i64 b.thread) ∧ W.cell? ⟨g', o' + 2, none⟩ = some (.int .i64 b.n) ∧ W.cell? ⟨g', o' + 3, none⟩ = some (.int .i64 b.okind) ∧ W.cell? ⟨g', o' + 4, none⟩ = some (.string ⟨b.path.toArray⟩) ∧ W.cell? ⟨g', o' + 5, none⟩ = some (.string ⟨b.dest.toArray⟩) ∧ W.cell? ⟨g', o' + 6, none⟩ = some (.int .i64 b.at_) ∧ W.cell? ⟨g', o' + 7, none⟩ = some (.int .i64 b.on) ∧ W.cell? ⟨g', o' + 8, none⟩ = some u8 ∧ W.cell? ⟨g', o' + 9, none⟩ = some u9) := by
  obtain ⟨c0, c1, c2, c3, c4, c5, c6, c7, c8, c9⟩ := h.newer n
  obtain ⟨d0, d1, d2, d3, d4, d5, d6, d7, d8, d9⟩ := k.newer n
  exact ⟨n, ⟨c0, c1, c2, c3, c4, c5, c6, c7, c8, c9⟩, d0, d1, d2, d3, d4, d5, d6, d7, d8, d9⟩

set_option maxRecDepth 100000 in
set_option maxHeartbeats 1600000 in
theorem same23_any (l r : List ActL) (v u : Value) (w : World) (h : SliceA w v l) (k : SliceA w u r) (hl : l.length ≤ 1000000) (hr : r.length ≤ 1000000) (hm : ∀ a ∈ l, a.marks.length ≤ 1000000) (hm' : ∀ a ∈ r, a.marks.length ≤ 1000000) :
    Calls Tryz.prog 23 #[v, u] w fun e w' => (∃ b, e = .returned (.bool b) ∧ (b = true ↔ l = r)) ∧ Newer w w' := by
  obtain ⟨p, cp, rfl, hp⟩ := h
  obtain ⟨q, cq, rfl, hq⟩ := k
  obtain ⟨n, hn⟩ : ∃ n, l.length = n := ⟨_, rfl⟩
  obtain ⟨m, hm0⟩ : ∃ m, r.length = m := ⟨_, rfl⟩
  rw [hn] at hl
  rw [hm0] at hr
  rw [hn, hm0]
  have HP := Lib.hid (And.intro hn hp)
  have HQ := Lib.hid (And.intro hm0 hq)
  have HM := Lib.hid (And.intro hm hm')
  clear hp hn hq hm0 hm hm'
  go_enter Tryz.func23, Tryz.ntmps23
  by_cases hne : n = m
  · subst hne
    go_wp2_with fail
    go_loopw [5] (fun i wr => ∃ (j : Nat), j ≤ n ∧ i = .int .i64 j ∧ l.take j = r.take j ∧ Newer w wr) (fun i _ => n - (intOf i).toNat)
    case atStart => exact ⟨0, Nat.zero_le _, rfl, rfl, Newer.refl _⟩
    case round =>
      obtain ⟨j, hj, rfl, ht, hw⟩ := hrel
      have HT := Lib.hid ht
      have HW := Lib.hid hw
      clear ht hw
      by_cases hlt : j < n
      · have hjl : j < l.length := by rw [HP.out.1]; exact hlt
        have hjr : j < r.length := by rw [HQ.out.1]; exact hlt
        obtain ⟨g, o, v8, v9, rfl, hc, s8, s9⟩ := HP.out.2 j hjl
        obtain ⟨g', o', u8, u9, rfl, hc', t8, t9⟩ := HQ.out.2 j hjr
        have HNX : Hid (l[j] = r[j] → l.take (j + 1) = r.take (j + 1)) := Lib.hid (fun e => by rw [List.take_succ_eq_append_getElem hjl, List.take_succ_eq_append_getElem hjr, HT.out, e])
        have HNO : Hid (¬ l[j] = r[j] → ¬ l = r) := Lib.hid (fun e he => by subst he; exact e rfl)
        have HB : Hid (l[j].marks.length ≤ 1000000 ∧ r[j].marks.length ≤ 1000000) := Lib.hid ⟨HM.out.1 _ (List.getElem_mem _), HM.out.2 _ (List.getElem_mem _)⟩
        obtain ⟨a, ha⟩ : ∃ a, l[j] = a := ⟨_, rfl⟩
        obtain ⟨b, hb⟩ : ∃ b, r[j] = b := ⟨_, rfl⟩
        rw [ha] at hc s8 s9 HNX HNO HB
        rw [hb] at hc' t8 t9 HNX HNO HB
        obtain ⟨q8, l8, e8, -⟩ := id s8
        obtain ⟨q9, l9, e9, -⟩ := id s9
        obtain ⟨q8', l8', e8', -⟩ := id t8
        obtain ⟨q9', l9', e9', -⟩ := id t9
        subst e8 e9 e8' e9'
        have HC := Lib.hid (And.intro (hc.newer HW.out) (hc'.newer HW.out))
        have HS := Lib.hid (And.intro (s8.newer HW.out) (s9.newer HW.out))
        have HS' := Lib.hid (And.intro (t8.newer HW.out) (t9.newer HW.out))
        obtain ⟨k8, hk8⟩ : ∃ k, a.bytes.length = k := ⟨_, rfl⟩
        obtain ⟨k9, hk9⟩ : ∃ k, a.marks.length = k := ⟨_, rfl⟩
        obtain ⟨k8', hk8'⟩ : ∃ k, b.bytes.length = k := ⟨_, rfl⟩
        obtain ⟨k9', hk9'⟩ : ∃ k, b.marks.length = k := ⟨_, rfl⟩
        rw [hk8, hk9] at HC HS
        rw [hk8', hk9'] at HC HS'
        clear hc hc' s8 s9 t8 t9 ha hb hjl hjr hk8 hk9 hk8' hk9'
        obtain ⟨x, hx⟩ : ∃ x, sameL a b = x := ⟨_, rfl⟩
        have HCALL : Hid (∀ W, Newer wr W → Calls Tryz.prog 16 #[actV a (.slice q8 k8 l8) (.slice q9 k9 l9), actV b (.slice q8' k8' l8') (.slice q9' k9' l9')] W fun e w' => e = .returned (.bool x) ∧ Newer W w') := Lib.hid (fun W n => by
          have := refSame_any a b q8 q9 q8' q9' k8 k9 l8 l9 k8' k9' l8' l9' W ⟨HS.out.1.newer n, HS.out.2.newer n⟩ ⟨HS'.out.1.newer n, HS'.out.2.newer n⟩ HB.out.1 HB.out.2
          rwa [hx] at this)
        have HX := Lib.hid hx
        clear hx HS HS' HB
        cases x
        all_goals
          go_wp2_with fail
          go_region_held3 (fun w' => Newer wr w' ∧ (w'.cell? ⟨g, o + j * 10, none⟩ = some (.int .i64 a.kind) ∧ w'.cell? ⟨g, o + j * 10 + 1, none⟩ = some (.int .i64 a.thread) ∧ w'.cell? ⟨g, o + j * 10 + 2, none⟩ = some (.int .i64 a.n) ∧ w'.cell? ⟨g, o + j * 10 + 3, none⟩ = some (.int .i64 a.okind) ∧ w'.cell? ⟨g, o + j * 10 + 4, none⟩ = some (.string ⟨a.path.toArray⟩) ∧ w'.cell? ⟨g, o + j * 10 + 5, none⟩ = some (.string ⟨a.dest.toArray⟩) ∧ w'.cell? ⟨g, o + j * 10 + 6, none⟩ = some (.int .i64 a.at_) ∧ w'.cell? ⟨g, o + j * 10 + 7, none⟩ = some (.int .i64 a.on) ∧ w'.cell? ⟨g, o + j * 10 + 8, none⟩ = some (.slice q8 k8 l8) ∧ w'.cell? ⟨g, o + j * 10 + 9, none⟩ = some (.slice q9 k9 l9)) ∧ (w'.cell? ⟨g', o' + j * 10, none⟩ = some (.int .i64 b.kind) ∧ w'.cell? ⟨g', o' + j * 10 + 1, none⟩ = some (.int .i64 b.thread) ∧ w'.cell? ⟨g', o' + j * 10 + 2, none⟩ = some (.int .i64 b.n) ∧ w'.cell? ⟨g', o' + j * 10 + 3, none⟩ = some (.int .i64 b.okind) ∧ w'.cell? ⟨g', o' + j * 10 + 4, none⟩ = some (.string ⟨b.path.toArray⟩) ∧ w'.cell? ⟨g', o' + j * 10 + 5, none⟩ = some (.string ⟨b.dest.toArray⟩) ∧ w'.cell? ⟨g', o' + j * 10 + 6, none⟩ = some (.int .i64 b.at_) ∧ w'.cell? ⟨g', o' + j * 10 + 7, none⟩ = some (.int .i64 b.on) ∧ w'.cell? ⟨g', o' + j * 10 + 8, none⟩ = some (.slice q8' k8' l8') ∧ w'.cell? ⟨g', o' + j * 10 + 9, none⟩ = some (.slice q9' k9' l9'))) (first | exact held_two (Newer.drew _) HC.out.1 HC.out.2 | (go_split_ands; exact ⟨by assumption, ⟨by assumption, by assumption, by assumption, by assumption, by assumption, by assumption, by assumption, by assumption, by assumption, by assumption⟩, by assumption, by assumption, by assumption, by assumption, by assumption, by assumption, by assumption, by assumption, by assumption, by assumption⟩) | (go_split_ands; exact held_two (Newer.trans (by assumption) (by assumption)) HC.out.1 HC.out.2)) (first | (go_at_call 16; refine (HCALL.out _ (by first | assumption | exact Newer.drew _)).mono ?_; rintro e w' ⟨rfl, n2⟩))
        · go_split_ands
          have hN := Lib.hid (‹Newer wr _›)
          have HF : Hid (¬ l = r) := Lib.hid (HNO.out (fun e => by have := sameL_iff.2 e; rw [HX.out] at this; cases this))
          clear HNO HNX
          go_wp2_with fail
          go_ret
          exact ⟨⟨_, rfl, by simp [HF.out]⟩, HW.out.trans hN.out⟩
        · go_split_ands
          have hN := Lib.hid (‹Newer wr _›)
          have HF := Lib.hid (HNX.out (sameL_iff.1 HX.out))
          clear HNO HNX
          go_wp2_with fail
          go_roundw
          case rel => ((repeat apply Exists.intro); exact ⟨⟨j + 1, by omega, by go_num, HF.out, HW.out.trans hN.out⟩, rfl⟩)
          case measure => simp [intOf]; omega
      · have HY : Hid (l = r) := Lib.hid (by
          have := HT.out
          rwa [List.take_of_length_le (by rw [HP.out.1]; omega), List.take_of_length_le (by rw [HQ.out.1]; omega)] at this)
        have hjn : j = n := by omega
        subst hjn
        go_wp2_with fail
        go_ret
        exact ⟨⟨_, rfl, by simp [HY.out]⟩, HW.out⟩
  · have hx : ((n : Int) != (m : Int)) = true := by
      have : ¬ (n : Int) = (m : Int) := by omega
      simpa using this
    have HX : Hid (¬ l = r) := Lib.hid (fun e => hne (by rw [← HP.out.1, ← HQ.out.1, e]))
    clear hne
    go_wp2_with fail
    go_ret
    exact ⟨⟨_, rfl, by simp [HX.out]⟩, Newer.refl _⟩

end Go.Proofs.YtgdaaafejfjilaaGreatDoor

/- the laws' helpers: parses, fails -/
namespace Go.Proofs.YtgdaaafejfjilaaGreatDoor
open Go.RowKit
attribute [local go_sem] Oper.semAt_some undef

theorem fails_any (s : Bs) (hs : s.length ≤ 100000) (w : World) (E : Env w) (h : parseL s = none) :
    Calls Tryz.prog 25 #[.string ⟨s.toArray⟩] w fun e w' => e = .returned (.bool true) ∧ Newer w w' := by
  have HE := Lib.hid E
  have HP := Lib.hid h
  clear E h
  go_enter Tryz.func25, Tryz.ntmps25
  go_wp2_with fail
  refine (parse_any s hs w HE.out).mono ?_
  rintro e w1 ⟨⟨a, v, hp, -⟩ | ⟨-, rfl⟩, n1⟩
  · rw [HP.out] at hp; cases hp
  · unfold zeroV actV
    have HN := Lib.hid n1
    clear n1
    go_wp2_with (go_at_call 14; refine (num_any _ _).mono ?_; rintro e w' ⟨rfl, rfl⟩)
    go_ret
    exact ⟨rfl, HN.out.trans (Newer.alloc _ _)⟩

set_option maxRecDepth 100000 in
set_option maxHeartbeats 1600000 in
theorem parses_any (s : Bs) (hs : s.length ≤ 100000) (a : ActL) (p8 p9 : Option Addr) (n8 n9 m8 m9 : Nat) (w : World) (E : Env w) (hv : SliceB w (.slice p8 n8 m8) a.bytes ∧ SliceM w (.slice p9 n9 m9) a.marks) (h : parseL s = some a) :
    Calls Tryz.prog 24 #[.string ⟨s.toArray⟩, actV a (.slice p8 n8 m8) (.slice p9 n9 m9)] w fun e w' => e = .returned (.bool true) ∧ Newer w w' := by
  have HE := Lib.hid E
  have HP := Lib.hid h
  have HV := Lib.hid hv
  have HM : Hid (a.marks.length ≤ 1000000) := Lib.hid (by have := (parse_back h).2.1.marks; omega)
  clear E h hv
  unfold actV
  go_enter Tryz.func24, Tryz.ntmps24
  go_upto_region 1 with fail
  obtain ⟨x, hx⟩ : ∃ x, w.heap.size = x := ⟨_, rfl⟩
  obtain ⟨w0, hw0⟩ : ∃ w0, w.alloc (.cells #[.int .i64 a.kind, .int .i64 a.thread, .int .i64 a.n, .int .i64 a.okind, .string ⟨a.path.toArray⟩, .string ⟨a.dest.toArray⟩, .int .i64 a.at_, .int .i64 a.on, .slice p8 n8 m8, .slice p9 n9 m9] 29) = w0 := ⟨_, rfl⟩
  rw [hw0, hx]
  have hA : ActC w0 x a (.slice p8 n8 m8) (.slice p9 n9 m9) := by
    subst hw0 hx
    constructor <;> simp [go_sem]
  have nw : Newer w w0 := hw0 ▸ Newer.alloc _ _
  have H0 := Lib.hid (And.intro hA nw)
  clear nw hw0 hx
  go_wp2_with fail
  refine (parse_any s hs w0 (HE.out.newer H0.out.2)).mono ?_
  rintro e w1 ⟨⟨b, v, hp, rfl, v8, v9, rfl, ⟨s8, -⟩, ⟨s9, -⟩⟩ | ⟨hp, -⟩, n1⟩
  · rw [HP.out] at hp
    obtain rfl := Option.some.inj hp
    obtain ⟨q8, l8, e8, -⟩ := id s8
    obtain ⟨q9, l9, e9, -⟩ := id s9
    obtain ⟨k8, hk8⟩ : ∃ k, a.bytes.length = k := ⟨_, rfl⟩
    obtain ⟨k9, hk9⟩ : ∃ k, a.marks.length = k := ⟨_, rfl⟩
    rw [hk8] at e8
    rw [hk9] at e9
    subst e8 e9
    have hxl : x < w0.heap.size := by have := World.block_lt_of_cell? _ _ hA.c0; simpa using this
    have hA1 := hA.grow n1 (fun hk => by have hk : w0.heap.size ≤ x := hk; omega)
    have hx1 : x < w1.heap.size := by have := World.block_lt_of_cell? _ _ hA1.c0; simpa using this
    have HN := Lib.hid (H0.out.2.trans n1)
    have HS := Lib.hid (And.intro s8 s9)
    have HC : Hid (∀ W, Newer w1 W → Calls Tryz.prog 16 #[actV a (.slice q8 k8 l8) (.slice q9 k9 l9), actV a (.slice p8 n8 m8) (.slice p9 n9 m9)] W fun e w' => e = .returned (.bool true) ∧ Newer W w') := Lib.hid (fun W n => by
      have n2 := HN.out.trans n
      have := refSame_any a a q8 q9 p8 p9 k8 k9 l8 l9 n8 n9 m8 m9 W ⟨HS.out.1.newer n, HS.out.2.newer n⟩ ⟨HV.out.1.newer n2, HV.out.2.newer n2⟩ HM.out HM.out
      rwa [sameL_iff.2 rfl] at this)
    obtain ⟨c0, c1, c2, c3, c4, c5, c6, c7, c8, c9⟩ := hA1
    clear hp s8 s9 hA n1 hk8 hk9
    unfold actV
    go_wp2_with (go_at_call 14; refine (num_any _ _).mono ?_; rintro e w' ⟨rfl, rfl⟩)
    refine (HC.out _ (Newer.alloc _ _)).mono ?_
    rintro e w2 ⟨rfl, n2⟩
    have HN2 := Lib.hid (HN.out.trans ((Newer.alloc _ _).trans n2))
    clear n2 c0 c1 c2 c3 c4 c5 c6 c7 c8 c9
    go_wp2_with fail
    go_ret
    exact ⟨rfl, HN2.out⟩
  · rw [HP.out] at hp; cases hp

/-! closed lines -/
theorem num_0 : numL [48] = some 0 := by rw [← numR_eq]; decide
theorem num_1 : numL [49] = some 1 := by rw [← numR_eq]; decide
theorem num_3 : numL [51] = some 3 := by rw [← numR_eq]; decide
theorem num_5 : numL [53] = some 5 := by rw [← numR_eq]; decide
theorem num_20 : numL [50, 48] = some 20 := by rw [← numR_eq]; decide
theorem num_007 : numL [48, 48, 55] = none := by rw [← numR_eq]; decide

def hiA : ActL := ⟨1, 0, 0, 10, [47, 102], [], 3, 0, [104, 105], []⟩
theorem parse_hi : parseL [113, 117, 101, 117, 101, 32, 48, 32, 119, 114, 105, 116, 101, 32, 47, 102, 32, 51, 32, 54, 56, 54, 57] = some hiA := by
  have hw : wordsL 32 [113, 117, 101, 117, 101, 32, 48, 32, 119, 114, 105, 116, 101, 32, 47, 102, 32, 51, 32, 54, 56, 54, 57] = [[113, 117, 101, 117, 101], [48], [119, 114, 105, 116, 101], [47, 102], [51], [54, 56, 54, 57]] := by decide
  unfold parseL
  rw [hw, read_queue _ _ _ rfl, num_0]
  have ho : opkL [119, 114, 105, 116, 101] = some 10 := by decide
  have hp : pathL [47, 102] = some [47, 102] := by decide
  have hb : bytesL [54, 56, 54, 57] = some [104, 105] := by decide
  simp only [readOpL, ho]
  have hv : (opL 10).2 = [112, 97, 98] := by decide
  rw [hv]
  simp [fillL, setL, hp, hb, num_3, ActL.zero, hiA]
theorem parse_step : parseL [115, 116, 101, 112, 32, 49, 32, 50, 48] = some ⟨2, 1, 20, 0, [], [], 0, 0, [], []⟩ := by
  have hw : wordsL 32 [115, 116, 101, 112, 32, 49, 32, 50, 48] = [[115, 116, 101, 112], [49], [50, 48]] := by decide
  unfold parseL
  rw [hw, read_step _ rfl]
  simp [num_1, num_20, ActL.zero]
theorem parse_step01 : parseL [115, 116, 101, 112, 32, 48, 32, 49] = some ⟨2, 0, 1, 0, [], [], 0, 0, [], []⟩ := by
  have hw : wordsL 32 [115, 116, 101, 112, 32, 48, 32, 49] = [[115, 116, 101, 112], [48], [49]] := by decide
  unfold parseL
  rw [hw, read_step _ rfl]
  simp [num_1, num_0, ActL.zero]
theorem parse_crash : parseL [99, 114, 97, 115, 104, 32, 48, 49] = some ⟨4, 0, 0, 0, [], [], 0, 0, [], [false, true]⟩ := by
  have hw : wordsL 32 [99, 114, 97, 115, 104, 32, 48, 49] = [[99, 114, 97, 115, 104], [48, 49]] := by decide
  unfold parseL
  rw [hw, read_crash _ rfl]
  have hm : marksL [48, 49] = some [false, true] := by decide
  simp [hm, ActL.zero]
theorem parse_crash0 : parseL [99, 114, 97, 115, 104, 32, 45] = some ⟨4, 0, 0, 0, [], [], 0, 0, [], []⟩ := by
  have hw : wordsL 32 [99, 114, 97, 115, 104, 32, 45] = [[99, 114, 97, 115, 104], [45]] := by decide
  unfold parseL
  rw [hw, read_crash _ rfl]
  have hm : marksL [45] = some [] := by decide
  simp [hm, ActL.zero]
theorem parse_007 : parseL [101, 118, 105, 99, 116, 32, 48, 48, 55] = none := by
  have hw : wordsL 32 [101, 118, 105, 99, 116, 32, 48, 48, 55] = [[101, 118, 105, 99, 116], [48, 48, 55]] := by decide
  unfold parseL
  rw [hw, read_num _ 3 (by decide) (by decide) (by decide)]
  simp [num_007]
theorem parse_qread : parseL [113, 117, 101, 117, 101, 32, 48, 32, 114, 101, 97, 100, 32, 47, 102] = none := by
  have hw : wordsL 32 [113, 117, 101, 117, 101, 32, 48, 32, 114, 101, 97, 100, 32, 47, 102] = [[113, 117, 101, 117, 101], [48], [114, 101, 97, 100], [47, 102]] := by decide
  unfold parseL
  rw [hw, read_queue _ _ _ rfl, num_0]
  have ho : opkL [114, 101, 97, 100] = some 3 := by decide
  have hp : pathL [47, 102] = some [47, 102] := by decide
  simp only [readOpL, ho]
  have hv : (opL 3).2 = [112, 97, 110] := by decide
  rw [hv]
  simp [fillL, setL, hp]
theorem parse_rec : parseL [114, 101, 99, 111, 118, 101, 114, 32, 53] = some ⟨5, 0, 5, 0, [], [], 0, 0, [], []⟩ := by
  have hw : wordsL 32 [114, 101, 99, 111, 118, 101, 114, 32, 53] = [[114, 101, 99, 111, 118, 101, 114], [53]] := by decide
  unfold parseL
  rw [hw, read_num _ 5 (by decide) (by decide) (by decide)]
  simp [num_5, ActL.zero]
theorem parse_x : parseL [120] = none := by
  have hw : wordsL 32 [120] = [[120]] := by decide
  unfold parseL
  rw [hw, read_other _ _ (by decide) (by decide) (by decide) (by decide) (by decide)]
theorem printE_of {a : ActL} {s : Bs} (h : parseL s = some a) : printE a = (s, 0) := by unfold printE; rw [print_of_parse h]
theorem read_x : readE [115, 116, 101, 112, 32, 48, 32, 49, 10, 10, 120] = ([], 3, 380) := by
  have hw : wordsL 10 [115, 116, 101, 112, 32, 48, 32, 49, 10, 10, 120] = [[115, 116, 101, 112, 32, 48, 32, 49], [], [120]] := by decide
  unfold readE
  rw [hw, rf_s (by simp) parse_step01, rf_e rfl, rf_n (by simp) parse_x]
  simp

end Go.Proofs.YtgdaaafejfjilaaGreatDoor
