/- contracts of the reference's Marks, Hex -/
import Derived.Test.YtgdaaafejfjilaaGreatDoorW16
import Derived.Test.YtgdaaafejfjilaaGreatDoorW07
import Derived.Deep.QuietTactic
import Derived.BigQuiet
namespace Go.Proofs.YtgdaaafejfjilaaGreatDoor
open Go.RowKit
attribute [local go_sem] Oper.semAt_some undef

def bitC (x : Bool) : UInt8 := if x then 49 else 48

set_option maxRecDepth 100000 in
set_option maxHeartbeats 800000 in
theorem refMarks_any (v : Value) (l : List Bool) (w : World) (h : SliceM w v l) (hl : l.length ≤ 1000000) : Calls Tryz.prog 47 #[v] w fun e w' => e = .returned (.string ⟨(dotsL l).toArray⟩) ∧ w = w' := by
  obtain ⟨p, cp, rfl, hp⟩ := h
  obtain ⟨n, hn⟩ : ∃ n, l.length = n := ⟨_, rfl⟩
  rw [hn] at hl ⊢
  have HP := Lib.hid (And.intro hn hp)
  clear hp
  by_cases h0 : n = 0
  · subst h0
    obtain rfl : l = [] := List.length_eq_zero_iff.1 hn
    clear hn
    go_enter Tryz.func47, Tryz.ntmps47
    go_wp2
    go_ret
    exact ⟨rfl, rfl⟩
  · have hne : ((n : Int) == 0) = false := by simp; omega
    have HD : Hid (dotsL l = l.map bitC) := Lib.hid (by
      unfold dotsL
      rw [if_neg (by rintro rfl; exact h0 hn.symm)]
      rfl)
    clear hn h0
    go_enter Tryz.func47, Tryz.ntmps47
    go_wp2
    go_loop [3, 4] (fun s i => ∃ j : Nat, j ≤ n ∧ i = .int .i64 j ∧ s = .string ⟨((l.take j).map bitC).toArray⟩) (fun _ i => n - (intOf i).toNat)
    case atStart => exact ⟨0, Nat.zero_le _, rfl, rfl⟩
    case round =>
      obtain ⟨j, hj, rfl, rfl⟩ := hrel
      by_cases hlt : j < n
      · obtain ⟨A, rfl, c1⟩ := HP.out.2 j (by rw [HP.out.1]; exact hlt)
        obtain ⟨x, hx⟩ : ∃ x, l[j]'(by rw [HP.out.1]; exact hlt) = x := ⟨_, rfl⟩
        have HX : Hid ((l.take (j + 1)).map bitC = (l.take j).map bitC ++ [bitC x]) := Lib.hid (by rw [List.take_succ_eq_append_getElem (by rw [HP.out.1]; exact hlt), hx]; simp)
        rw [hx] at c1
        clear hx
        unfold boolV at c1
        have ht : ((l.take j).map bitC).length ≤ 1000000 := by simp; omega
        generalize (l.take j).map bitC = t at *
        have ha7 : ¬ 9223372036854775807 < t.length + 1 := by omega
        clear ht
        obtain ⟨t', ht'⟩ : ∃ t', t ++ [bitC x] = t' := ⟨_, rfl⟩
        have HX2 := Lib.hid (HX.out.trans ht')
        clear HX
        have hcat := cat_str2 t [bitC x]
        rw [ht'] at hcat
        clear ht'
        cases x
        all_goals
          simp only [bitC, if_true, Bool.false_eq_true, if_false] at hcat
          go_wp2
          go_round
          case rel => exact ⟨j + 1, by omega, by go_num, by rw [HX2.out]⟩
          case measure => simp [intOf]; omega
      · have HE : Hid ((l.take j).map bitC = dotsL l) := Lib.hid (by rw [List.take_of_length_le (by rw [HP.out.1]; omega), HD.out])
        generalize (l.take j).map bitC = t at *
        go_wp2
        go_ret
        exact ⟨ret_str HE.out, rfl⟩

theorem digit_cut (k : Nat) (hk : k < 16) : (⟨#[48, 49, 50, 51, 52, 53, 54, 55, 56, 57, 97, 98, 99, 100, 101, 102]⟩ : ByteArray).extract k (k + 1) = ⟨#[hexD k]⟩ := by
  match k, hk with
  | 0, _ => rfl
  | 1, _ => rfl
  | 2, _ => rfl
  | 3, _ => rfl
  | 4, _ => rfl
  | 5, _ => rfl
  | 6, _ => rfl
  | 7, _ => rfl
  | 8, _ => rfl
  | 9, _ => rfl
  | 10, _ => rfl
  | 11, _ => rfl
  | 12, _ => rfl
  | 13, _ => rfl
  | 14, _ => rfl
  | 15, _ => rfl
  | k + 16, h => exact absurd h (by omega)

set_option maxRecDepth 100000 in
set_option maxHeartbeats 800000 in
theorem refHex_any (v : Value) (l : Bs) (w : World) (h : SliceB w v l) (hl : l.length ≤ 1000000) : Calls Tryz.prog 76 #[v] w fun e w' => e = .returned (.string ⟨(hexL l).toArray⟩) ∧ ∃ n, w' = w.drewN n := by
  obtain ⟨p, cp, rfl, hp⟩ := h
  obtain ⟨n, hn⟩ : ∃ n, l.length = n := ⟨_, rfl⟩
  rw [hn] at hl ⊢
  have HP := Lib.hid (And.intro hn hp)
  clear hp
  by_cases h0 : n = 0
  · subst h0
    obtain rfl : l = [] := List.length_eq_zero_iff.1 hn
    clear hn
    go_enter Tryz.func76, Tryz.ntmps76
    go_wp2
    go_ret
    exact ⟨rfl, 0, rfl⟩
  · have hne : ((n : Int) == 0) = false := by simp; omega
    have HD : Hid (hexL l = l.flatMap (fun c => [hexD (c.toNat / 16), hexD (c.toNat % 16)])) := Lib.hid (by
      unfold hexL
      rw [if_neg (by rintro rfl; exact h0 hn.symm)])
    clear hn h0
    go_enter Tryz.func76, Tryz.ntmps76
    go_wp2
    go_loopw [3, 4] (fun s i wr => ∃ j k : Nat, j ≤ n ∧ i = .int .i64 j ∧ s = .string ⟨((l.take j).flatMap (fun c => [hexD (c.toNat / 16), hexD (c.toNat % 16)])).toArray⟩ ∧ wr = w.drewN k) (fun _ i _ => n - (intOf i).toNat)
    case atStart => exact ⟨0, 0, Nat.zero_le _, rfl, rfl, rfl⟩
    case round =>
      obtain ⟨j, k, hj, rfl, rfl, rfl⟩ := hrel
      by_cases hlt : j < n
      · obtain ⟨A, rfl, c1⟩ := HP.out.2 j (by rw [HP.out.1]; exact hlt)
        obtain ⟨x, hx⟩ : ∃ x, l[j]'(by rw [HP.out.1]; exact hlt) = x := ⟨_, rfl⟩
        have hx4 := x.toNat_lt
        unfold byteV at c1
        rw [hx] at c1
        have HX : Hid ((l.take (j + 1)).flatMap (fun c => [hexD (c.toNat / 16), hexD (c.toNat % 16)]) = (l.take j).flatMap (fun c => [hexD (c.toNat / 16), hexD (c.toNat % 16)]) ++ [hexD (x.toNat / 16), hexD (x.toNat % 16)]) := Lib.hid (by
          rw [List.take_succ_eq_append_getElem (by rw [HP.out.1]; exact hlt), hx]; simp)
        have ht : ((l.take j).flatMap (fun c => [hexD (c.toNat / 16), hexD (c.toNat % 16)])).length ≤ 2000000 := by
          have : ∀ m : Bs, (m.flatMap (fun c => [hexD (c.toNat / 16), hexD (c.toNat % 16)])).length = 2 * m.length := by
            intro m
            induction m with
            | nil => rfl
            | cons c m ih => rw [List.flatMap_cons, List.length_append, ih]; simp; omega
          rw [this]; simp; omega
        generalize (l.take j).flatMap (fun c => [hexD (c.toNat / 16), hexD (c.toNat % 16)]) = t at *
        obtain ⟨hi, hhi⟩ : ∃ k, x.toNat / 16 = k := ⟨_, rfl⟩
        obtain ⟨lo, hlo⟩ : ∃ k, x.toNat % 16 = k := ⟨_, rfl⟩
        have e1 : (x.toNat : Int) / 16 = (hi : Int) := by omega
        have e2 : (x.toNat : Int) % 16 = (lo : Int) := by omega
        have b1 : (hi : Int) + 1 ≤ 16 := by omega
        have b2 : (lo : Int) + 1 ≤ 16 := by omega
        have b3 : 0 ≤ (hi : Int) + 1 := by omega
        have b4 : 0 ≤ (lo : Int) + 1 := by omega
        have b5 : (hi : Int) ≤ (hi : Int) + 1 := by omega
        have b6 : (lo : Int) ≤ (lo : Int) + 1 := by omega
        have d1 := digit_cut hi (by omega)
        have d2 := digit_cut lo (by omega)
        rw [hhi, hlo] at HX
        obtain ⟨y, hy⟩ : ∃ y, hexD hi = y := ⟨_, rfl⟩
        obtain ⟨z, hz⟩ : ∃ z, hexD lo = z := ⟨_, rfl⟩
        rw [hy] at d1 HX
        rw [hz] at d2 HX
        obtain ⟨t1, ht1⟩ : ∃ t1, t ++ [y] = t1 := ⟨_, rfl⟩
        obtain ⟨t2, ht2⟩ : ∃ t2, t1 ++ [z] = t2 := ⟨_, rfl⟩
        have hcat := cat_str2 t [y]
        have hcat2 := cat_str2 t1 [z]
        rw [ht1] at hcat
        rw [ht2] at hcat2
        have ha7 : ¬ 9223372036854775807 < t.length + 1 := by omega
        have ha8 : ¬ 9223372036854775807 < t1.length + 1 := by rw [← ht1]; simp; omega
        have HX2 := Lib.hid (HX.out.trans (show t ++ [y, z] = t2 by rw [← ht2, ← ht1]; simp))
        have w1 : IntKind.u8.wrap (hi : Int) = (hi : Int) := by show (hi : Int) % 256 = hi; omega
        have w2 : IntKind.u8.wrap ((hi : Int) + 1) = (hi : Int) + 1 := by show ((hi : Int) + 1) % 256 = hi + 1; omega
        have w3 : IntKind.u8.wrap (lo : Int) = (lo : Int) := by show (lo : Int) % 256 = lo; omega
        have w4 : IntKind.u8.wrap ((lo : Int) + 1) = (lo : Int) + 1 := by show ((lo : Int) + 1) % 256 = lo + 1; omega
        have n1 : ((hi : Int) + 1).toNat = hi + 1 := by omega
        have n2 : ((lo : Int) + 1).toNat = lo + 1 := by omega
        clear hx hhi hlo hy hz ht1 ht2 ht HX hx4
        go_wp2
        go_quiet (fail)
        clear w1 w2 w3 w4 n1 n2 e1 e2 b1 b2 b3 b4 b5 b6 d1 d2 hcat hcat2 ha7 ha8
        go_wp2
        go_roundw
        case rel => exact ⟨j + 1, k + nq, by omega, by go_num, by rw [HX2.out], rfl⟩
        case measure => simp [intOf]; omega
      · have HE : Hid ((l.take j).flatMap (fun c => [hexD (c.toNat / 16), hexD (c.toNat % 16)]) = hexL l) := Lib.hid (by rw [List.take_of_length_le (by rw [HP.out.1]; omega), HD.out])
        generalize (l.take j).flatMap (fun c => [hexD (c.toNat / 16), hexD (c.toNat % 16)]) = t at *
        go_wp2
        go_ret
        exact ⟨ret_str HE.out, k, rfl⟩

end Go.Proofs.YtgdaaafejfjilaaGreatDoor

/- contracts of the reference's marks, unhex -/
namespace Go.Proofs.YtgdaaafejfjilaaGreatDoor
open Go.RowKit
attribute [local go_sem] Oper.semAt_some undef

theorem ret_vb {v : Value} {a b : Bool} (h : a = b) : Ending.returned (.tuple #[v, .bool a]) = .returned (.tuple #[v, .bool b]) := by rw [h]

/-- what has come of a word of marks -/
def MarksR (s : Bs) (w : World) (e : Ending) (w' : World) : Prop :=
  ∃ v, e = .returned (.tuple #[v, .bool (marksL s).isSome]) ∧ (∀ l, marksL s = some l → SliceM w' v l ∧ Off (fun k => k < w.heap.size) v) ∧ Newer w w'

theorem marksL_bad_mem {s : Bs} (hd : s ≠ [45]) {c : UInt8} (hc : c ∈ s) (h : c ≠ 48 ∧ c ≠ 49) : marksL s = none := by
  unfold marksL bitsL
  rw [if_neg hd]
  split
  · rw [if_neg]; intro hall; rcases hall c hc with e | e
    · exact h.1 e
    · exact h.2 e
  · rfl
theorem marksL_all {s : Bs} (hd : s ≠ [45]) (h : ∀ c ∈ s, c = 48 ∨ c = 49) : marksL s = if 1 ≤ s.length ∧ s.length ≤ 60 then some (s.map (· == 49)) else none := by
  unfold marksL bitsL
  rw [if_neg hd]
  simp only [if_pos h]

set_option maxRecDepth 100000 in
set_option maxHeartbeats 1600000 in
theorem refMarksR_any (s : Bs) (hs : s.length ≤ 100000) (w : World) : Calls Tryz.prog 39 #[.string ⟨s.toArray⟩] w (MarksR s w) := by
  obtain ⟨i0, hi, hz0, hz1, hz2⟩ := info_parts Tryz.info4
  by_cases hd : s = [45]
  · subst hd
    clear hi hz0 hz1 hz2
    go_enter Tryz.func39, Tryz.ntmps39
    go_wp2
    go_ret2
    exact ⟨_, rfl, fun l hl => by have : l = [] := by injection hl with h; exact h.symm
                                  subst this; exact ⟨SliceM.nil _, Off.nil _⟩, Newer.refl _⟩
  · have hb : (s == [45]) = false := by simpa using hd
    obtain ⟨n, hn⟩ : ∃ n, s.length = n := ⟨_, rfl⟩
    have hsz : (ByteArray.mk s.toArray).size = n := by show s.toArray.size = n; simp [hn]
    rw [hn] at hs
    have HN := Lib.hid (And.intro hn hd)
    clear hn hd
    go_enter Tryz.func39, Tryz.ntmps39
    go_wp2
    clear hb
    go_loopw [4, 5] (fun v i wr => ∃ j : Nat, i = .int .i64 j ∧ j ≤ n ∧ wr.ownsRow w.heap.size 4 1 v j ((s.take j).map markV) ∧ (∀ c ∈ s.take j, c = 48 ∨ c = 49) ∧ Newer w wr) (fun _ i _ => n - (intOf i).toNat)
    case atStart => exact ⟨0, rfl, Nat.zero_le _, World.ownsRow_nil _ _ _ _, fun c hc => by simp at hc, Newer.refl _⟩
    case round =>
      obtain ⟨j, rfl, hj, hrow, hall, hnw⟩ := hrel
      obtain ⟨va, vc, rfl⟩ := ownsRow_slice hrow
      have HR := Lib.hid hrow
      have HA := Lib.hid hall
      have HW := Lib.hid hnw
      clear hrow hnw hall
      by_cases hlt : j < n
      · obtain ⟨c, hc⟩ : ∃ c, s[j]'(by rw [HN.out.1]; exact hlt) = c := ⟨_, rfl⟩
        have h1 : s[j]? = some c := by rw [List.getElem?_eq_getElem (by rw [HN.out.1]; exact hlt), hc]
        have ix := index_str s j (j : Int) c rfl h1 wr
        have HM : Hid (c ∈ s) := Lib.hid (hc ▸ List.getElem_mem _)
        have HT : Hid (s.take (j + 1) = s.take j ++ [c]) := Lib.hid (by rw [List.take_succ_eq_append_getElem (by rw [HN.out.1]; exact hlt), hc])
        have hzw := HW.out.size
        clear hc h1
        by_cases hg : c = 48 ∨ c = 49
        · have fin : ∀ v' w4, w4.ownsRow w.heap.size 4 1 v' (j + 1) ((s.take j).map markV ++ [markV c]) → (wr.alloc (.cells #[markV c] 4)).grownBy w4 (Value.slice va j vc).ownBlock → w4.ownsRow w.heap.size 4 1 v' (j + 1) ((s.take (j + 1)).map markV) ∧ (∀ c ∈ s.take (j + 1), c = 48 ∨ c = 49) ∧ Newer w w4 := by
            intro v' w4 ho hgr
            refine ⟨by rw [HT.out, List.map_append]; exact ho, fun x hx => ?_, own_step' HR.out HW.out hgr⟩
            rw [HT.out] at hx
            rcases List.mem_append.1 hx with hx | hx
            · exact HA.out x hx
            · rw [List.mem_singleton.1 hx]; exact hg
          have FIN := Lib.hid fin
          clear fin
          rcases hg with rfl | rfl
          · go_wp2_with (at_builtin; refine wpList_append_own _ rfl _ _ 27 rfl w.heap.size 4 i0 (.bool false) 1 1 Tryz.underlying27 hi hz0 hz1 hz2 rfl (by decide) _ _ _ rfl (HR.out.alloc _) ⟨wr.heap.size, 0, none⟩ 1 1 [.bool false] rfl rfl (cells_one _ _ _ (by go_simp)) (by intro u hu; simp at hu; subst hu; rfl) (by unfold maxLen; omega) (by omega) (by simp; omega) ?_; intro v' w4 hown' hgrow _)
            have H4 := Lib.hid (FIN.out v' w4 hown' hgrow)
            clear hown' hgrow FIN ix
            go_wp2
            go_roundw
            case rel => ((repeat apply Exists.intro); exact ⟨⟨j + 1, by go_num, by omega, H4.out⟩, rfl⟩)
            case measure => simp [intOf]; omega
          · go_wp2_with (at_builtin; refine wpList_append_own _ rfl _ _ 27 rfl w.heap.size 4 i0 (.bool false) 1 1 Tryz.underlying27 hi hz0 hz1 hz2 rfl (by decide) _ _ _ rfl (HR.out.alloc _) ⟨wr.heap.size, 0, none⟩ 1 1 [.bool true] rfl rfl (cells_one _ _ _ (by go_simp)) (by intro u hu; simp at hu; subst hu; rfl) (by unfold maxLen; omega) (by omega) (by simp; omega) ?_; intro v' w4 hown' hgrow _)
            have H4 := Lib.hid (FIN.out v' w4 hown' hgrow)
            clear hown' hgrow FIN ix
            go_wp2
            go_roundw
            case rel => ((repeat apply Exists.intro); exact ⟨⟨j + 1, by go_num, by omega, H4.out⟩, rfl⟩)
            case measure => simp [intOf]; omega
        · have hbad : c ≠ 48 ∧ c ≠ 49 := ⟨fun e => hg (.inl e), fun e => hg (.inr e)⟩
          have HF := Lib.hid (marksL_bad_mem HN.out.2 HM.out hbad)
          have t1 : ((c.toNat : Int) != 48) = true := by
            simp only [bne_iff_ne, ne_eq]
            exact fun e => hbad.1 (UInt8.toNat_inj.1 (by have : (48 : UInt8).toNat = 48 := rfl; omega))
          have t2 : ((c.toNat : Int) != 49) = true := by
            simp only [bne_iff_ne, ne_eq]
            exact fun e => hbad.2 (UInt8.toNat_inj.1 (by have : (49 : UInt8).toNat = 49 := rfl; omega))
          clear hg hbad
          go_wp2
          go_ret2
          exact ⟨_, ret_vb (by rw [HF.out]; rfl), fun l hl => absurd (HF.out.symm.trans hl) (by simp), HW.out⟩
      · have hjn : j = n := by omega
        subst hjn
        have HML := Lib.hid (marksL_all HN.out.2 (by
          have := HA.out
          rwa [List.take_of_length_le (by rw [HN.out.1]; exact Nat.le_refl _)] at this))
        have HSL : Hid (∀ l, marksL s = some l → SliceM wr (.slice va j vc) l ∧ Off (fun k => k < w.heap.size) (.slice va j vc)) := Lib.hid (fun l hl => by
          rw [HML.out] at hl
          split at hl
          · simp only [Option.some.injEq] at hl
            subst hl
            have := HR.out
            rw [List.take_of_length_le (by rw [HN.out.1]; exact Nat.le_refl _)] at this
            exact ⟨SliceM.own (n := j) (by rw [List.length_map, HN.out.1]) (by rw [List.map_map]; exact this), Off.own this⟩
          · cases hl)
        by_cases h1 : 1 ≤ j
        · by_cases h6 : j ≤ 60
          · have HF : Hid (true = (marksL s).isSome) := Lib.hid (by rw [HML.out, if_pos (by rw [HN.out.1]; omega)]; rfl)
            have e1 : decide ((j : Int) ≤ 60) = true := by simp; omega
            have e2 : decide (1 ≤ (j : Int)) = true := by simp; omega
            go_wp2
            go_ret2
            exact ⟨_, ret_vb HF.out, HSL.out, HW.out⟩
          · have HF : Hid (false = (marksL s).isSome) := Lib.hid (by rw [HML.out, if_neg (by rw [HN.out.1]; omega)]; rfl)
            have e1 : decide ((j : Int) ≤ 60) = false := by simp; omega
            have e2 : decide (1 ≤ (j : Int)) = true := by simp; omega
            go_wp2
            go_ret2
            exact ⟨_, ret_vb HF.out, HSL.out, HW.out⟩
        · have HF : Hid (false = (marksL s).isSome) := Lib.hid (by rw [HML.out, if_neg (by rw [HN.out.1]; omega)]; rfl)
          have e2 : decide (1 ≤ (j : Int)) = false := by simp; omega
          go_wp2
          go_ret2
          exact ⟨_, ret_vb HF.out, HSL.out, HW.out⟩

end Go.Proofs.YtgdaaafejfjilaaGreatDoor

/- contracts of the reference's unhex -/
namespace Go.Proofs.YtgdaaafejfjilaaGreatDoor
open Go.RowKit
attribute [local go_sem] Oper.semAt_some undef

theorem pairs_app : ∀ (t u : Bs), t.length % 2 = 0 → pairsL (t ++ u) = match pairsL t, pairsL u with | some a, some b => some (a ++ b) | _, _ => none
  | [], u, _ => by cases h : pairsL u <;> simp [pairsL, h]
  | [_], _, h => by simp at h
  | a :: b :: t, u, h => by
    have ih := pairs_app t u (by simp at h; omega)
    rw [List.cons_append, List.cons_append, pairsL, pairsL, ih]
    cases halfL a <;> cases halfL b <;> cases pairsL t <;> cases pairsL u <;> simp
theorem pairs_two (c d : UInt8) : pairsL [c, d] = match halfL c, halfL d with | some x, some y => some [UInt8.ofNat (16 * x + y)] | _, _ => none := by
  unfold pairsL
  cases halfL c <;> cases halfL d <;> simp [pairsL]
theorem pairs_none {s : Bs} {j : Nat} (h : 2 * j + 1 < s.length) (hb : halfL (s[2 * j]'(by omega)) = none ∨ halfL (s[2 * j + 1]'h) = none) : pairsL s = none := by
  have e : s = s.take (2 * j) ++ ([s[2 * j]'(by omega), s[2 * j + 1]'h] ++ s.drop (2 * j + 2)) := by
    conv => lhs; rw [← List.take_append_drop (2 * j) s, List.drop_eq_getElem_cons (by omega), List.drop_eq_getElem_cons (by omega)]
    rfl
  rw [e, pairs_app _ _ (by simp; omega), pairs_app _ _ (by simp), pairs_two]
  rcases hb with hb | hb <;> rw [hb]
  · cases pairsL (s.take (2 * j)) <;> rfl
  · cases halfL s[2 * j] <;> cases pairsL (s.take (2 * j)) <;> rfl
theorem pairs_next {s out : Bs} {j x y : Nat} (h : 2 * j + 1 < s.length) (hp : pairsL (s.take (2 * j)) = some out) (hx : halfL (s[2 * j]'(by omega)) = some x) (hy : halfL (s[2 * j + 1]'h) = some y) : pairsL (s.take (2 * (j + 1))) = some (out ++ [UInt8.ofNat (16 * x + y)]) := by
  have e : s.take (2 * (j + 1)) = s.take (2 * j) ++ [s[2 * j]'(by omega), s[2 * j + 1]'h] := by
    rw [show 2 * (j + 1) = 2 * j + 1 + 1 by omega, List.take_succ_eq_append_getElem h, List.take_succ_eq_append_getElem (by omega), List.append_assoc]
    rfl
  rw [e, pairs_app _ _ (by simp; omega), hp, pairs_two, hx, hy]

def digI (c : UInt8) : Int := match halfL c with | some k => (k : Int) | none => -1
theorem refDigit_any (c : UInt8) (w : World) : Calls Tryz.prog 78 #[.int .u8 c.toNat] w fun e w' => e = .returned (.int .i64 (digI c)) ∧ w' = w := by
  unfold digI
  cases h : halfL c with
  | some k => exact (refDigit_some c k h w).mono fun _ _ h => ⟨h.1, h.2.symm⟩
  | none => exact (refDigit_none c h w).mono fun _ _ h => ⟨h.1, h.2.symm⟩

/-- what has come of a word of bytes -/
def BytesR (s : Bs) (w : World) (e : Ending) (w' : World) : Prop :=
  ∃ v, e = .returned (.tuple #[v, .bool (bytesL s).isSome]) ∧ (∀ l, bytesL s = some l → SliceB w' v l ∧ Off (fun k => k < w.heap.size) v) ∧ (bytesL s = none → v = .slice none 0 0) ∧ Newer w w'

theorem conv16 (x y : Nat) (hx : x < 16) (hy : y < 16) : Value.int .u8 (16 * (x : Int) + (y : Int)) = byteV (UInt8.ofNat (16 * x + y)) := by
  unfold byteV
  congr 1
  rw [UInt8.toNat_ofNat']
  omega

set_option maxRecDepth 100000 in
set_option maxHeartbeats 1600000 in
theorem refUnhex_loop (s : Bs) (hl : s.length ≤ 896) (h0 : s.length ≠ 0) (h2 : s.length % 2 = 0) (hd : s ≠ [45]) (w : World) : Calls Tryz.prog 56 #[.string ⟨s.toArray⟩] w (BytesR s w) := by
  obtain ⟨i0, hi, hz0, hz1, hz2⟩ := info_parts Tryz.info5
  have hbl : bytesL s = pairsL s := by unfold bytesL; rw [if_neg hd, if_pos ⟨by omega, h2, hl⟩]
  have hb : (s == [45]) = false := by simpa using hd
  obtain ⟨n, hn⟩ : ∃ n, s.length = n := ⟨_, rfl⟩
  obtain ⟨m, hm⟩ : ∃ m, n = 2 * m := ⟨n / 2, by omega⟩
  have hsz : (ByteArray.mk s.toArray).size = n := by show s.toArray.size = n; simp [hn]
  rw [hn] at hl h0 h2
  have e1 : ((n : Int) == 0) = false := by simp; omega
  have e2 : ((n : Int) % 2 == 1) = false := by simp; omega
  have e3 : decide ((896 : Int) < (n : Int)) = false := by simp; omega
  have hm1 : n ≤ 2 * m := by omega
  have hm2 : 2 * m ≤ n := by omega
  have HN := Lib.hid (And.intro hn hbl)
  clear hn hbl hd h0 h2 hm
  go_enter Tryz.func56, Tryz.ntmps56
  go_wp2
  clear hb e1 e2 e3
  go_loopw [4, 5] (fun v i wr => ∃ (j : Nat) (out : Bs), i = .int .i64 (2 * (j : Int)) ∧ j ≤ m ∧ wr.ownsRow w.heap.size 5 1 v j (out.map byteV) ∧ out.length = j ∧ pairsL (s.take (2 * j)) = some out ∧ Newer w wr) (fun _ i _ => n - (intOf i).toNat)
  case atStart => exact ⟨0, [], rfl, Nat.zero_le _, World.ownsRow_nil _ _ _ _, rfl, by simp [pairsL], Newer.refl _⟩
  case round =>
    obtain ⟨j, out, rfl, hj, hrow, hol, hpo, hnw⟩ := hrel
    obtain ⟨va, vc, rfl⟩ := ownsRow_slice hrow
    have HR := Lib.hid hrow
    have HO := Lib.hid (And.intro hol hpo)
    have HW := Lib.hid hnw
    have hzw := hnw.size
    clear hrow hnw hol hpo
    by_cases hlt : j < m
    · have hjl : 2 * j + 1 < s.length := by rw [HN.out.1]; omega
      obtain ⟨c, hc⟩ : ∃ c, s[2 * j]'(by omega) = c := ⟨_, rfl⟩
      obtain ⟨d, hdd⟩ : ∃ d, s[2 * j + 1]'hjl = d := ⟨_, rfl⟩
      have ix1 : ∀ W, (Instr.index 9 (.string ⟨s.toArray⟩) (.int .i64 (2 * (j : Int)))).run Tryz.prog W = .ok (.int .u8 (c.toNat : Int)) W := fun W => index_str s (2 * j) (2 * (j : Int)) c (by omega) (by rw [List.getElem?_eq_getElem (by omega), hc]) W
      have ix2 : ∀ W, (Instr.index 9 (.string ⟨s.toArray⟩) (.int .i64 (2 * (j : Int) + 1))).run Tryz.prog W = .ok (.int .u8 (d.toNat : Int)) W := fun W => index_str s (2 * j + 1) (2 * (j : Int) + 1) d (by omega) (by rw [List.getElem?_eq_getElem hjl, hdd]) W
      have iw : IntKind.i64.wrap (2 * (j : Int) + 1) = 2 * (j : Int) + 1 := IntWalk.i64_in _ (by omega)
      have HNO : Hid (halfL c = none ∨ halfL d = none → bytesL s = none) := Lib.hid (fun h => by rw [HN.out.2]; exact pairs_none hjl (by rw [hc, hdd]; exact h))
      have HNX : Hid (∀ x y, halfL c = some x → halfL d = some y → pairsL (s.take (2 * (j + 1))) = some (out ++ [UInt8.ofNat (16 * x + y)])) := Lib.hid (fun x y hx hy => pairs_next hjl HO.out.2 (by rw [hc]; exact hx) (by rw [hdd]; exact hy))
      clear hc hdd hjl
      cases hx : halfL c with
      | none =>
        have HF := Lib.hid (HNO.out (.inl hx))
        have hv : digI c = -1 := by unfold digI; rw [hx]
        clear hx HNO HNX
        go_wp2
        go_quiet ((go_at_call 78; exact Calls.quiet_of_same (refDigit_any _ _)))
        go_wp2
        go_ret2
        exact ⟨_, ret_vb (by rw [HF.out]; rfl), fun l hl => absurd (HF.out.symm.trans hl) (by simp), fun _ => rfl, HW.out.trans (Newer.drewN _ _)⟩
      | some x =>
        have hv : digI c = (x : Int) := by unfold digI; rw [hx]
        have hx16 := halfL_lt hx
        cases hy : halfL d with
        | none =>
          have HF := Lib.hid (HNO.out (.inr hy))
          have hv2 : digI d = -1 := by unfold digI; rw [hy]
          clear hx hy HNO HNX
          go_wp2
          go_quiet ((go_at_call 78; exact Calls.quiet_of_same (refDigit_any _ _)))
          go_wp2
          go_ret2
          exact ⟨_, ret_vb (by rw [HF.out]; rfl), fun l hl => absurd (HF.out.symm.trans hl) (by simp), fun _ => rfl, HW.out.trans (Newer.drewN _ _)⟩
        | some y =>
          have hv2 : digI d = (y : Int) := by unfold digI; rw [hy]
          have hy16 := halfL_lt hy
          have HX := Lib.hid (HNX.out x y hx hy)
          have HC := Lib.hid (conv16 x y hx16 hy16)
          have wq : IntKind.u8.wrap (16 * (x : Int) + (y : Int)) = 16 * (x : Int) + (y : Int) := by show (16 * (x : Int) + (y : Int)) % 256 = _; omega
          clear hx hy HNO HNX
          go_wp2
          go_quiet ((go_at_call 78; exact Calls.quiet_of_same (refDigit_any _ _)))
          obtain ⟨Wq, hWq⟩ : ∃ W, wr.drewN nq = W := ⟨_, rfl⟩
          have hRq : Wq.ownsRow w.heap.size 5 1 (.slice va j vc) j (out.map byteV) := by rw [← hWq]; exact ownsRow_grow HR.out (Newer.drewN wr nq) (fun k hk ho => by have h1 := (HR.out.lt k hk).2; have ho : wr.heap.size ≤ k := ho; omega)
          have hNq : Newer w Wq := by rw [← hWq]; exact HW.out.trans (Newer.drewN _ _)
          have hzq := hNq.size
          rw [hWq]
          have HRQ := Lib.hid hRq
          have HNQ := Lib.hid hNq
          clear ix1 ix2 iw hWq hRq hNq hzw
          go_wp2_with (at_builtin; refine wpList_append_own _ rfl _ _ 24 rfl w.heap.size 5 i0 (.int .u8 0) 1 1 Tryz.underlying24 hi hz0 hz1 hz2 rfl (by decide) _ _ _ rfl (HRQ.out.alloc _) ⟨Wq.heap.size, 0, none⟩ 1 1 [.int .u8 (16 * (x : Int) + (y : Int))] rfl rfl (cells_one _ _ _ (by go_simp)) (by intro u hu; simp at hu; subst hu; rfl) (by unfold maxLen; omega) (by omega) (by simp; omega) ?_; intro v' w4 hown' hgrow _)
          rw [HC.out] at hown'
          have H4 := Lib.hid (And.intro hown' (own_step' HRQ.out HNQ.out hgrow))
          clear hown' hgrow
          go_wp2
          go_roundw
          case rel => ((repeat apply Exists.intro); exact ⟨⟨j + 1, out ++ [UInt8.ofNat (16 * x + y)], by go_num, by omega, by rw [List.map_append]; exact H4.out.1, by rw [List.length_append, HO.out.1]; rfl, HX.out, H4.out.2⟩, rfl⟩)
          case measure => simp [intOf]; omega
    · have hjm : j = m := by omega
      subst hjm
      have HB : Hid (bytesL s = some out) := Lib.hid (by
        have := HO.out.2
        rw [List.take_of_length_le (by rw [HN.out.1]; omega)] at this
        rw [HN.out.2, this])
      go_wp2
      go_ret2
      exact ⟨_, ret_vb (by rw [HB.out]; rfl), fun l hl => by
        have e : out = l := Option.some.inj (HB.out.symm.trans hl)
        subst e
        exact ⟨SliceB.own HO.out.1 HR.out, Off.own HR.out⟩, fun h => absurd (HB.out.symm.trans h) (by simp), HW.out⟩

set_option maxRecDepth 100000 in
set_option maxHeartbeats 800000 in
theorem refUnhex_any (s : Bs) (hs : s.length ≤ 100000) (w : World) : Calls Tryz.prog 56 #[.string ⟨s.toArray⟩] w (BytesR s w) := by
  by_cases hd : s = [45]
  · subst hd
    go_enter Tryz.func56, Tryz.ntmps56
    go_wp2
    go_ret2
    exact ⟨_, rfl, fun l hl => by have : l = [] := by injection hl with h; exact h.symm
                                  subst this; exact ⟨SliceB.nil _, Off.nil _⟩, fun _ => rfl, Newer.refl _⟩
  · by_cases h : s.length ≠ 0 ∧ s.length % 2 = 0 ∧ s.length ≤ 896
    · exact refUnhex_loop s h.2.2 h.1 h.2.1 hd w
    · have hb : (s == [45]) = false := by simpa using hd
      have HF : Hid (bytesL s = none) := Lib.hid (by unfold bytesL; rw [if_neg hd, if_neg (by omega)])
      obtain ⟨n, hn⟩ : ∃ n, s.length = n := ⟨_, rfl⟩
      have hsz : (ByteArray.mk s.toArray).size = n := by show s.toArray.size = n; simp [hn]
      rw [hn] at h hs
      clear hn hd
      have fin : ∀ v, (∀ l, bytesL s = some l → SliceB w v l ∧ Off (fun k => k < w.heap.size) v) := fun v l hl => absurd (HF.out.symm.trans hl) (by simp)
      have FIN := Lib.hid fin
      clear fin
      by_cases h0 : n = 0
      · have e1 : ((n : Int) == 0) = true := by simp; omega
        clear h h0
        go_enter Tryz.func56, Tryz.ntmps56
        go_wp2
        go_ret2
        exact ⟨_, ret_vb (by rw [HF.out]; rfl), FIN.out _, fun _ => rfl, Newer.refl _⟩
      · have e1 : ((n : Int) == 0) = false := by simp; omega
        by_cases h2 : n % 2 = 0
        · have e2 : ((n : Int) % 2 == 1) = false := by simp; omega
          have e3 : decide ((896 : Int) < (n : Int)) = true := by simp; omega
          clear h h0 h2
          go_enter Tryz.func56, Tryz.ntmps56
          go_wp2
          go_ret2
          exact ⟨_, ret_vb (by rw [HF.out]; rfl), FIN.out _, fun _ => rfl, Newer.refl _⟩
        · have e2 : ((n : Int) % 2 == 1) = true := by simp; omega
          clear h h0 h2
          go_enter Tryz.func56, Tryz.ntmps56
          go_wp2
          go_ret2
          exact ⟨_, ret_vb (by rw [HF.out]; rfl), FIN.out _, fun _ => rfl, Newer.refl _⟩

end Go.Proofs.YtgdaaafejfjilaaGreatDoor

/- contracts of the reference's words -/
namespace Go.Proofs.YtgdaaafejfjilaaGreatDoor
open Go.RowKit
attribute [local go_sem] Oper.semAt_some undef

theorem words_snoc (c d : UInt8) : ∀ (t : Bs) (out : List Bs) (w : Bs), wordsL c t = out ++ [w] → wordsL c (t ++ [d]) = if d = c then out ++ [w, []] else out ++ [w ++ [d]]
  | [], out, w, h => by
    have h : [[]] = out ++ [w] := h
    cases out with
    | nil =>
      simp only [List.nil_append, List.cons.injEq, and_true] at h
      subst h
      by_cases hd : d = c <;> simp [wordsL, hd]
    | cons x l => simp at h
  | b :: t, out, w, h => by
    rw [List.cons_append, wordsL]
    rw [wordsL] at h
    split at h
    · rename_i hb
      rw [if_pos hb]
      cases out with
      | nil =>
        simp only [List.nil_append, List.cons.injEq] at h
        obtain ⟨x, l, hx⟩ : ∃ x l, wordsL c t = x :: l := by
          cases t with
          | nil => exact ⟨_, _, rfl⟩
          | cons a r =>
            unfold wordsL
            split
            · exact ⟨_, _, rfl⟩
            · split <;> exact ⟨_, _, rfl⟩
        rw [hx] at h; simp at h
      | cons y out =>
        simp only [List.cons_append, List.cons.injEq] at h
        obtain ⟨rfl, h⟩ := h
        rw [words_snoc c d t out w h]
        split <;> rfl
    · rename_i hb
      rw [if_neg hb]
      cases hw : wordsL c t with
      | nil =>
        exfalso
        cases t with
        | nil => simp [wordsL] at hw
        | cons a r =>
          unfold wordsL at hw
          split at hw
          · cases hw
          · split at hw <;> cases hw
      | cons x l =>
        rw [hw] at h
        simp only at h
        cases out with
        | nil =>
          simp only [List.nil_append, List.cons.injEq] at h
          obtain ⟨rfl, rfl⟩ := h
          rw [words_snoc c d t [] x (by rw [hw]; rfl)]
          by_cases hd : d = c <;> simp [hd]
        | cons y out =>
          simp only [List.cons_append, List.cons.injEq] at h
          obtain ⟨rfl, rfl⟩ := h
          rw [words_snoc c d t (x :: out) w (by rw [hw]; rfl)]
          by_cases hd : d = c <;> simp [hd]

/-- a slice of words reads as l -/
def WordsV (w : World) (v : Value) (l : List Bs) : Prop :=
  ∃ (g o cap : Nat), v = .slice (some ⟨g, o, none⟩) l.length cap ∧ l.length ≤ cap ∧ cap ≤ maxLen ∧ ∀ j (h : j < l.length), w.cell? ⟨g, o + j, none⟩ = some (.string ⟨(l[j]).toArray⟩)

def strV (x : Bs) : Value := .string ⟨x.toArray⟩
theorem Tryz.info9 : (Tryz.prog.info? 9).map (fun i => (i.zero, i.size, i.bytes)) = some (some (.string ⟨#[]⟩), 1, 16) := by kernel_rfl

theorem WordsV.own {w : World} {base : Nat} {v : Value} {n : Nat} {l : List Bs} (hn : l.length = n) (h0 : n ≠ 0) (h : w.ownsRow base 9 1 v n (l.map strV)) : WordsV w v l := by
  obtain ⟨p, cap, rfl⟩ := ownsRow_slice h
  rcases h.2 with ⟨_, h0'⟩ | ⟨g, cap', cur, hv, _, _, hc, hm, _⟩
  · exact absurd h0' h0
  · simp only [Value.slice.injEq] at hv
    obtain ⟨rfl, -, rfl⟩ := hv
    refine ⟨g, 0, cap, by rw [hn], by omega, hm, fun j hj => ?_⟩
    have := h.cellAt j (by omega)
    rw [List.getElem?_map, List.getElem?_eq_getElem hj] at this
    rw [Nat.zero_add]
    exact this

set_option maxRecDepth 100000 in
set_option maxHeartbeats 1600000 in
theorem refWords_any (s : Bs) (hs : s.length ≤ 100000) (w : World) : Calls Tryz.prog 36 #[.string ⟨s.toArray⟩] w fun e w' => ∃ v, e = .returned v ∧ WordsV w' v (wordsL 32 s) ∧ Newer w w' := by
  obtain ⟨i0, hi, hz0, hz1, hz2⟩ := info_parts Tryz.info9
  obtain ⟨n, hn⟩ : ∃ n, s.length = n := ⟨_, rfl⟩
  have hsz : (ByteArray.mk s.toArray).size = n := by show s.toArray.size = n; simp [hn]
  rw [hn] at hs
  have HN := Lib.hid hn
  clear hn
  go_enter Tryz.func36, Tryz.ntmps36
  go_wp2
  go_loopw [3, 4, 5] (fun v x i wr => ∃ (j : Nat) (out : List Bs) (t : Bs), i = .int .i64 j ∧ x = .string ⟨t.toArray⟩ ∧ wr.ownsRow w.heap.size 9 1 v out.length (out.map strV) ∧ out.length ≤ j ∧ t.length ≤ j ∧ Newer w wr ∧ ((j ≤ n ∧ wordsL 32 (s.take j) = out ++ [t]) ∨ (j = n + 1 ∧ out = wordsL 32 s))) (fun _ _ i _ => n + 1 - (intOf i).toNat)
  case atStart => exact ⟨0, [], [], rfl, rfl, World.ownsRow_nil _ _ _ _, Nat.le_refl _, Nat.le_refl _, Newer.refl _, .inl ⟨Nat.zero_le _, by simp [wordsL]⟩⟩
  case round =>
    obtain ⟨j, out, t, rfl, rfl, hrow, hol, htl, hnw, hj⟩ := hrel
    obtain ⟨va, vc, rfl⟩ := ownsRow_slice hrow
    obtain ⟨L, hL⟩ : ∃ L, out.length = L := ⟨_, rfl⟩
    rw [hL] at hrow hol ⊢
    have HR := Lib.hid hrow
    have HW := Lib.hid hnw
    have HL := Lib.hid hL
    have hzw := hnw.size
    clear hrow hnw hL
    rcases hj with ⟨hjn, hw⟩ | ⟨rfl, hw⟩
    · have hle : (j : Int) ≤ (n : Int) := by omega
      have hgo : ∀ v' w4, w4.ownsRow w.heap.size 9 1 v' (L + 1) (out.map strV ++ [strV t]) → (wr.alloc (.cells #[strV t] 9)).grownBy w4 (Value.slice va L vc).ownBlock → w4.ownsRow w.heap.size 9 1 v' (out ++ [t]).length ((out ++ [t]).map strV) ∧ (out ++ [t]).length = L + 1 ∧ Newer w w4 := by
        intro v' w4 ho hg
        have e : (out ++ [t]).length = L + 1 := by rw [List.length_append, HL.out]; rfl
        exact ⟨by rw [e, List.map_append]; exact ho, e, own_step' HR.out HW.out hg⟩
      have HGO := Lib.hid hgo
      have HWD := Lib.hid hw
      clear hgo hw
      by_cases hlt : j < n
      · obtain ⟨c, hc⟩ : ∃ c, s[j]'(by rw [HN.out]; exact hlt) = c := ⟨_, rfl⟩
        have h1 : s[j]? = some c := by rw [List.getElem?_eq_getElem (by rw [HN.out]; exact hlt), hc]
        have ix := index_str s j (j : Int) c rfl h1 wr
        have HT : Hid (wordsL 32 (s.take (j + 1)) = if c = 32 then out ++ [t, []] else out ++ [t ++ [c]]) := Lib.hid (by rw [List.take_succ_eq_append_getElem (by rw [HN.out]; exact hlt), hc, words_snoc 32 c _ _ _ HWD.out])
        have hex : (ByteArray.mk s.toArray).extract j (j + 1) = ⟨#[c]⟩ := by
          apply ByteArray.ext
          rw [ByteArray.data_extract]
          apply Array.ext'
          simp only [Array.toList_extract, List.extract_eq_take_drop]
          rw [show j + 1 - j = 1 by omega, List.drop_eq_getElem_cons (by rw [HN.out]; exact hlt), hc]
          rfl
        have n1 : ((j : Int) + 1).toNat = j + 1 := by omega
        clear hc h1
        by_cases h32 : c = 32
        · have HX := Lib.hid (HT.out.trans (if_pos h32))
          subst h32
          clear HT hex
          go_wp2_with (at_builtin; refine wpList_append_own _ rfl _ _ 67 rfl w.heap.size 9 i0 (.string ⟨#[]⟩) 1 16 Tryz.underlying67 hi hz0 hz1 hz2 rfl (by decide) _ _ _ rfl (HR.out.alloc _) ⟨wr.heap.size, 0, none⟩ 1 1 [.string ⟨t.toArray⟩] rfl rfl (cells_one _ _ _ (by go_simp)) (by intro u hu; simp at hu; subst hu; rfl) (by unfold maxLen; omega) (by omega) (by simp; omega) ?_; intro v' w4 hown' hgrow _)
          have H4 := Lib.hid (HGO.out v' w4 hown' hgrow)
          clear hown' hgrow HGO ix n1
          go_wp2
          go_roundw
          case rel => ((repeat apply Exists.intro); exact ⟨⟨j + 1, out ++ [t], [], by go_num, rfl, by rw [H4.out.2.1]; have := H4.out.1; rw [H4.out.2.1] at this; exact this, by rw [H4.out.2.1]; omega, Nat.zero_le _, H4.out.2.2, .inl ⟨by omega, by rw [HX.out]; simp⟩⟩, rfl⟩)
          case measure => simp [intOf]; omega
        · have t32 : ((c.toNat : Int) != 32) = true := by
            simp only [bne_iff_ne, ne_eq]
            exact fun e => h32 (UInt8.toNat_inj.1 (by have : (32 : UInt8).toNat = 32 := rfl; omega))
          have HX := Lib.hid (HT.out.trans (if_neg h32))
          obtain ⟨t1, ht1⟩ : ∃ t1, t ++ [c] = t1 := ⟨_, rfl⟩
          have hcat := cat_str2 t [c]
          rw [ht1] at hcat
          have ha7 : ¬ 9223372036854775807 < t.length + 1 := by omega
          have hl1 : t1.length = t.length + 1 := by rw [← ht1]; simp
          have HX2 := Lib.hid (HX.out.trans (by rw [ht1]))
          have HL1 := Lib.hid hl1
          clear h32 HT HX ht1 HGO hl1
          go_wp2
          go_roundw
          case rel => exact ⟨j + 1, out, t1, by go_num, rfl, by rw [HL.out]; exact HR.out, by rw [HL.out]; omega, by rw [HL1.out]; omega, HW.out, .inl ⟨by omega, HX2.out⟩⟩
          case measure => simp [intOf]; omega
      · have hjn' : j = n := by omega
        subst hjn'
        have HX : Hid (out ++ [t] = wordsL 32 s) := Lib.hid (by
          have := HWD.out
          rw [List.take_of_length_le (by rw [HN.out]; exact Nat.le_refl _)] at this
          exact this.symm)
        go_wp2_with (at_builtin; refine wpList_append_own _ rfl _ _ 67 rfl w.heap.size 9 i0 (.string ⟨#[]⟩) 1 16 Tryz.underlying67 hi hz0 hz1 hz2 rfl (by decide) _ _ _ rfl (HR.out.alloc _) ⟨wr.heap.size, 0, none⟩ 1 1 [.string ⟨t.toArray⟩] rfl rfl (cells_one _ _ _ (by go_simp)) (by intro u hu; simp at hu; subst hu; rfl) (by unfold maxLen; omega) (by omega) (by simp; omega) ?_; intro v' w4 hown' hgrow _)
        have H4 := Lib.hid (HGO.out v' w4 hown' hgrow)
        clear hown' hgrow HGO
        go_wp2
        go_roundw
        case rel => ((repeat apply Exists.intro); exact ⟨⟨j + 1, out ++ [t], [], by go_num, rfl, by rw [H4.out.2.1]; have := H4.out.1; rw [H4.out.2.1] at this; exact this, by rw [H4.out.2.1]; omega, Nat.zero_le _, H4.out.2.2, .inr ⟨rfl, HX.out⟩⟩, rfl⟩)
        case measure => simp [intOf]
    · have hgt : ¬ ((n + 1 : Nat) : Int) ≤ (n : Int) := by omega
      subst hw
      go_wp2
      go_ret
      refine ⟨_, rfl, WordsV.own HL.out ?_ HR.out, HW.out⟩
      intro e
      have := HL.out
      obtain ⟨x, l, hx⟩ : ∃ x l, wordsL 32 s = x :: l := by
        cases s with
        | nil => exact ⟨_, _, rfl⟩
        | cons a r =>
          unfold wordsL
          split
          · exact ⟨_, _, rfl⟩
          · split <;> exact ⟨_, _, rfl⟩
      rw [hx] at this
      simp at this; omega

end Go.Proofs.YtgdaaafejfjilaaGreatDoor
