/- ScriptPrints: the walk -/
import Derived.Test.YtgdaaafejfjilaaGreatDoorW33
import Derived.Test.YtgdaaafejfjilaaGreatDoorW32
namespace Go.Proofs.YtgdaaafejfjilaaGreatDoor
open Go.RowKit
attribute [local go_sem] Oper.semAt_some undef

theorem fit_of {a : ActL} (h : I64s a) (f : FewA a) : Fit a := fit_small h.k h.t h.n h.at_ h.on f

set_option maxRecDepth 100000 in
set_option maxHeartbeats 3200000 in
theorem scriptPrints_any (a : ActL) (hi : I64s a) (p8 p9 : Option Addr) (n8 n9 m8 m9 : Nat) (w : World) (E : Env w) (ha : SliceB w (.slice p8 n8 m8) a.bytes ∧ SliceM w (.slice p9 n9 m9) a.marks) :
    Calls Tryz.prog 3 #[actV a (.slice p8 n8 m8) (.slice p9 n9 m9)] w fun e w' => e = .returned (.bool true) ∧ Newer w w' := by
  have HE := Lib.hid E
  have HS := Lib.hid ha
  have HI := Lib.hid hi
  clear E ha hi
  unfold actV
  go_enter Tryz.func3, Tryz.ntmps3
  go_upto_region 1 with fail
  obtain ⟨w1, x, h1, hx, hA, n1⟩ := box_named w a (.slice p8 n8 m8) (.slice p9 n9 m9)
  rw [h1, hx]
  have HN1 := Lib.hid n1
  have HA1 := Lib.hid hA
  obtain ⟨c0, c1, c2, c3, c4, c5, c6, c7, c8, c9⟩ := hA
  clear h1 hx n1
  go_wp2_with fail
  obtain ⟨w3, h3, hf, n3⟩ := one_named w1 a (.slice p8 n8 m8) (.slice p9 n9 m9)
  rw [h3]
  have HN3 := Lib.hid (HN1.out.trans n3)
  have hsl := sliceA_one hf ⟨HS.out.1.newer HN3.out, HS.out.2.newer HN3.out⟩
  refine (few_any [a] _ 1 w3 hsl (by simp)).mono ?_
  rintro e w4 ⟨rfl, n4⟩
  have HN4 := Lib.hid (HN3.out.trans n4)
  have hA4 := HA1.out.newer (n3.trans n4)
  obtain ⟨fw, hfw⟩ : ∃ f, fewL [a] 1 = f := ⟨_, rfl⟩
  rw [hfw]
  have HF := Lib.hid hfw
  clear h3 hf n3 n4 hsl hfw c0 c1 c2 c3 c4 c5 c6 c7 c8 c9
  cases fw with
  | false =>
    clear hA4
    go_wp2_with fail
    refine (works_any w4 (HE.out.newer HN4.out)).mono ?_
    rintro e w5 ⟨rfl, n5⟩
    have HN5 := Lib.hid (HN4.out.trans n5)
    clear n5
    go_wp2_with fail
    go_ret
    exact ⟨rfl, HN5.out⟩
  | true =>
    have HFW := Lib.hid ((fewL_all HF.out).1 a (by simp))
    have HA4 := Lib.hid hA4
    obtain ⟨c0, c1, c2, c3, c4, c5, c6, c7, c8, c9⟩ := hA4
    go_wp2_with fail
    refine (print_any a (fit_of HI.out HFW.out) p8 p9 n8 n9 m8 m9 w4 (HE.out.newer HN4.out) ⟨HS.out.1.newer HN4.out, HS.out.2.newer HN4.out⟩).mono ?_
    rintro e w5 ⟨rfl, n5⟩
    have HN5 := Lib.hid (HN4.out.trans n5)
    have hA5 := HA4.out.newer n5
    have HA5 := Lib.hid hA5
    obtain ⟨sp, hsp⟩ : ∃ q, printE a = q := ⟨_, rfl⟩
    obtain ⟨s, k⟩ := sp
    rw [hsp]
    have HP := Lib.hid hsp
    clear c0 c1 c2 c3 c4 c5 c6 c7 c8 c9 n5 hsp
    obtain ⟨c0, c1, c2, c3, c4, c5, c6, c7, c8, c9⟩ := hA5
    go_wp2_with fail
    refine (refPrint_any a p8 p9 n8 n9 m8 m9 w5 ⟨HS.out.1.newer HN5.out, HS.out.2.newer HN5.out⟩).mono ?_
    rintro e w6 ⟨rfl, n6⟩
    have HN6 := Lib.hid (HN5.out.trans n6)
    have HA6 := Lib.hid (HA5.out.newer n6)
    clear c0 c1 c2 c3 c4 c5 c6 c7 c8 c9 n6
    cases hpr : printL a with
    | none =>
      have hpe := HP.out
      unfold printE at hpe
      rw [hpr] at hpe
      simp only [Prod.mk.injEq] at hpe
      obtain ⟨rfl, rfl⟩ := hpe
      simp only [Option.isSome_none, Option.getD_none]
      clear hpr
      go_wp2_with (go_at_call 14; refine (num_any _ _).mono ?_; rintro e w' ⟨rfl, rfl⟩)
      refine (works_any _ (HE.out.newer HN6.out)).mono ?_
      rintro e w7 ⟨rfl, n7⟩
      have HN7 := Lib.hid (HN6.out.trans n7)
      clear n7
      go_wp2_with fail
      go_ret
      exact ⟨rfl, HN7.out⟩
    | some s' =>
      have hpe := HP.out
      unfold printE at hpe
      rw [hpr] at hpe
      simp only [Prod.mk.injEq] at hpe
      obtain ⟨rfl, rfl⟩ := hpe
      have HPS := Lib.hid (print_some hpr).1
      have hs : s'.length ≤ 100000 := by have := (parse_line HPS.out).1; omega
      simp only [Option.isSome_some, Option.getD_some]
      clear hpr
      go_wp2_with fail
      refine (parse_any s' hs w6 (HE.out.newer HN6.out)).mono ?_
      rintro e w7 ⟨⟨b, v, hp, rfl, v8, v9, rfl, ⟨s8, -⟩, ⟨s9, -⟩⟩ | ⟨hp, -⟩, n7⟩
      · rw [HPS.out] at hp
        obtain rfl := Option.some.inj hp
        obtain ⟨q8, l8, e8, -⟩ := id s8
        obtain ⟨q9, l9, e9, -⟩ := id s9
        obtain ⟨k8, hk8⟩ : ∃ k, a.bytes.length = k := ⟨_, rfl⟩
        obtain ⟨k9, hk9⟩ : ∃ k, a.marks.length = k := ⟨_, rfl⟩
        rw [hk8] at e8
        rw [hk9] at e9
        subst e8 e9
        have HN7 := Lib.hid (HN6.out.trans n7)
        have HT := Lib.hid (And.intro s8 s9)
        have HA7 := Lib.hid (HA6.out.newer n7)
        clear hp s8 s9 n7 hk8 hk9
        unfold actV
        go_upto_region 8 with fail
        obtain ⟨w8, y, h8, hy, hB, n8'⟩ := box_named w7 a (.slice q8 k8 l8) (.slice q9 k9 l9)
        rw [h8, hy]
        have HN8 := Lib.hid (HN7.out.trans n8')
        have HT8 := Lib.hid (And.intro (HT.out.1.newer n8') (HT.out.2.newer n8'))
        have HA8 := Lib.hid (HA7.out.newer n8')
        have HB8 := Lib.hid hB
        have HM : Hid (a.bytes.length ≤ 1000000 ∧ a.marks.length ≤ 1000000) := Lib.hid (by have := HFW.out.2.2; omega)
        obtain ⟨c0, c1, c2, c3, c4, c5, c6, c7, c8, c9⟩ := HA8.out
        obtain ⟨d0, d1, d2, d3, d4, d5, d6, d7, d8, d9⟩ := hB
        clear h8 hy n8'
        go_wp2_with (go_at_call 14; refine (num_any _ _).mono ?_; rintro e w' ⟨rfl, rfl⟩)
        have h16 := refSame_any a a p8 p9 q8 q9 n8 n9 m8 m9 k8 k9 l8 l9 _ ⟨HS.out.1.newer HN8.out, HS.out.2.newer HN8.out⟩ HT8.out HM.out.2 HM.out.2
        rw [sameL_iff.2 rfl] at h16
        refine h16.mono ?_
        clear h16
        rintro e w9 ⟨rfl, n9'⟩
        have HN9 := Lib.hid (HN8.out.trans n9')
        have HT9 := Lib.hid (And.intro (HT8.out.1.newer n9') (HT8.out.2.newer n9'))
        have hA9 := HA8.out.newer n9'
        have hB9 := HB8.out.newer n9'
        clear c0 c1 c2 c3 c4 c5 c6 c7 c8 c9 d0 d1 d2 d3 d4 d5 d6 d7 d8 d9 n9'
        obtain ⟨c0, c1, c2, c3, c4, c5, c6, c7, c8, c9⟩ := hA9
        obtain ⟨d0, d1, d2, d3, d4, d5, d6, d7, d8, d9⟩ := hB9
        go_wp2_with fail
        have h17 := same_any a a p8 p9 q8 q9 n8 n9 m8 m9 k8 k9 l8 l9 _ ⟨HS.out.1.newer HN9.out, HS.out.2.newer HN9.out⟩ HT9.out HM.out HM.out
        rw [sameL_iff.2 rfl] at h17
        refine h17.mono ?_
        clear h17
        rintro e w10 ⟨rfl, n10⟩
        have HN10 := Lib.hid (HN9.out.trans n10)
        clear c0 c1 c2 c3 c4 c5 c6 c7 c8 c9 d0 d1 d2 d3 d4 d5 d6 d7 d8 d9 n10
        go_wp2_with fail
        refine (works_any _ (HE.out.newer HN10.out)).mono ?_
        rintro e w11 ⟨rfl, n11⟩
        have HN11 := Lib.hid (HN10.out.trans n11)
        clear n11
        go_wp2_with fail
        go_ret
        exact ⟨rfl, HN11.out⟩
      · rw [HPS.out] at hp; cases hp

end Go.Proofs.YtgdaaafejfjilaaGreatDoor

/- ScriptTexts: the walk -/
namespace Go.Proofs.YtgdaaafejfjilaaGreatDoor
open Go.RowKit
attribute [local go_sem] Oper.semAt_some undef

theorem readFrom_mem : ∀ (ws : List Bs) (i : Nat) (acc : List ActL), (∀ a ∈ acc, ∃ s, parseL s = some a) → ∀ a ∈ (readFrom i ws acc).1, ∃ s, parseL s = some a
  | [], i, acc, h => h
  | s :: ws, i, acc, h => by
    by_cases hs : s = []
    · rw [rf_e hs]; exact readFrom_mem ws (i + 1) acc h
    · cases hp : parseL s with
      | none => rw [rf_n hs hp]; exact fun a ha => by cases ha
      | some b =>
        rw [rf_s hs hp]
        refine readFrom_mem ws (i + 1) (acc ++ [b]) (fun a ha => ?_)
        rcases List.mem_append.1 ha with ha | ha
        · exact h a ha
        · obtain rfl := List.mem_singleton.1 ha
          exact ⟨s, hp⟩
theorem readE_mem (s : Bs) : ∀ a ∈ (readE s).1, ∃ t, parseL t = some a := by
  unfold readE
  split
  · exact fun a ha => by cases ha
  · split
    · exact fun a ha => by cases ha
    · exact readFrom_mem _ _ _ (fun a ha => by cases ha)
theorem readE_len (s : Bs) : (readE s).1.length ≤ 2000 := by
  unfold readE
  split
  · exact Nat.zero_le _
  · split
    · exact Nat.zero_le _
    · omega
theorem readE_marks (s : Bs) : ∀ a ∈ (readE s).1, a.marks.length ≤ 1000000 := fun a ha => by
  obtain ⟨t, ht⟩ := readE_mem s a ha
  have := (parse_back ht).2.1.marks
  omega
theorem textE_len {l : List ActL} {t : Bs} {k : Int} (h : textE l = (t, k)) : t.length ≤ 65536 := by
  unfold textE at h
  split at h
  · simp only [Prod.mk.injEq] at h; rw [← h.1]; exact Nat.zero_le _
  · split at h
    · simp only [Prod.mk.injEq] at h; rw [← h.1]; exact Nat.zero_le _
    · rename_i hn
      simp only [Prod.mk.injEq] at h
      rw [← h.1]; omega

set_option maxRecDepth 100000 in
set_option maxHeartbeats 3200000 in
theorem scriptTexts_any (l : List ActL) (hi : ∀ a ∈ l, I64s a) (hlm : l.length ≤ maxLen) (v : Value) (s : Bs) (w : World) (E : Env w) (hl : SliceA w v l) :
    Calls Tryz.prog 7 #[v, .string ⟨s.toArray⟩] w fun e w' => e = .returned (.bool true) ∧ Newer w w' := by
  have hsz : (ByteArray.mk s.toArray).size = s.length := by show s.toArray.size = _; simp
  have HE := Lib.hid E
  have HS := Lib.hid hl
  have HI := Lib.hid hi
  clear E hl hi
  go_enter Tryz.func7, Tryz.ntmps7
  go_wp2_with fail
  refine (few_any l v 20 w HS.out (by unfold maxLen at hlm; omega)).mono ?_
  rintro e w1 ⟨rfl, n1⟩
  have HN1 := Lib.hid n1
  clear n1
  obtain ⟨fw, hfw⟩ : ∃ f, fewL l 20 = f := ⟨_, rfl⟩
  rw [hfw]
  have HF := Lib.hid hfw
  clear hfw
  cases fw with
  | false =>
    go_wp2_with fail
    refine (works_any _ (HE.out.newer HN1.out)).mono ?_
    rintro e w2 ⟨rfl, n2⟩
    have HN2 := Lib.hid (HN1.out.trans n2)
    clear n2
    go_wp2_with fail
    go_ret
    exact ⟨rfl, HN2.out⟩
  | true =>
    by_cases hsl : 1500 < s.length
    · have fl : decide ((1500 : Int) < (s.length : Int)) = true := by simp; omega
      clear hsl
      go_wp2_with fail
      refine (works_any _ (HE.out.newer HN1.out)).mono ?_
      rintro e w2 ⟨rfl, n2⟩
      have HN2 := Lib.hid (HN1.out.trans n2)
      clear n2
      go_wp2_with fail
      go_ret
      exact ⟨rfl, HN2.out⟩
    · have fl : decide ((1500 : Int) < (s.length : Int)) = false := by simp; omega
      have hs : s.length ≤ 100000 := by omega
      have HFA := Lib.hid (fewL_all HF.out)
      have HFIT : Hid (∀ a ∈ l, Fit a) := Lib.hid (fun a ha => fit_of (HI.out a ha) (HFA.out.1 a ha))
      have HMK : Hid (∀ a ∈ l, a.marks.length ≤ 1000000) := Lib.hid (fun a ha => by have := (HFA.out.1 a ha).2.2.2; omega)
      have hll : l.length ≤ 100000 := by have := HFA.out.2; omega
      obtain ⟨q, hq⟩ : ∃ q, textE l = q := ⟨_, rfl⟩
      obtain ⟨t, k⟩ := q
      have HT := Lib.hid hq
      clear hsl
      go_wp2_with fail
      refine (text_any l v _ (HE.out.newer HN1.out) (HS.out.newer HN1.out) HFIT.out hll).mono ?_
      rw [hq]
      rintro e w2 ⟨rfl, n2⟩
      have HN2 := Lib.hid (HN1.out.trans n2)
      clear n2
      go_wp2_with fail
      refine (refText_any l v _ (HS.out.newer HN2.out) hll).mono ?_
      rw [hq]
      clear hq
      rintro e w3 ⟨rfl, n3⟩
      have HN3 := Lib.hid (HN2.out.trans n3)
      clear n3
      go_wp2_with fail
      refine (read_any s hs _ (HE.out.newer HN3.out)).mono ?_
      rintro e w4 ⟨v4, rfl, sl4, n4⟩
      have HN4 := Lib.hid (HN3.out.trans n4)
      have HL4 := Lib.hid sl4
      obtain ⟨rn, hrn⟩ : ∃ r, (readE s).2.1 = r := ⟨_, rfl⟩
      obtain ⟨re, hre⟩ : ∃ r, (readE s).2.2 = r := ⟨_, rfl⟩
      rw [hrn, hre]
      clear n4 sl4
      go_wp2_with fail
      refine (refRead_any s hs _).mono ?_
      rintro e w5 ⟨v5, rfl, sl5, n5⟩
      rw [hrn, hre]
      have HN5 := Lib.hid (HN4.out.trans n5)
      have HL45 := Lib.hid (HL4.out.newer n5)
      have HL5 := Lib.hid sl5
      clear n5 sl5 hrn hre
      go_wp2_with (go_at_call 14; refine (num_any _ _).mono ?_; rintro e w' ⟨rfl, rfl⟩)
      refine (same23_any (readE s).1 (readE s).1 v4 v5 _ HL45.out HL5.out (by have := readE_len s; omega) (by have := readE_len s; omega) (readE_marks s) (readE_marks s)).mono ?_
      rintro e w6 ⟨⟨bb, rfl, hbb⟩, n6⟩
      obtain rfl : bb = true := hbb.2 rfl
      have HN6 := Lib.hid (HN5.out.trans n6)
      clear n6 hbb
      by_cases hk : k = 0
      · subst hk
        go_wp2_with fail
        refine (read_any t (by have := textE_len HT.out; omega) _ (HE.out.newer HN6.out)).mono ?_
        rintro e w7 ⟨v7, rfl, sl7, n7⟩
        rw [text_read HT.out] at sl7 ⊢
        have HN7 := Lib.hid (HN6.out.trans n7)
        have HL7 := Lib.hid sl7
        clear n7 sl7
        go_wp2_with (go_at_call 14; refine (num_any _ _).mono ?_; rintro e w' ⟨rfl, rfl⟩)
        refine (same23_any l l v7 v _ HL7.out (HS.out.newer HN7.out) (by omega) (by omega) HMK.out HMK.out).mono ?_
        rintro e w8 ⟨⟨bb, rfl, hbb⟩, n8⟩
        obtain rfl : bb = true := hbb.2 rfl
        have HN8 := Lib.hid (HN7.out.trans n8)
        clear n8 hbb
        go_wp2_with (go_at_call 14; refine (num_any _ _).mono ?_; rintro e w' ⟨rfl, rfl⟩)
        refine (works_any _ (HE.out.newer HN8.out)).mono ?_
        rintro e w9 ⟨rfl, n9⟩
        have HN9 := Lib.hid (HN8.out.trans n9)
        clear n9
        go_wp2_with fail
        go_ret
        exact ⟨rfl, HN9.out⟩
      · have fk : (k != 0) = true := by simpa using hk
        go_wp2_with fail
        refine (works_any _ (HE.out.newer HN6.out)).mono ?_
        rintro e w7 ⟨rfl, n7⟩
        have HN7 := Lib.hid (HN6.out.trans n7)
        clear n7
        go_wp2_with fail
        go_ret
        exact ⟨rfl, HN7.out⟩

end Go.Proofs.YtgdaaafejfjilaaGreatDoor
