/- ScriptHolds: the walk -/
import Derived.Test.YtgdaaafejfjilaaGreatDoorW35
namespace Go.Proofs.YtgdaaafejfjilaaGreatDoor
open Go.RowKit
attribute [local go_sem] Oper.semAt_some undef

/-- the text so far: some lines, empty ones among them -/
structure HoI (l : List ActL) (j m : Nat) (t : Bs) : Prop where
  pre : Pre t (l.take j)
  len : t.length ≤ j * 1310 + m
theorem HoI.start (l : List ActL) : HoI l 0 0 [] := ⟨Pre.nil, by simp⟩
theorem HoI.line {l : List ActL} {j m : Nat} {t : Bs} (h : HoI l j m t) : HoI l j (m + 1) (t ++ [10]) :=
  ⟨by have := h.pre.app Pre.line; rwa [List.append_nil] at this, by have := h.len; simp; omega⟩
theorem HoI.act {l : List ActL} {j m : Nat} {t s : Bs} (h : HoI l j m t) (hm : m ≤ 4) (hj : j < l.length) (hp : parseL s = some l[j]) : HoI l (j + 1) 0 (t ++ (s ++ [10])) :=
  ⟨by rw [List.take_succ_eq_append_getElem hj]; exact h.pre.app (Pre.act hp), by have := h.len; have := (parse_line hp).1; simp; omega⟩

/-- a boxed act and one of a slice are held -/
theorem held_mix {w1 W : World} {x g o : Nat} {a b : ActL} {v8 v9 u8 u9 : Value} (n : Newer w1 W) (h : ActC w1 x a v8 v9) (k : ActF w1 g o b u8 u9) : Newer w1 W ∧
    (W.cell? ⟨x, 0, none⟩ = some (.int .i64 a.kind) ∧ W.cell? ⟨x, 1, none⟩ = some (.int .i64 a.thread) ∧ W.cell? ⟨x, 2, none⟩ = some (.int .i64 a.n) ∧ W.cell? ⟨x, 3, none⟩ = some (.int .i64 a.okind) ∧ W.cell? ⟨x, 4, none⟩ = some (.string ⟨a.path.toArray⟩) ∧ W.cell? ⟨x, 5, none⟩ = some (.string ⟨a.dest.toArray⟩) ∧ W.cell? ⟨x, 6, none⟩ = some (.int .i64 a.at_) ∧ W.cell? ⟨x, 7, none⟩ = some (.int .i64 a.on) ∧ W.cell? ⟨x, 8, none⟩ = some v8 ∧ W.cell? ⟨x, 9, none⟩ = some v9) ∧
    (W.cell? ⟨g, o, none⟩ = some (.int .i64 b.kind) ∧ W.cell? ⟨g, o + 1, none⟩ = some (.int .i64 b.thread) ∧ W.cell? ⟨g, o + 2, none⟩ = some (.int .i64 b.n) ∧ W.cell? ⟨g, o + 3, none⟩ = some (.int .i64 b.okind) ∧ W.cell? ⟨g, o + 4, none⟩ = some (.string ⟨b.path.toArray⟩) ∧ W.cell? ⟨g, o + 5, none⟩ = some (.string ⟨b.dest.toArray⟩) ∧ W.cell? ⟨g, o + 6, none⟩ = some (.int .i64 b.at_) ∧ W.cell? ⟨g, o + 7, none⟩ = some (.int .i64 b.on) ∧ W.cell? ⟨g, o + 8, none⟩ = some u8 ∧ W.cell? ⟨g, o + 9, none⟩ = some u9) := by
  obtain ⟨c0, c1, c2, c3, c4, c5, c6, c7, c8, c9⟩ := h.newer n
  obtain ⟨d0, d1, d2, d3, d4, d5, d6, d7, d8, d9⟩ := k.newer n
  exact ⟨n, ⟨c0, c1, c2, c3, c4, c5, c6, c7, c8, c9⟩, d0, d1, d2, d3, d4, d5, d6, d7, d8, d9⟩

set_option maxRecDepth 100000 in
set_option maxHeartbeats 6400000 in
theorem scriptHolds_any (l : List ActL) (hi : ∀ a ∈ l, I64s a) (hlm : l.length ≤ maxLen) (v u : Value) (gl : Bs) (w : World) (E : Env w) (hl : SliceA w v l) (hg : SliceB w u gl) :
    Calls Tryz.prog 6 #[v, u] w fun e w' => e = .returned (.bool true) ∧ Newer w w' := by
  obtain ⟨pg, cg, rfl, hpg⟩ := hg
  obtain ⟨gn, hgn⟩ : ∃ k, gl.length = k := ⟨_, rfl⟩
  rw [hgn]
  have HPG := Lib.hid (And.intro hgn hpg)
  clear hpg hgn
  have HE := Lib.hid E
  have HL := Lib.hid hl
  have HI := Lib.hid hi
  clear E hl hi
  go_enter Tryz.func6, Tryz.ntmps6
  go_wp2_with fail
  refine (few_any l v 20 w HL.out (by unfold maxLen at hlm; omega)).mono ?_
  rintro e w1 ⟨rfl, n1⟩
  have HN1 := Lib.hid n1
  clear n1
  obtain ⟨fw, hfw⟩ : ∃ f, fewL l 20 = f := ⟨_, rfl⟩
  rw [hfw]
  have HF := Lib.hid hfw
  clear hfw
  cases fw with
  | false =>
    go_wp2_with fail
    refine (works_any _ (HE.out.newer HN1.out)).mono ?_
    rintro e w10 ⟨rfl, n10⟩
    have HN10 := Lib.hid (HN1.out.trans n10)
    clear n10
    go_wp2_with fail
    go_ret
    exact ⟨rfl, HN10.out⟩
  | true =>
    by_cases hgl : 20 < gn
    · have fl : decide ((20 : Int) < (gn : Int)) = true := by simp; omega
      clear hgl
      go_wp2_with fail
      refine (works_any _ (HE.out.newer HN1.out)).mono ?_
      rintro e w10 ⟨rfl, n10⟩
      have HN10 := Lib.hid (HN1.out.trans n10)
      clear n10
      go_wp2_with fail
      go_ret
      exact ⟨rfl, HN10.out⟩
    · have fl : decide ((20 : Int) < (gn : Int)) = false := by simp; omega
      have HFA := Lib.hid (fewL_all HF.out)
      have HFIT : Hid (∀ a ∈ l, Fit a) := Lib.hid (fun a ha => fit_of (HI.out a ha) (HFA.out.1 a ha))
      obtain ⟨n, hn⟩ : ∃ n, l.length = n := ⟨_, rfl⟩
      have hnl : n ≤ 20 := by have := HFA.out.2; omega
      obtain ⟨p, cp, rfl, hp⟩ := HL.out
      rw [hn]
      rw [hn] at HL
      have HP := Lib.hid (And.intro hn hp)
      clear hp hn HF hlm
      go_wp2_with fail
      go_loopw [5, 6] (fun s i wr => ∃ (j : Nat) (t : Bs), j ≤ n ∧ i = .int .i64 j ∧ s = .string ⟨t.toArray⟩ ∧ HoI l j 0 t ∧ Newer w wr) (fun _ i _ => n - (intOf i).toNat)
      case atStart => exact ⟨0, [], Nat.zero_le _, rfl, rfl, HoI.start l, HN1.out⟩
      case round =>
        obtain ⟨j, t, hj, rfl, rfl, hi, hw⟩ := hrel
        have htl := hi.len
        have HT := Lib.hid hi
        have HW := Lib.hid hw
        clear hi hw
        by_cases hlt : j < n
        · obtain ⟨g, o, v8, v9, rfl, hc, s8, s9⟩ := HP.out.2 j (by rw [HP.out.1]; exact hlt)
          have HNX : Hid (∀ (m : Nat) (t s : Bs), HoI l j m t → m ≤ 4 → parseL s = some (l[j]'(by rw [HP.out.1]; exact hlt)) → HoI l (j + 1) 0 (t ++ (s ++ [10]))) := Lib.hid (fun m t s h hm hp => h.act hm _ hp)
          have hmem : l[j]'(by rw [HP.out.1]; exact hlt) ∈ l := List.getElem_mem _
          obtain ⟨a, ha⟩ : ∃ a, l[j]'(by rw [HP.out.1]; exact hlt) = a := ⟨_, rfl⟩
          rw [ha] at hc s8 s9 HNX hmem
          have HFA1 := Lib.hid (HFIT.out a hmem)
          obtain ⟨q8, l8, e8, -⟩ := id s8
          obtain ⟨q9, l9, e9, -⟩ := id s9
          obtain ⟨k8, hk8⟩ : ∃ k, a.bytes.length = k := ⟨_, rfl⟩
          obtain ⟨k9, hk9⟩ : ∃ k, a.marks.length = k := ⟨_, rfl⟩
          rw [hk8] at e8
          rw [hk9] at e9
          subst e8 e9
          have HC := Lib.hid (hc.newer HW.out)
          have HS := Lib.hid (And.intro (s8.newer HW.out) (s9.newer HW.out))
          obtain ⟨c0, c1, c2, c3, c4, c5, c6, c7, c8, c9⟩ := hc.newer HW.out
          clear hc s8 s9 ha hk8 hk9 hmem
          go_wp2_with fail
          refine (print_any a HFA1.out q8 q9 k8 k9 l8 l9 wr (HE.out.newer HW.out) HS.out).mono ?_
          rintro e w2 ⟨rfl, n2⟩
          have HN2 := Lib.hid (HW.out.trans n2)
          have HC2 := Lib.hid (HC.out.newer n2)
          have HS2 := Lib.hid (And.intro (HS.out.1.newer n2) (HS.out.2.newer n2))
          clear n2 c0 c1 c2 c3 c4 c5 c6 c7 c8 c9 HC HS
          cases hpr : printL a with
          | none =>
            have hpe : printE a = ([], 2) := by unfold printE; rw [hpr]
            rw [hpe]
            clear hpe hpr
            go_wp2_with (go_at_call 14; refine (num_any _ _).mono ?_; rintro e w' ⟨rfl, rfl⟩)
            refine (works_any _ (HE.out.newer HN2.out)).mono ?_
            rintro e w10 ⟨rfl, n10⟩
            have HN10 := Lib.hid (HN2.out.trans n10)
            clear n10
            go_wp2_with fail
            go_ret
            exact ⟨rfl, HN10.out⟩
          | some s =>
            have hpe : printE a = (s, 0) := by unfold printE; rw [hpr]
            have HPS := Lib.hid (print_some hpr).1
            have hsl := (parse_line HPS.out).1
            rw [hpe]
            clear hpe hpr
            go_wp2_with (go_at_call 14; refine (num_any _ _).mono ?_; rintro e w' ⟨rfl, rfl⟩)
            refine (parse_any s (by omega) _ (HE.out.newer HN2.out)).mono ?_
            rintro e w3 ⟨⟨b, v, hp, rfl, u8, u9, rfl, ⟨t8, -⟩, ⟨t9, -⟩⟩ | ⟨hp, -⟩, n3⟩
            · rw [HPS.out] at hp
              obtain rfl := Option.some.inj hp
              obtain ⟨x8, y8, e8, -⟩ := id t8
              obtain ⟨x9, y9, e9, -⟩ := id t9
              obtain ⟨z8, hz8⟩ : ∃ k, a.bytes.length = k := ⟨_, rfl⟩
              obtain ⟨z9, hz9⟩ : ∃ k, a.marks.length = k := ⟨_, rfl⟩
              rw [hz8] at e8
              rw [hz9] at e9
              subst e8 e9
              have HM : Hid (a.bytes.length ≤ 1000000 ∧ a.marks.length ≤ 1000000) := Lib.hid (by have := HFA1.out.b; have := HFA1.out.m; omega)
              have HN3 := Lib.hid (HN2.out.trans n3)
              have HU := Lib.hid (And.intro t8 t9)
              have HC3 := Lib.hid (HC2.out.newer n3)
              have HS3 := Lib.hid (And.intro (HS2.out.1.newer n3) (HS2.out.2.newer n3))
              clear hp t8 t9 n3 hz8 hz9 HC2 HS2
              unfold actV
              go_upto_region 11 with fail
              obtain ⟨w4, y, h4, hy, hB, n4⟩ := box_named w3 a (.slice x8 z8 y8) (.slice x9 z9 y9)
              rw [h4, hy]
              have HN4 := Lib.hid (HN3.out.trans n4)
              have HU4 := Lib.hid (And.intro (HU.out.1.newer n4) (HU.out.2.newer n4))
              have HC4 := Lib.hid (HC3.out.newer n4)
              have HS4 := Lib.hid (And.intro (HS3.out.1.newer n4) (HS3.out.2.newer n4))
              have HB4 := Lib.hid hB
              have H17 : Hid (∀ W, Newer w4 W → Calls Tryz.prog 17 #[actV a (.slice x8 z8 y8) (.slice x9 z9 y9), actV a (.slice q8 k8 l8) (.slice q9 k9 l9)] W fun e w' => e = .returned (.bool true) ∧ Newer W w') := Lib.hid (fun W m => by
                have := same_any a a x8 x9 q8 q9 z8 z9 y8 y9 k8 k9 l8 l9 W ⟨HU4.out.1.newer m, HU4.out.2.newer m⟩ ⟨HS4.out.1.newer m, HS4.out.2.newer m⟩ HM.out HM.out
                rwa [sameL_iff.2 rfl] at this)
              clear h4 hy hB n4 HU HC3 HS3
              go_wp2_with fail
              go_region_held3 (fun w' => Newer w4 w' ∧ (w'.cell? ⟨y, 0, none⟩ = some (.int .i64 a.kind) ∧ w'.cell? ⟨y, 1, none⟩ = some (.int .i64 a.thread) ∧ w'.cell? ⟨y, 2, none⟩ = some (.int .i64 a.n) ∧ w'.cell? ⟨y, 3, none⟩ = some (.int .i64 a.okind) ∧ w'.cell? ⟨y, 4, none⟩ = some (.string ⟨a.path.toArray⟩) ∧ w'.cell? ⟨y, 5, none⟩ = some (.string ⟨a.dest.toArray⟩) ∧ w'.cell? ⟨y, 6, none⟩ = some (.int .i64 a.at_) ∧ w'.cell? ⟨y, 7, none⟩ = some (.int .i64 a.on) ∧ w'.cell? ⟨y, 8, none⟩ = some (.slice x8 z8 y8) ∧ w'.cell? ⟨y, 9, none⟩ = some (.slice x9 z9 y9)) ∧ (w'.cell? ⟨g, o + j * 10, none⟩ = some (.int .i64 a.kind) ∧ w'.cell? ⟨g, o + j * 10 + 1, none⟩ = some (.int .i64 a.thread) ∧ w'.cell? ⟨g, o + j * 10 + 2, none⟩ = some (.int .i64 a.n) ∧ w'.cell? ⟨g, o + j * 10 + 3, none⟩ = some (.int .i64 a.okind) ∧ w'.cell? ⟨g, o + j * 10 + 4, none⟩ = some (.string ⟨a.path.toArray⟩) ∧ w'.cell? ⟨g, o + j * 10 + 5, none⟩ = some (.string ⟨a.dest.toArray⟩) ∧ w'.cell? ⟨g, o + j * 10 + 6, none⟩ = some (.int .i64 a.at_) ∧ w'.cell? ⟨g, o + j * 10 + 7, none⟩ = some (.int .i64 a.on) ∧ w'.cell? ⟨g, o + j * 10 + 8, none⟩ = some (.slice q8 k8 l8) ∧ w'.cell? ⟨g, o + j * 10 + 9, none⟩ = some (.slice q9 k9 l9))) (first | exact held_mix (Newer.drew _) HB4.out HC4.out | (go_split_ands; exact ⟨by assumption, ⟨by assumption, by assumption, by assumption, by assumption, by assumption, by assumption, by assumption, by assumption, by assumption, by assumption⟩, by assumption, by assumption, by assumption, by assumption, by assumption, by assumption, by assumption, by assumption, by assumption, by assumption⟩) | (go_split_ands; exact held_mix (Newer.trans (by assumption) (by assumption)) HB4.out HC4.out)) (first | (go_at_call 14; refine (num_any _ _).mono ?_; rintro e w' ⟨rfl, rfl⟩) | (go_at_call 17; refine (H17.out _ (by first | assumption | exact Newer.drew _ | (go_split_ands; assumption))).mono ?_; rintro e w' ⟨rfl, n2⟩))
              go_split_ands
              have hN := Lib.hid (‹Newer w4 _›)
              have HN5 := Lib.hid (HN4.out.trans hN.out)
              have HT5 := Lib.hid HT.out
              by_cases hjg : j < gn
              · obtain ⟨A, rfl, hcx⟩ := HPG.out.2 j (by rw [HPG.out.1]; exact hjg)
                obtain ⟨x, hx⟩ : ∃ x, gl[j]'(by rw [HPG.out.1]; exact hjg) = x := ⟨_, rfl⟩
                rw [hx] at hcx
                unfold byteV at hcx
                have HCX := Lib.hid hcx
                clear hcx hx
                obtain ⟨q, hq⟩ : ∃ q, x.toNat % 4 = q := ⟨_, rfl⟩
                have hq4 : q ≤ 3 := by omega
                have hqi : (x.toNat : Int) % 4 = (q : Int) := by omega
                go_wp2_with fail
                go_loopw [5, 11] (fun s i wr => ∃ (m : Nat) (t : Bs), m ≤ q ∧ i = .int .i64 m ∧ s = .string ⟨t.toArray⟩ ∧ HoI l j m t ∧ Newer w wr) (fun _ i _ => q - (intOf i).toNat)
                case atStart => exact ⟨0, t, Nat.zero_le _, rfl, rfl, HT5.out, HN5.out⟩
                case round =>
                  obtain ⟨m, t', hm, rfl, rfl, hi, hw⟩ := hrel
                  have hil := hi.len
                  have HTM := Lib.hid hi
                  have HWM := Lib.hid hw
                  have hcx := newer_cell HCX.out hw
                  clear hi hw
                  by_cases hmq : m < q
                  · obtain ⟨t1, ht1⟩ : ∃ t1, t' ++ [10] = t1 := ⟨_, rfl⟩
                    have hcat := cat_str t' [10]
                    rw [ht1] at hcat
                    have ha7 : ¬ 9223372036854775807 < t'.length + 1 := by omega
                    have HI1 : Hid (HoI l j (m + 1) t1) := Lib.hid (ht1 ▸ HTM.out.line)
                    clear ht1
                    go_wp2_with fail
                    go_roundw
                    case rel => exact ⟨m + 1, t1, by omega, by go_num, rfl, HI1.out, HWM.out⟩
                    case measure => simp [intOf]; omega
                  · obtain ⟨s1, hs1⟩ : ∃ s1, t' ++ s = s1 := ⟨_, rfl⟩
                    obtain ⟨t1, ht1⟩ : ∃ t1, s1 ++ [10] = t1 := ⟨_, rfl⟩
                    have HX : Hid (HoI l (j + 1) 0 t1) := Lib.hid (by have := HNX.out m t' s HTM.out (by omega) HPS.out; rwa [← List.append_assoc, hs1, ht1] at this)
                    have hl1 : s1.length = t'.length + s.length := by rw [← hs1]; simp
                    have ha7 : ¬ 9223372036854775807 < t'.length + s.length := by omega
                    have ha8 : ¬ 9223372036854775807 < s1.length + 1 := by omega
                    have hcat := cat_str t' s
                    have hcat2 := cat_str s1 [10]
                    rw [hs1] at hcat
                    rw [ht1] at hcat2
                    clear hs1 ht1 hl1
                    go_wp2_with fail
                    go_roundw
                    case rel => exact ⟨j + 1, t1, by omega, by go_num, rfl, HX.out, HWM.out⟩
                    case measure => simp [intOf]; omega
              · go_wp2_with fail
                go_loopw [5, 11] (fun s i wr => ∃ (m : Nat) (t : Bs), m ≤ 0 ∧ i = .int .i64 m ∧ s = .string ⟨t.toArray⟩ ∧ HoI l j m t ∧ Newer w wr) (fun _ i _ => 0)
                case atStart => exact ⟨0, t, Nat.zero_le _, rfl, rfl, HT5.out, HN5.out⟩
                case round =>
                  obtain ⟨m, t', hm, rfl, rfl, hi, hw⟩ := hrel
                  have hil := hi.len
                  have HTM := Lib.hid hi
                  have HWM := Lib.hid hw
                  clear hi hw
                  have hskip : True := trivial
                  obtain ⟨s1, hs1⟩ : ∃ s1, t' ++ s = s1 := ⟨_, rfl⟩
                  obtain ⟨t1, ht1⟩ : ∃ t1, s1 ++ [10] = t1 := ⟨_, rfl⟩
                  have HX : Hid (HoI l (j + 1) 0 t1) := Lib.hid (by have := HNX.out m t' s HTM.out (by omega) HPS.out; rwa [← List.append_assoc, hs1, ht1] at this)
                  have hl1 : s1.length = t'.length + s.length := by rw [← hs1]; simp
                  have ha7 : ¬ 9223372036854775807 < t'.length + s.length := by omega
                  have ha8 : ¬ 9223372036854775807 < s1.length + 1 := by omega
                  have hcat := cat_str t' s
                  have hcat2 := cat_str s1 [10]
                  rw [hs1] at hcat
                  rw [ht1] at hcat2
                  clear hs1 ht1 hl1
                  go_wp2_with fail
                  go_roundw
                  case rel => exact ⟨j + 1, t1, by omega, by go_num, rfl, HX.out, HWM.out⟩
                  case measure => simp [intOf]; omega
            · rw [HPS.out] at hp; cases hp
        · have hjn : j = n := by omega
          subst hjn
          have hpre := HT.out.pre
          rw [List.take_of_length_le (by rw [HP.out.1]; omega)] at hpre
          have HRE := Lib.hid (hpre.readE (by omega) (by rw [HP.out.1]; omega))
          clear hpre
          go_wp2_with fail
          refine (read_any t (by omega) _ (HE.out.newer HW.out)).mono ?_
          rintro e w2 ⟨v2, rfl, sl2, n2⟩
          rw [HRE.out] at sl2 ⊢
          have HSL := Lib.hid sl2
          obtain ⟨q, cq, rfl, -⟩ := sl2
          have HN2 := Lib.hid (HW.out.trans n2)
          clear n2
          have hlen : l.length = j := HP.out.1
          rw [hlen] at HSL ⊢
          clear hlen
          go_wp2_with (go_at_call 14; refine (num_any _ _).mono ?_; rintro e w' ⟨rfl, rfl⟩)
          go_loopw [15] (fun i wr => ∃ (k : Nat), k ≤ j ∧ i = .int .i64 k ∧ SliceA wr (.slice q j cq) l ∧ Newer w wr) (fun i _ => j - (intOf i).toNat)
          case atStart => exact ⟨0, Nat.zero_le _, rfl, HSL.out, HN2.out⟩
          case round =>
            obtain ⟨k, hk, rfl, hsq, hw⟩ := hrel
            have HSQ := Lib.hid hsq
            obtain ⟨q', cq', eq', hq⟩ := hsq
            simp only [Value.slice.injEq] at eq'
            obtain ⟨rfl, -, rfl⟩ := eq'
            have HQ := Lib.hid hq
            clear hq
            have HWR := Lib.hid hw
            clear hw
            by_cases hkj : k < j
            · have hkl : k < l.length := by rw [HP.out.1]; exact hkj
              obtain ⟨g, o, v8, v9, rfl, hc, s8, s9⟩ := HP.out.2 k hkl
              obtain ⟨g', o', u8, u9, rfl, hc', t8, t9⟩ := HQ.out k hkl
              have hmem : l[k] ∈ l := List.getElem_mem _
              obtain ⟨a, ha⟩ : ∃ a, l[k] = a := ⟨_, rfl⟩
              rw [ha] at hc s8 s9 hc' t8 t9 hmem
              have HFA1 := Lib.hid (HFIT.out a hmem)
              obtain ⟨q8, l8, e8, -⟩ := id s8
              obtain ⟨q9, l9, e9, -⟩ := id s9
              obtain ⟨q8', l8', e8', -⟩ := id t8
              obtain ⟨q9', l9', e9', -⟩ := id t9
              subst e8 e9 e8' e9'
              have HC := Lib.hid (And.intro (hc.newer HWR.out) hc')
              have HS := Lib.hid (And.intro (s8.newer HWR.out) (s9.newer HWR.out))
              have HS' := Lib.hid (And.intro t8 t9)
              have HB : Hid (a.bytes.length ≤ 1000000 ∧ a.marks.length ≤ 1000000) := Lib.hid (by have := HFA1.out.b; have := HFA1.out.m; omega)
              obtain ⟨k8, hk8⟩ : ∃ k, a.bytes.length = k := ⟨_, rfl⟩
              obtain ⟨k9, hk9⟩ : ∃ k, a.marks.length = k := ⟨_, rfl⟩
              rw [hk8, hk9] at HC HS HS'
              clear hc hc' s8 s9 t8 t9 ha hkl hk8 hk9 hmem
              have HCALL : Hid (∀ W, Newer wr W → Calls Tryz.prog 17 #[actV a (.slice q8' k8 l8') (.slice q9' k9 l9'), actV a (.slice q8 k8 l8) (.slice q9 k9 l9)] W fun e w' => e = .returned (.bool true) ∧ Newer W w') := Lib.hid (fun W n => by
                have := same_any a a q8' q9' q8 q9 k8 k9 l8' l9' k8 k9 l8 l9 W ⟨HS'.out.1.newer n, HS'.out.2.newer n⟩ ⟨HS.out.1.newer n, HS.out.2.newer n⟩ HB.out HB.out
                rwa [sameL_iff.2 rfl] at this)
              clear HS HS' HB
              go_wp2_with fail
              go_region_held3 (fun w' => Newer wr w' ∧ (w'.cell? ⟨g', o' + k * 10, none⟩ = some (.int .i64 a.kind) ∧ w'.cell? ⟨g', o' + k * 10 + 1, none⟩ = some (.int .i64 a.thread) ∧ w'.cell? ⟨g', o' + k * 10 + 2, none⟩ = some (.int .i64 a.n) ∧ w'.cell? ⟨g', o' + k * 10 + 3, none⟩ = some (.int .i64 a.okind) ∧ w'.cell? ⟨g', o' + k * 10 + 4, none⟩ = some (.string ⟨a.path.toArray⟩) ∧ w'.cell? ⟨g', o' + k * 10 + 5, none⟩ = some (.string ⟨a.dest.toArray⟩) ∧ w'.cell? ⟨g', o' + k * 10 + 6, none⟩ = some (.int .i64 a.at_) ∧ w'.cell? ⟨g', o' + k * 10 + 7, none⟩ = some (.int .i64 a.on) ∧ w'.cell? ⟨g', o' + k * 10 + 8, none⟩ = some (.slice q8' k8 l8') ∧ w'.cell? ⟨g', o' + k * 10 + 9, none⟩ = some (.slice q9' k9 l9')) ∧ (w'.cell? ⟨g, o + k * 10, none⟩ = some (.int .i64 a.kind) ∧ w'.cell? ⟨g, o + k * 10 + 1, none⟩ = some (.int .i64 a.thread) ∧ w'.cell? ⟨g, o + k * 10 + 2, none⟩ = some (.int .i64 a.n) ∧ w'.cell? ⟨g, o + k * 10 + 3, none⟩ = some (.int .i64 a.okind) ∧ w'.cell? ⟨g, o + k * 10 + 4, none⟩ = some (.string ⟨a.path.toArray⟩) ∧ w'.cell? ⟨g, o + k * 10 + 5, none⟩ = some (.string ⟨a.dest.toArray⟩) ∧ w'.cell? ⟨g, o + k * 10 + 6, none⟩ = some (.int .i64 a.at_) ∧ w'.cell? ⟨g, o + k * 10 + 7, none⟩ = some (.int .i64 a.on) ∧ w'.cell? ⟨g, o + k * 10 + 8, none⟩ = some (.slice q8 k8 l8) ∧ w'.cell? ⟨g, o + k * 10 + 9, none⟩ = some (.slice q9 k9 l9))) (first | exact held_two (Newer.drew _) HC.out.2 HC.out.1 | (go_split_ands; exact ⟨by assumption, ⟨by assumption, by assumption, by assumption, by assumption, by assumption, by assumption, by assumption, by assumption, by assumption, by assumption⟩, by assumption, by assumption, by assumption, by assumption, by assumption, by assumption, by assumption, by assumption, by assumption, by assumption⟩) | (go_split_ands; exact held_two (Newer.trans (by assumption) (by assumption)) HC.out.2 HC.out.1)) (first | (go_at_call 17; refine (HCALL.out _ (by first | assumption | exact Newer.drew _)).mono ?_; rintro e w' ⟨rfl, n2⟩))
              go_split_ands
              have hN := Lib.hid (‹Newer wr _›)
              go_wp2_with fail
              go_roundw
              case rel => first | exact ⟨k + 1, by omega, by go_num, HSQ.out.newer hN.out, HWR.out.trans hN.out⟩ | ((repeat apply Exists.intro); exact ⟨⟨k + 1, by omega, by go_num, HSQ.out.newer hN.out, HWR.out.trans hN.out⟩, rfl⟩)
              case measure => simp [intOf]; omega
            · have hkn : k = j := by omega
              subst hkn
              go_wp2_with fail
              refine (works_any _ (HE.out.newer HWR.out)).mono ?_
              rintro e w10 ⟨rfl, n10⟩
              have HN10 := Lib.hid (HWR.out.trans n10)
              clear n10
              go_wp2_with fail
              go_ret
              exact ⟨rfl, HN10.out⟩

set_option maxRecDepth 100000 in
/-- an argument of bytes -/
theorem open_bytesV {H : Type} {enc : TypeId × Value → H} {w : World} {base : Nat} {spare : Nat → Bool} {held : Bool} {r : Reach} {b0 : Nat} {w0 : World} {v : Value} {d : DataW H} {ps : List MemPlace} (hval : Value.okWide Tryz.prog w0 r b0 24 v) (hd : DataW.Trod enc Tryz.prog w base spare held 24 v d ps) : ∃ l : Bs, SliceB w v l := by
  obtain ⟨sa, n, cap, rfl⟩ := WideShapes.okWide_slice Tryz.underlying24 hval
  obtain ⟨fuel, hf⟩ := hd
  obtain ⟨v, l, hc, hl, -⟩ := open_bytes hf
  simp only [Value.cells, List.cons.injEq, and_true] at hc
  subst hc
  exact ⟨l, hl⟩

end Go.Proofs.YtgdaaafejfjilaaGreatDoor
