/- the laws' helpers: works -/
import Derived.Test.YtgdaaafejfjilaaGreatDoorW29
import Derived.Lib.SlBytesConst
namespace Go.Proofs.YtgdaaafejfjilaaGreatDoor
open Go.RowKit
attribute [local go_sem] Oper.semAt_some undef

theorem fit_small {a : ActL} (hk : I64 a.kind ∧ I64 a.okind) (ht : I64 a.thread) (hn : I64 a.n) (ha : I64 a.at_) (ho : I64 a.on) (hf : FewA a) : Fit a := by
  obtain ⟨h1, h2, h3, h4⟩ := hf
  exact ⟨hk, ht, hn, ha, ho, by omega, by omega, by omega, by omega⟩

def recA : ActL := ⟨5, 0, 5, 0, [], [], 0, 0, [], []⟩
def craA : ActL := ⟨4, 0, 0, 0, [], [], 0, 0, [], []⟩
theorem recA_print (w : World) (E : Env w) : Calls Tryz.prog 12 #[.agg #[.int .i64 5, .int .i64 0, .int .i64 5, .int .i64 0, .string ⟨#[]⟩, .string ⟨#[]⟩, .int .i64 0, .int .i64 0, .slice none 0 0, .slice none 0 0]] w fun e w' => e = .returned (.tuple #[.string ⟨#[114, 101, 99, 111, 118, 101, 114, 32, 53]⟩, .int .i64 0]) ∧ Newer w w' := by
  have hf : Fit recA := fit_small ⟨by unfold I64; decide, by unfold I64; decide⟩ (by unfold I64; decide) (by unfold I64; decide) (by unfold I64; decide) (by unfold I64; decide) (by unfold FewA; decide)
  refine (print_any recA hf none none 0 0 0 0 w E ⟨SliceB.nil _, SliceM.nil _⟩).mono ?_
  rintro e w' ⟨rfl, n⟩
  rw [show printE recA = _ from printE_of parse_rec]
  exact ⟨rfl, n⟩
theorem craA_print (w : World) (E : Env w) : Calls Tryz.prog 12 #[.agg #[.int .i64 4, .int .i64 0, .int .i64 0, .int .i64 0, .string ⟨#[]⟩, .string ⟨#[]⟩, .int .i64 0, .int .i64 0, .slice none 0 0, .slice none 0 0]] w fun e w' => e = .returned (.tuple #[.string ⟨#[99, 114, 97, 115, 104, 32, 45]⟩, .int .i64 0]) ∧ Newer w w' := by
  have hf : Fit craA := fit_small ⟨by unfold I64; decide, by unfold I64; decide⟩ (by unfold I64; decide) (by unfold I64; decide) (by unfold I64; decide) (by unfold I64; decide) (by unfold FewA; decide)
  refine (print_any craA hf none none 0 0 0 0 w E ⟨SliceB.nil _, SliceM.nil _⟩).mono ?_
  rintro e w' ⟨rfl, n⟩
  rw [show printE craA = _ from printE_of parse_crash0]
  exact ⟨rfl, n⟩
theorem xRead (w : World) (E : Env w) : Calls Tryz.prog 19 #[.string ⟨#[115, 116, 101, 112, 32, 48, 32, 49, 10, 10, 120]⟩] w fun e w' => ∃ p c, e = .returned (.tuple #[.slice p 0 c, .int .i64 3, .int .i64 380]) ∧ Newer w w' := by
  refine (read_any [115, 116, 101, 112, 32, 48, 32, 49, 10, 10, 120] (by decide) w E).mono ?_
  rintro e w' ⟨v, rfl, ⟨p, c, rfl, -⟩, n⟩
  rw [read_x]
  exact ⟨p, c, rfl, n⟩

set_option maxRecDepth 100000 in
set_option maxHeartbeats 3200000 in
theorem works_any (w : World) (E : Env w) : Calls Tryz.prog 11 #[] w fun e w' => e = .returned (.bool true) ∧ Newer w w' := by
  have HE := Lib.hid E
  clear E
  go_enter Tryz.func11, Tryz.ntmps11
  go_wp2_with fail
  refine (recA_print w HE.out).mono ?_
  rintro e w1 ⟨rfl, n1⟩
  have HN1 := Lib.hid n1
  clear n1
  go_wp2_with fail
  refine (craA_print w1 (HE.out.newer HN1.out)).mono ?_
  rintro e w2 ⟨rfl, n2⟩
  have HN2 := Lib.hid (HN1.out.trans n2)
  clear n2 HN1
  go_wp2_with fail
  refine (xRead w2 (HE.out.newer HN2.out)).mono ?_
  rintro e w3 ⟨p, c, rfl, n3⟩
  have HN3 := Lib.hid (HN2.out.trans n3)
  clear n3 HN2
  have cv := Lib.run_convert_bytes_const (P := Tryz.prog) w3 24 5 #[.int .u8 104, .int .u8 105] 2 2 Tryz.underlying24 Tryz.underlying5
  go_wp2_with fail
  clear cv
  have hb : SliceB (w3.alloc (.cells #[.int .u8 104, .int .u8 105] 5 (2, 3))) (.slice (some ⟨w3.heap.size, 0, none⟩) 2 2) hiA.bytes := by
    refine ⟨_, _, rfl, fun j hj => ⟨_, rfl, ?_⟩⟩
    have hj : j < 2 := hj
    rcases (by omega : j = 0 ∨ j = 1) with rfl | rfl
    · exact World.cell?_alloc_mark w3 #[.int .u8 104, .int .u8 105] 5 (2, 3) 0
    · exact World.cell?_alloc_mark w3 #[.int .u8 104, .int .u8 105] 5 (2, 3) 1
  have na : Newer w3 (w3.alloc (.cells #[.int .u8 104, .int .u8 105] 5 (2, 3))) := Newer.alloc _ _
  refine (parses_any _ (by decide) hiA _ none 2 0 2 0 _ (HE.out.newer (HN3.out.trans na)) ⟨hb, SliceM.nil _⟩ parse_hi).mono ?_
  rintro e w4 ⟨rfl, n4⟩
  have HN4 := Lib.hid ((HN3.out.trans na).trans n4)
  clear n4 na hb HN3
  go_wp2_with fail
  refine (parses_any _ (by decide) ⟨2, 1, 20, 0, [], [], 0, 0, [], []⟩ none none 0 0 0 0 _ (HE.out.newer HN4.out) ⟨SliceB.nil _, SliceM.nil _⟩ parse_step).mono ?_
  rintro e w5 ⟨rfl, n5⟩
  have HN5 := Lib.hid (HN4.out.trans n5)
  clear n5 HN4
  go_wp2_with fail
  have hb : SliceM (w5.alloc (.cells #[.bool false, .bool true] 4)) (.slice (some ⟨w5.heap.size, 0, none⟩) 2 2) [false, true] := by
    refine ⟨_, _, rfl, fun j hj => ⟨_, rfl, ?_⟩⟩
    have hj : j < 2 := hj
    rcases (by omega : j = 0 ∨ j = 1) with rfl | rfl <;> simp [go_sem, boolV, Addr.add]
  have na : Newer w5 (w5.alloc (.cells #[.bool false, .bool true] 4)) := Newer.alloc _ _
  refine (parses_any _ (by decide) ⟨4, 0, 0, 0, [], [], 0, 0, [], [false, true]⟩ none _ 0 2 0 2 _ (HE.out.newer (HN5.out.trans na)) ⟨SliceB.nil _, hb⟩ parse_crash).mono ?_
  rintro e w6 ⟨rfl, n6⟩
  have HN6 := Lib.hid ((HN5.out.trans na).trans n6)
  clear n6 na hb HN5
  go_wp2_with fail
  refine (fails_any _ (by decide) _ (HE.out.newer HN6.out) parse_007).mono ?_
  rintro e w7 ⟨rfl, n7⟩
  have HN7 := Lib.hid (HN6.out.trans n7)
  clear n7 HN6
  go_wp2_with fail
  refine (fails_any _ (by decide) _ (HE.out.newer HN7.out) parse_qread).mono ?_
  rintro e w8 ⟨rfl, n8⟩
  have HN8 := Lib.hid (HN7.out.trans n8)
  clear n8 HN7
  go_wp2_with (go_at_call 14; refine (num_any _ _).mono ?_; rintro e w' ⟨rfl, rfl⟩)
  go_ret
  exact ⟨rfl, HN8.out⟩

end Go.Proofs.YtgdaaafejfjilaaGreatDoor

/- ScriptParses: the walk -/
namespace Go.Proofs.YtgdaaafejfjilaaGreatDoor
open Go.RowKit
attribute [local go_sem] Oper.semAt_some undef

theorem inB_fit {a : ActL} (h : InB a) (hk : 1 ≤ a.kind ∧ a.kind ≤ 5) (ho : I64 a.okind) : Fit a := by
  have h1 := h.t
  have h2 := h.n
  have h3 := h.at_
  have h4 := h.on
  have h5 := h.path
  have h6 := h.dest
  have h7 := h.bytes
  have h8 := h.marks
  exact ⟨⟨⟨by omega, by omega⟩, ho⟩, ⟨by omega, by omega⟩, ⟨by omega, by omega⟩, ⟨by omega, by omega⟩, ⟨by omega, by omega⟩, by omega, by omega, by omega, by omega⟩

theorem fill_okind : ∀ (cs : Bs) (a b : ActL) (l r : List Bs), fillL cs a l = some (b, r) → b.okind = a.okind
  | [], a, b, l, r, h => by
    simp only [fillL, Option.some.injEq, Prod.mk.injEq] at h
    rw [h.1]
  | c :: cs, a, b, [], r, h => by simp [fillL] at h
  | c :: cs, a, b, s :: l, r, h => by
    rw [fillL] at h
    cases hs : setL c a s with
    | none => rw [hs] at h; cases h
    | some b' =>
      rw [hs] at h
      rw [fill_okind cs b' b l r h]
      unfold setL at hs
      repeat' split at hs
      all_goals first
        | (obtain ⟨v, -, rfl⟩ := Option.map_eq_some_iff.1 hs; rfl)
        | cases hs
theorem parse_okind {s : Bs} {b : ActL} (h : parseL s = some b) : I64 b.okind := by
  by_cases hk : b.kind = 1
  · have := (parse_back h).2.2.2 hk
    exact ⟨by omega, by omega⟩
  · have hk' := (parse_back h).2.2.1
    suffices b.okind = 0 by rw [this]; exact ⟨by omega, by omega⟩
    unfold parseL at h
    cases hw : wordsL 32 s with
    | nil => rw [hw] at h; simp [readL] at h
    | cons v l =>
      rw [hw] at h
      unfold readL at h
      simp only at h
      split at h
      · cases h
      · rename_i k hkk
        split at h
        · cases h
        · rename_i a l1 hf
          have hokz := fill_okind _ _ _ _ _ hf
          split at h
          · rename_i h1
            exfalso
            repeat' split at h
            all_goals first | cases h | skip
            rename_i o l2 x hx b' l3 h0 hf2
            have hkk1 : ∀ (cs : Bs) (a b : ActL) (l r : List Bs), fillL cs a l = some (b, r) → b.kind = a.kind := by
              intro cs
              induction cs with
              | nil =>
                intro a b l r h
                simp only [fillL, Option.some.injEq, Prod.mk.injEq] at h
                rw [h.1]
              | cons c cs ih =>
                intro a b l r h
                cases l with
                | nil => simp [fillL] at h
                | cons s l =>
                  rw [fillL] at h
                  cases hs : setL c a s with
                  | none => rw [hs] at h; cases h
                  | some b' =>
                    rw [hs] at h
                    rw [ih b' b l r h]
                    unfold setL at hs
                    repeat' split at hs
                    all_goals first
                      | (obtain ⟨v, -, rfl⟩ := Option.map_eq_some_iff.1 hs; rfl)
                      | cases hs
            have e1 := hkk1 _ _ _ _ _ hf2
            have e2 := hkk1 _ _ _ _ _ hf
            simp only at e1 e2
            exact hk (by rw [e1, e2, h1])
          · split at h
            · obtain rfl := Option.some.inj h
              exact hokz
            · cases h

theorem actC_new (w : World) (a : ActL) (v8 v9 : Value) : ActC (w.alloc (.cells #[.int .i64 a.kind, .int .i64 a.thread, .int .i64 a.n, .int .i64 a.okind, .string ⟨a.path.toArray⟩, .string ⟨a.dest.toArray⟩, .int .i64 a.at_, .int .i64 a.on, v8, v9] 29)) w.heap.size a v8 v9 := by
  constructor <;> simp [go_sem]
theorem ActC.newer {w W : World} {x : Nat} {a : ActL} {v8 v9 : Value} (h : ActC w x a v8 v9) (n : Newer w W) : ActC W x a v8 v9 :=
  h.grow n (fun hk => by
    have hk : w.heap.size ≤ x := hk
    have := World.block_lt_of_cell? _ _ h.c0
    simp at this
    omega)
theorem ActC.lt {w : World} {x : Nat} {a : ActL} {v8 v9 : Value} (h : ActC w x a v8 v9) : x < w.heap.size := by
  have := World.block_lt_of_cell? _ _ h.c0
  simpa using this
/-- an act whose cells are known -/
theorem box_named (w : World) (a : ActL) (v8 v9 : Value) : ∃ W x, (w.alloc (.cells #[.int .i64 a.kind, .int .i64 a.thread, .int .i64 a.n, .int .i64 a.okind, .string ⟨a.path.toArray⟩, .string ⟨a.dest.toArray⟩, .int .i64 a.at_, .int .i64 a.on, v8, v9] 29)) = W ∧ w.heap.size = x ∧ ActC W x a v8 v9 ∧ Newer w W :=
  ⟨_, _, rfl, rfl, actC_new w a v8 v9, Newer.alloc _ _⟩

set_option maxRecDepth 100000 in
set_option maxHeartbeats 3200000 in
theorem scriptParses_any (s : Bs) (w : World) (E : Env w) :
    Calls Tryz.prog 4 #[.string ⟨s.toArray⟩] w fun e w' => e = .returned (.bool true) ∧ Newer w w' := by
  have HE := Lib.hid E
  clear E
  have hsz : (ByteArray.mk s.toArray).size = s.length := by show s.toArray.size = _; simp
  by_cases hl : 1500 < s.length
  · have fl : decide ((1500 : Int) < (s.length : Int)) = true := by simp; omega
    clear hl
    go_enter Tryz.func4, Tryz.ntmps4
    go_wp2_with fail
    refine (works_any w HE.out).mono ?_
    rintro e w1 ⟨rfl, n1⟩
    have HN := Lib.hid n1
    clear n1
    go_wp2_with fail
    go_ret
    exact ⟨rfl, HN.out⟩
  · have fl : decide ((1500 : Int) < (s.length : Int)) = false := by simp; omega
    have hs : s.length ≤ 100000 := by omega
    clear hl
    go_enter Tryz.func4, Tryz.ntmps4
    go_wp2_with fail
    refine (parse_any s hs w HE.out).mono ?_
    rintro e w1 ⟨⟨a, v, hp, rfl, v8, v9, rfl, ⟨s8, -⟩, ⟨s9, -⟩⟩ | ⟨hp, rfl⟩, n1⟩
    · have HP := Lib.hid hp
      obtain ⟨q8, l8, e8, -⟩ := id s8
      obtain ⟨q9, l9, e9, -⟩ := id s9
      obtain ⟨k8, hk8⟩ : ∃ k, a.bytes.length = k := ⟨_, rfl⟩
      obtain ⟨k9, hk9⟩ : ∃ k, a.marks.length = k := ⟨_, rfl⟩
      rw [hk8] at e8
      rw [hk9] at e9
      subst e8 e9
      have HS := Lib.hid (And.intro s8 s9)
      have HN1 := Lib.hid n1
      clear hp s8 s9 n1 hk8 hk9
      unfold actV
      go_upto_region 4 with fail
      obtain ⟨w2, x, h2, hx, hA, n2⟩ := box_named w1 a (.slice q8 k8 l8) (.slice q9 k9 l9)
      rw [h2, hx]
      have HN2 := Lib.hid (HN1.out.trans n2)
      have HS2 := Lib.hid (And.intro (HS.out.1.newer n2) (HS.out.2.newer n2))
      have HA2 := Lib.hid hA
      clear h2 hx n2 hA HN1 HS
      go_wp2_with fail
      refine (refParse_any s hs w2).mono ?_
      rintro e w3 ⟨b, u8, u9, rfl, hb, ⟨⟨t8, -⟩, ⟨t9, -⟩⟩, n3⟩
      obtain rfl := hb a HP.out
      obtain ⟨q8', l8', e8, -⟩ := id t8
      obtain ⟨q9', l9', e9, -⟩ := id t9
      obtain ⟨k8', hk8⟩ : ∃ k, b.bytes.length = k := ⟨_, rfl⟩
      obtain ⟨k9', hk9⟩ : ∃ k, b.marks.length = k := ⟨_, rfl⟩
      rw [hk8] at e8
      rw [hk9] at e9
      subst e8 e9
      rw [HP.out]
      simp only [Option.isSome_some]
      unfold actV
      go_upto_region 5 with fail
      obtain ⟨w4, y, h4, hy, hB, n4⟩ := box_named w3 b (.slice q8' k8' l8') (.slice q9' k9' l9')
      rw [h4, hy]
      have HT4 := Lib.hid (And.intro (t8.newer n4) (t9.newer n4))
      have HS4 := Lib.hid (And.intro (HS2.out.1.newer (n3.trans n4)) (HS2.out.2.newer (n3.trans n4)))
      have HN4 := Lib.hid (HN2.out.trans (n3.trans n4))
      have HB4 := Lib.hid hB
      have hA4 := HA2.out.newer (n3.trans n4)
      have HA4 := Lib.hid hA4
      obtain ⟨c0, c1, c2, c3, c4, c5, c6, c7, c8, c9⟩ := hA4
      clear h4 hy n3 n4 hB hb t8 t9 hk8 hk9 HN2 HS2 HA2
      go_wp2_with fail
      have hbk := parse_back HP.out
      refine (print_any b (inB_fit hbk.2.1 hbk.2.2.1 (parse_okind HP.out)) q8 q9 k8 k9 l8 l9 w4 (HE.out.newer HN4.out) HS4.out).mono ?_
      rw [printE_of HP.out]
      rintro e w5 ⟨rfl, n5⟩
      have HN5 := Lib.hid (HN4.out.trans n5)
      have hA5 := HA4.out.newer n5
      have hB5 := HB4.out.newer n5
      have HM : Hid (b.marks.length ≤ 1000000) := Lib.hid (by have := hbk.2.1.marks; omega)
      have HC : Hid (Calls Tryz.prog 16 #[actV b (.slice q8 k8 l8) (.slice q9 k9 l9), actV b (.slice q8' k8' l8') (.slice q9' k9' l9')] w5 fun e w' => e = .returned (.bool true) ∧ Newer w5 w') := Lib.hid (by
        have := refSame_any b b q8 q9 q8' q9' k8 k9 l8 l9 k8' k9' l8' l9' w5 ⟨HS4.out.1.newer n5, HS4.out.2.newer n5⟩ ⟨HT4.out.1.newer n5, HT4.out.2.newer n5⟩ HM.out HM.out
        rwa [sameL_iff.2 rfl] at this)
      clear c0 c1 c2 c3 c4 c5 c6 c7 c8 c9 hbk n5
      obtain ⟨c0, c1, c2, c3, c4, c5, c6, c7, c8, c9⟩ := hA5
      obtain ⟨d0, d1, d2, d3, d4, d5, d6, d7, d8, d9⟩ := hB5
      go_wp2_with (go_at_call 14; refine (num_any _ _).mono ?_; rintro e w' ⟨rfl, rfl⟩)
      refine HC.out.mono ?_
      rintro e w6 ⟨rfl, n6⟩
      have HN6 := Lib.hid (HN5.out.trans n6)
      clear c0 c1 c2 c3 c4 c5 c6 c7 c8 c9 d0 d1 d2 d3 d4 d5 d6 d7 d8 d9 n6
      go_wp2_with (go_at_call 14; refine (num_any _ _).mono ?_; rintro e w' ⟨rfl, rfl⟩)
      refine (works_any _ (HE.out.newer HN6.out)).mono ?_
      rintro e w7 ⟨rfl, n7⟩
      have HN7 := Lib.hid (HN6.out.trans n7)
      clear n7
      go_wp2_with fail
      go_ret
      exact ⟨rfl, HN7.out⟩
    · have HP := Lib.hid hp
      have HN1 := Lib.hid n1
      clear hp n1
      unfold zeroV actV
      go_upto_region 4 with fail
      obtain ⟨w2, x, h2, hx, hA, n2⟩ := box_named w1 ActL.zero (.slice none 0 0) (.slice none 0 0)
      rw [h2, hx]
      have HN2 := Lib.hid (HN1.out.trans n2)
      have HA2 := Lib.hid hA
      clear h2 hx n2 hA HN1
      go_wp2_with fail
      refine (refParse_any s hs w2).mono ?_
      rintro e w3 ⟨b, u8, u9, rfl, hb, ⟨⟨t8, -⟩, ⟨t9, -⟩⟩, n3⟩
      obtain ⟨q8', l8', e8, -⟩ := id t8
      obtain ⟨q9', l9', e9, -⟩ := id t9
      obtain ⟨k8', hk8⟩ : ∃ k, b.bytes.length = k := ⟨_, rfl⟩
      obtain ⟨k9', hk9⟩ : ∃ k, b.marks.length = k := ⟨_, rfl⟩
      rw [hk8] at e8
      rw [hk9] at e9
      subst e8 e9
      rw [HP.out]
      simp only [Option.isSome_none]
      unfold actV
      go_upto_region 5 with fail
      obtain ⟨w4, y, h4, hy, hB, n4⟩ := box_named w3 b (.slice q8' k8' l8') (.slice q9' k9' l9')
      rw [h4, hy]
      have HN4 := Lib.hid (HN2.out.trans (n3.trans n4))
      have hA4 := HA2.out.newer (n3.trans n4)
      have HC : Hid (Calls Tryz.prog 16 #[actV ActL.zero (.slice none 0 0) (.slice none 0 0), actV ActL.zero (.slice none 0 0) (.slice none 0 0)] w4 fun e w' => e = .returned (.bool true) ∧ Newer w4 w') := Lib.hid (by
        have := refSame_any ActL.zero ActL.zero none none none none 0 0 0 0 0 0 0 0 w4 ⟨SliceB.nil _, SliceM.nil _⟩ ⟨SliceB.nil _, SliceM.nil _⟩ (by decide) (by decide)
        rwa [sameL_iff.2 rfl] at this)
      obtain ⟨c0, c1, c2, c3, c4, c5, c6, c7, c8, c9⟩ := hA4
      clear h4 hy n3 n4 hB hb t8 t9 hk8 hk9 HN2 HA2
      simp only [ActL.zero] at c0 c1 c2 c3 c4 c5 c6 c7 c8 c9
      go_wp2_with (go_at_call 14; refine (num_any _ _).mono ?_; rintro e w' ⟨rfl, rfl⟩)
      refine HC.out.mono ?_
      rintro e w6 ⟨rfl, n6⟩
      have HN6 := Lib.hid (HN4.out.trans n6)
      clear c0 c1 c2 c3 c4 c5 c6 c7 c8 c9 n6
      go_wp2_with (go_at_call 14; refine (num_any _ _).mono ?_; rintro e w' ⟨rfl, rfl⟩)
      refine (works_any _ (HE.out.newer HN6.out)).mono ?_
      rintro e w7 ⟨rfl, n7⟩
      have HN7 := Lib.hid (HN6.out.trans n7)
      clear n7
      go_wp2_with fail
      go_ret
      exact ⟨rfl, HN7.out⟩

end Go.Proofs.YtgdaaafejfjilaaGreatDoor
