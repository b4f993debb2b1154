/- contracts: script.Text; slices of acts -/
import Derived.Test.YtgdaaafejfjilaaGreatDoorW19
import Derived.ScopeJumps
import Derived.WalkMore
namespace Go.Proofs.YtgdaaafejfjilaaGreatDoor
open Go.RowKit Go.Maps
attribute [local go_sem] Oper.semAt_some undef

/-- an act's cells, from f on -/
structure ActF (w : World) (b f : Nat) (a : ActL) (v8 v9 : Value) : Prop where
  c0 : w.cell? ⟨b, f, none⟩ = some (.int .i64 a.kind)
  c1 : w.cell? ⟨b, f + 1, none⟩ = some (.int .i64 a.thread)
  c2 : w.cell? ⟨b, f + 2, none⟩ = some (.int .i64 a.n)
  c3 : w.cell? ⟨b, f + 3, none⟩ = some (.int .i64 a.okind)
  c4 : w.cell? ⟨b, f + 4, none⟩ = some (.string ⟨(a.path).toArray⟩)
  c5 : w.cell? ⟨b, f + 5, none⟩ = some (.string ⟨(a.dest).toArray⟩)
  c6 : w.cell? ⟨b, f + 6, none⟩ = some (.int .i64 a.at_)
  c7 : w.cell? ⟨b, f + 7, none⟩ = some (.int .i64 a.on)
  c8 : w.cell? ⟨b, f + 8, none⟩ = some v8
  c9 : w.cell? ⟨b, f + 9, none⟩ = some v9
theorem ActF.newer {w W : World} {b f : Nat} {a : ActL} {v8 v9 : Value} (h : ActF w b f a v8 v9) (n : Newer w W) : ActF W b f a v8 v9 :=
  ⟨newer_cell h.c0 n, newer_cell h.c1 n, newer_cell h.c2 n, newer_cell h.c3 n, newer_cell h.c4 n, newer_cell h.c5 n, newer_cell h.c6 n, newer_cell h.c7 n, newer_cell h.c8 n, newer_cell h.c9 n⟩

/-- a slice of acts reads as l -/
def SliceA (w : World) (v : Value) (l : List ActL) : Prop := ∃ (p : Option Addr) (cap : Nat), v = .slice p l.length cap ∧ ∀ j (h : j < l.length), ∃ (g o : Nat) (v8 v9 : Value), p = some ⟨g, o, none⟩ ∧ ActF w g (o + j * 10) l[j] v8 v9 ∧ SliceB w v8 l[j].bytes ∧ SliceM w v9 l[j].marks
theorem SliceA.newer {w W : World} {v : Value} {l : List ActL} (h : SliceA w v l) (n : Newer w W) : SliceA W v l := by
  obtain ⟨p, cap, rfl, h⟩ := h
  refine ⟨p, cap, rfl, fun j hj => ?_⟩
  obtain ⟨g, o, v8, v9, rfl, h1, h2, h3⟩ := h j hj
  exact ⟨g, o, v8, v9, rfl, h1.newer n, h2.newer n, h3.newer n⟩
theorem SliceA.nil (w : World) : SliceA w (.slice none 0 0) [] := ⟨none, 0, rfl, fun _ h => absurd h (Nat.not_lt_zero _)⟩

theorem textE_no {l : List ActL} {j : Nat} (hj : j < l.length) (h : printL l[j] = none) : textE l = ([], 2) := by
  unfold textE
  rw [textL_none_of (List.getElem_mem hj) h]
theorem textE_long {l : List ActL} {t : Bs} (h : textL l = some t) (hl : 2000 < l.length ∨ 65536 < t.length) : textE l = ([], 3) := by
  unfold textE
  simp only [h, if_pos hl]
theorem textE_yes {l : List ActL} {t : Bs} (h : textL l = some t) (hl : ¬ (2000 < l.length ∨ 65536 < t.length)) : textE l = (t, 0) := by
  unfold textE
  simp only [h, if_neg hl]
theorem textL_next {l : List ActL} {j : Nat} {t s : Bs} (hj : j < l.length) (h : textL (l.take j) = some t) (hs : printL l[j] = some s) : textL (l.take (j + 1)) = some (t ++ (s ++ [10])) := by
  rw [List.take_succ_eq_append_getElem hj, textL_snoc, h, hs]

set_option maxRecDepth 100000 in
set_option maxHeartbeats 3200000 in
theorem text_any (l : List ActL) (v : Value) (w : World) (E : Env w) (h : SliceA w v l) (hf : ∀ a ∈ l, Fit a) (hl : l.length ≤ 100000) :
    Calls Tryz.prog 20 #[v] w fun e w' => e = .returned (.tuple #[.string ⟨(textE l).1.toArray⟩, .int .i64 (textE l).2]) ∧ Newer w w' := by
  obtain ⟨p, cp, rfl, hp⟩ := h
  obtain ⟨n, hn⟩ : ∃ n, l.length = n := ⟨_, rfl⟩
  rw [hn] at hl ⊢
  have HP := Lib.hid (And.intro hn hp)
  have HE := Lib.hid E
  have HFT := Lib.hid hf
  clear hp E hf hn
  go_enter Tryz.func20, Tryz.ntmps20
  go_wp2
  refine wp_scope_jumps 0 (fun a' w' => (textE l = ([], 3) ∧ Newer w w') ∧ ∃ (u0 u1 u2 u3 u4 u5 u6 u7 u8 u9 u10 u11 u12 u13 u14 u15 u16 u17 u18 u19 u20 u21 u22 u23 u24 u25 u26 u27 u28 u29 u30 u31 u32 u33 u34 u35 : Value), a' = { tmps := #[u0, u1, u2, u3, u4, u5, u6, u7, u8, u9, u10, u11, u12, u13, u14, u15, u16, u17, u18, u19, u20, u21, u22, u23, u24, u25, u26, u27, u28, u29, u30, u31, u32, u33, u34, u35], defers := [] }) (fun _ _ => 0) rfl ?_ ?_
  · go_wp2
    go_loopw [2, 10] (fun s i wr => ∃ (j : Nat) (t : Bs), j ≤ n ∧ i = .int .i64 j ∧ s = .string ⟨t.toArray⟩ ∧ textL (l.take j) = some t ∧ Newer w wr) (fun _ i _ => n - (intOf i).toNat)
    case atStart => exact ⟨0, [], Nat.zero_le _, rfl, rfl, rfl, Newer.refl _⟩
    case round =>
      obtain ⟨j, t, hj, rfl, rfl, ht, hw⟩ := hrel
      have htl := textL_len _ _ ht
      have htl : t.length ≤ 140000000 := by simp at htl; omega
      have HT := Lib.hid ht
      have HW := Lib.hid hw
      clear ht hw
      by_cases hlt : j < n
      · obtain ⟨g, o, v8, v9, rfl, hc, s8, s9⟩ := HP.out.2 j (by rw [HP.out.1]; exact hlt)
        obtain ⟨a, ha⟩ : ∃ a, l[j]'(by rw [HP.out.1]; exact hlt) = a := ⟨_, rfl⟩
        rw [ha] at hc s8 s9
        have HFA := Lib.hid (HFT.out a (ha ▸ List.getElem_mem _))
        obtain ⟨q8, l8, e8, -⟩ := id s8
        obtain ⟨q9, l9, e9, -⟩ := id s9
        obtain ⟨k8, hk8⟩ : ∃ k, a.bytes.length = k := ⟨_, rfl⟩
        obtain ⟨k9, hk9⟩ : ∃ k, a.marks.length = k := ⟨_, rfl⟩
        rw [hk8] at e8
        rw [hk9] at e9
        subst e8 e9
        have HS := Lib.hid (And.intro (s8.newer HW.out) (s9.newer HW.out))
        have HA := Lib.hid ha
        obtain ⟨c0, c1, c2, c3, c4, c5, c6, c7, c8, c9⟩ := hc.newer HW.out
        clear hc s8 s9 ha hk8 hk9
        go_wp2_with fail
        have na : Newer wr (wr.alloc (.cells #[.int .i64 a.kind, .int .i64 a.thread, .int .i64 a.n, .int .i64 a.okind, .string ⟨a.path.toArray⟩, .string ⟨a.dest.toArray⟩, .int .i64 a.at_, .int .i64 a.on, .slice q8 k8 l8, .slice q9 k9 l9] 29)) := Newer.alloc _ _
        refine (print_any a HFA.out q8 q9 k8 k9 l8 l9 _ (HE.out.newer (HW.out.trans na)) ⟨HS.out.1.newer na, HS.out.2.newer na⟩).mono ?_
        rintro e w1 ⟨rfl, n1⟩
        have HN1 := Lib.hid ((HW.out.trans na).trans n1)
        clear n1 na c0 c1 c2 c3 c4 c5 c6 c7 c8 c9
        cases hpr : printL a with
        | none =>
          have hpe : printE a = ([], 2) := by unfold printE; rw [hpr]
          have HF := Lib.hid (textE_no (l := l) (j := j) (by rw [HP.out.1]; exact hlt) (by rw [HA.out]; exact hpr))
          rw [hpe]
          clear hpe hpr
          go_wp2_with fail
          simp only [Exit.jump]
          go_ret2
          exact ⟨ret_se ⟨by rw [HF.out], by rw [HF.out]⟩, HN1.out⟩
        | some s =>
          have hpe : printE a = (s, 0) := by unfold printE; rw [hpr]
          have hsl := (parse_line (print_some hpr).1).1
          have HNX := Lib.hid (textL_next (l := l) (by rw [HP.out.1]; exact hlt) HT.out (by rw [HA.out]; exact hpr))
          rw [hpe]
          obtain ⟨s1, hs1⟩ : ∃ s1, s ++ [10] = s1 := ⟨_, rfl⟩
          obtain ⟨t1, ht1⟩ : ∃ t1, t ++ s1 = t1 := ⟨_, rfl⟩
          have hl1 : s1.length = s.length + 1 := by rw [← hs1]; simp
          have ha7 : ¬ 9223372036854775807 < s.length + 1 := by omega
          have ha8 : ¬ 9223372036854775807 < t.length + s1.length := by omega
          have hcat := cat_str s [10]
          have hcat2 := cat_str t s1
          rw [hs1] at hcat
          rw [ht1] at hcat2
          have HNX2 : Hid (textL (l.take (j + 1)) = some t1) := Lib.hid (by rw [HNX.out, hs1, ht1])
          clear hpe hpr hsl hs1 ht1 hl1 HNX
          go_wp2_with fail
          go_roundw
          case rel => ((repeat apply Exists.intro); exact ⟨⟨j + 1, t1, by omega, by go_num, rfl, HNX2.out, HN1.out⟩, rfl⟩)
          case measure => simp [intOf]; omega
      · have HTT : Hid (textL l = some t) := Lib.hid (by
          have := HT.out
          rwa [List.take_of_length_le (by rw [HP.out.1]; omega)] at this)
        have hjn : j = n := by omega
        subst hjn
        by_cases h2 : 2000 < j
        · have HF := Lib.hid (textE_long HTT.out (.inl (by rw [HP.out.1]; exact h2)))
          go_wp2_with fail
          go_step3
          exact ⟨rfl, ⟨HF.out, HW.out⟩, _, _, _, _, _, _, _, _, _, _, _, _, _, _, _, _, _, _, _, _, _, _, _, _, _, _, _, _, _, _, _, _, _, _, _, _, rfl⟩
        · by_cases h6 : 65536 < t.length
          · have HF := Lib.hid (textE_long HTT.out (.inr h6))
            go_wp2_with fail
            go_step3
            exact ⟨rfl, ⟨HF.out, HW.out⟩, _, _, _, _, _, _, _, _, _, _, _, _, _, _, _, _, _, _, _, _, _, _, _, _, _, _, _, _, _, _, _, _, _, _, _, _, rfl⟩
          · have HF := Lib.hid (textE_yes HTT.out (by rw [HP.out.1]; omega))
            go_wp2_with fail
            simp only [Exit.jump]
            go_ret2
            exact ⟨ret_se ⟨by rw [HF.out], by rw [HF.out]⟩, HW.out⟩
  · rintro a' w' ⟨⟨hE3, hW⟩, u0, u1, u2, u3, u4, u5, u6, u7, u8, u9, u10, u11, u12, u13, u14, u15, u16, u17, u18, u19, u20, u21, u22, u23, u24, u25, u26, u27, u28, u29, u30, u31, u32, u33, u34, u35, rfl⟩
    have H3 := Lib.hid hE3
    clear hE3
    go_wp2
    simp only [Exit.jump]
    go_ret2
    exact ⟨ret_se ⟨by rw [H3.out], by rw [H3.out]⟩, hW⟩

end Go.Proofs.YtgdaaafejfjilaaGreatDoor
