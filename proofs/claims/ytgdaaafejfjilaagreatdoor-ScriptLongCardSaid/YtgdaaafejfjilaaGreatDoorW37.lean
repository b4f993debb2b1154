/- ScriptLong: plain facts -/
import Derived.Test.YtgdaaafejfjilaaGreatDoorW35
import Derived.Laws.OwnMore
import Derived.Deep.OwnRows
namespace Go.Proofs.YtgdaaafejfjilaaGreatDoor
open Go.RowKit

/-- an act of no name but a number -/
def ev (i : Nat) : ActL := { ActL.zero with kind := 3, n := (i : Int) }
def evs (m : Nat) : List ActL := (List.range m).map ev
theorem evs_zero : evs 0 = [] := rfl
theorem evs_succ (m : Nat) : evs (m + 1) = evs m ++ [ev m] := by unfold evs; rw [List.range_succ, List.map_append]; rfl
theorem evs_len (m : Nat) : (evs m).length = m := by unfold evs; simp
theorem evs_mem {m : Nat} {a : ActL} (h : a ∈ evs m) : ∃ i, i < m ∧ a = ev i := by
  unfold evs at h
  obtain ⟨i, hi, rfl⟩ := List.mem_map.1 h
  exact ⟨i, List.mem_range.1 hi, rfl⟩

theorem evs_text : ∀ (m : Nat), m ≤ 999999 → ∃ t, textL (evs m) = some t ∧ t.length ≤ 16 * m
  | 0, _ => ⟨[], rfl, Nat.le_refl _⟩
  | m + 1, h => by
    obtain ⟨t, ht, hl⟩ := evs_text m (by omega)
    have hp := evict_parse (m : Int) (by omega)
    have h9 := (itoa_len9 (v := (m : Int)) (by omega)).1
    refine ⟨t ++ (([101, 118, 105, 99, 116] : Bs) ++ 32 :: Lib.itoa (m : Int) ++ [10]), ?_, ?_⟩
    · rw [evs_succ, textL_snoc, ht, show printL (ev m) = _ from hp]
    · simp only [List.length_append, List.length_cons, List.length_nil]
      omega
theorem evs_textE (m : Nat) (h : m ≤ 2000) : ∃ t, textE (evs m) = (t, 0) ∧ t.length ≤ 65536 := by
  obtain ⟨t, ht, hl⟩ := evs_text m (by omega)
  exact ⟨t, textE_yes ht (by rw [evs_len]; omega), by omega⟩
theorem evs_textE_long (m : Nat) (h : 2000 < m) (h2 : m ≤ 999999) : textE (evs m) = ([], 3) := by
  obtain ⟨t, ht, hl⟩ := evs_text m (by omega)
  exact textE_long ht (.inl (by rw [evs_len]; omega))

theorem lines_pre : ∀ (k : Nat), Pre (List.replicate k 10) []
  | 0 => Pre.nil
  | k + 1 => by
    have := Pre.line.app (lines_pre k)
    rw [List.append_nil] at this
    exact this
theorem lines_read (k : Nat) (h : k ≤ 65536) : readE (List.replicate k 10) = ([], 0, 0) := (lines_pre k).readE (by simpa using h) (by simp)
theorem lines_read_long (k : Nat) (h : 65536 < k) : readE (List.replicate k 10) = ([], 0, 3) := readE_long (by simpa using h)
theorem no_read : readE [] = ([], 0, 0) := lines_read 0 (by omega)

/-- the row of bytes, on the way -/
def rowK (j K : Nat) : List Value := List.replicate j (.int .u8 10) ++ List.replicate (K - j) (.int .u8 0)
theorem rowK_start (K : Nat) : rowK 0 K = List.replicate K (.int .u8 0) := by unfold rowK; simp
theorem rowK_len {j K : Nat} (h : j ≤ K) : (rowK j K).length = K := by unfold rowK; simp; omega
theorem rowK_at {j K : Nat} (h : j < K) : (rowK j K)[j]? = some (.int .u8 0) := by
  unfold rowK
  rw [List.getElem?_append_right (by simp), List.length_replicate, Nat.sub_self, List.getElem?_replicate, if_pos (by omega)]
theorem rowK_next {j K : Nat} (h : j < K) : (rowK j K).set j (.int .u8 10) = rowK (j + 1) K := by
  unfold rowK
  rw [List.set_append_right _ _ (by simp)]
  simp only [List.length_replicate, Nat.sub_self]
  obtain ⟨d, hd⟩ : ∃ d, K - j = d + 1 := ⟨K - j - 1, by omega⟩
  rw [hd, show K - (j + 1) = d by omega, List.replicate_succ, List.set_cons_zero, List.replicate_succ' , List.append_assoc]
  rfl
theorem rowK_done (K : Nat) : rowK K K = List.replicate K (.int .u8 10) := by unfold rowK; simp

theorem i64_small {n : Int} (h : -1 ≤ n ∧ n ≤ 9999) : I64 n := ⟨by omega, by omega⟩
theorem fit_ev (i : Nat) (h : i ≤ 2001) : Fit (ev i) :=
  fit_of (a := ev i) ⟨⟨i64_small ⟨by show (-1 : Int) ≤ 3; omega, by show (3 : Int) ≤ 9999; omega⟩, i64_small ⟨by show (-1 : Int) ≤ 0; omega, by show (0 : Int) ≤ 9999; omega⟩⟩,
    i64_small ⟨by show (-1 : Int) ≤ 0; omega, by show (0 : Int) ≤ 9999; omega⟩, i64_small ⟨by show (-1 : Int) ≤ (i : Int); omega, by show (i : Int) ≤ 9999; omega⟩,
    i64_small ⟨by show (-1 : Int) ≤ 0; omega, by show (0 : Int) ≤ 9999; omega⟩, i64_small ⟨by show (-1 : Int) ≤ 0; omega, by show (0 : Int) ≤ 9999; omega⟩⟩
    ⟨by show 0 ≤ 400; omega, by show 0 ≤ 400; omega, by show 0 ≤ 500; omega, by show 0 ≤ 80; omega⟩

end Go.Proofs.YtgdaaafejfjilaaGreatDoor

/- ScriptLong: the walk -/
namespace Go.Proofs.YtgdaaafejfjilaaGreatDoor
open Go.RowKit
attribute [local go_sem] Oper.semAt_some undef

theorem Tryz.make24 (K : Nat) (h : K ≤ 65537) (W : World) : (Instr.makeSlice 24 (.int .i64 (K : Int)) (.int .i64 (K : Int))).run Tryz.prog W = .ok (.slice (some ⟨W.heap.size, 0, none⟩) K K) (W.alloc (.cells (madeCells #[.int .u8 0] K) 5)) :=
  run_make_row' (P := Tryz.prog) 24 5 (.int .u8 0) 1 Tryz.underlying24 (by kernel_rfl) rfl .i64 .i64 K (by omega) (by omega) W

theorem made_row (w : World) (g K : Nat) (hg : w.heap.size = g) (hK : K ≤ 65537) : (w.alloc (.cells (madeCells #[.int .u8 0] K) 5)).ownsRow g 5 1 (.slice (some ⟨g, 0, none⟩) K K) K (rowK 0 K) := by
  subst hg
  have := World.ownsRow_lit (base := w.heap.size) (e := 5) (size := 1) w (madeCells #[.int .u8 0] K) K (Nat.le_refl _) (by unfold maxLen; omega) (by rw [size_madeCells]; omega)
  rwa [toList_madeCells_one, ← rowK_start] at this

theorem row_string {w : World} {base g K : Nat} (h : w.ownsRow base 5 1 (.slice (some ⟨g, 0, none⟩) K K) K (rowK K K)) :
    (convert 24 9 (.slice (some ⟨g, 0, none⟩) K K)).run Tryz.prog w = .ok (.string ⟨(List.replicate K (10 : UInt8)).toArray⟩) w := by
  have := run_convert_bytes_back (P := Tryz.prog) w 24 9 5 ⟨g, 0, none⟩ K (List.replicate K (10 : UInt8)) Tryz.underlying24 Tryz.underlying5 Tryz.underlying9 (fun j hj => by
    simp only [List.length_replicate] at hj
    have e : (⟨g, 0, none⟩ : Addr).add j = ⟨g, j, none⟩ := by rw [Addr.add_lit, Nat.zero_add]
    rw [e, h.cellAt j (by omega), rowK_done]
    simp [hj])
  rwa [List.length_replicate] at this

set_option maxRecDepth 100000 in
set_option maxHeartbeats 6400000 in
theorem scriptLong_any (a b : Int) (w : World) (E : Env w) :
    Calls Tryz.prog 8 #[.int .i64 a, .int .i64 b] w fun e w' => e = .returned (.bool true) ∧ Newer w w' := by
  obtain ⟨i0, hi, hz0, hz1, hz2⟩ := info_parts Tryz.info29
  have HE := Lib.hid E
  clear E
  by_cases hr : (-1 ≤ a ∧ a ≤ 1) ∧ (-1 ≤ b ∧ b ≤ 1)
  · obtain ⟨⟨a1, a2⟩, b1, b2⟩ := hr
    obtain ⟨K, hK⟩ : ∃ K : Nat, 65536 + a = (K : Int) := ⟨(65536 + a).toNat, by omega⟩
    obtain ⟨M, hM⟩ : ∃ M : Nat, 2000 + b = (M : Int) := ⟨(2000 + b).toNat, by omega⟩
    have hK1 : K ≤ 65537 := by omega
    have hM1 : 1999 ≤ M ∧ M ≤ 2001 := by omega
    have hKA : decide (0 < a) = decide (65536 < K) := by congr 1; exact propext ⟨fun h => by omega, fun h => by omega⟩
    have hMB : decide (0 < b) = decide (2000 < M) := by congr 1; exact propext ⟨fun h => by omega, fun h => by omega⟩
    have HA := Lib.hid hKA
    have HB := Lib.hid hMB
    clear hKA hMB
    have f1 : decide (a < -1) = false := by simp; omega
    have f2 : decide (1 < a) = false := by simp; omega
    have f3 : decide (b < -1) = false := by simp; omega
    have f4 : decide (1 < b) = false := by simp; omega
    have hmk := fun W => Tryz.make24 K hK1 W
    have HM := Lib.hid hM1
    go_enter Tryz.func8, Tryz.ntmps8
    go_wp2_with fail
    obtain ⟨g, hg⟩ : ∃ g, w.heap.size = g := ⟨_, rfl⟩
    have hrow := made_row w g K hg hK1
    rw [hg]
    obtain ⟨w1, hw1⟩ : ∃ w1, w.alloc (.cells (madeCells #[.int .u8 0] K) 5) = w1 := ⟨_, rfl⟩
    have n1 : Newer w w1 := hw1 ▸ Newer.alloc _ _
    rw [hw1] at hrow ⊢
    have HG := Lib.hid hg
    have HR := Lib.hid hrow
    have HN1 := Lib.hid n1
    clear hw1 hrow n1 hg hmk
    go_loopw [6] (fun i wr => ∃ (j : Nat), j ≤ K ∧ i = .int .i64 j ∧ wr.ownsRow g 5 1 (.slice (some ⟨g, 0, none⟩) K K) K (rowK j K) ∧ Newer w wr) (fun i _ => K - (intOf i).toNat)
    case atStart => exact ⟨0, Nat.zero_le _, rfl, HR.out, HN1.out⟩
    case round =>
      obtain ⟨j, hj, rfl, hro, hw⟩ := hrel
      have HRO := Lib.hid hro
      have HW := Lib.hid hw
      clear hro hw
      by_cases hlt : j < K
      · have c0 : wr.cell? ⟨g, j, none⟩ = some (.int .u8 0) := by rw [HRO.out.cellAt j (by omega), rowK_at hlt]
        have z0 : wr.frozen? ⟨g, j, none⟩ = false := HRO.out.frozenAt j
        have HNX : Hid ((wr.setCell ⟨g, j, none⟩ (.int .u8 10)).ownsRow g 5 1 (.slice (some ⟨g, 0, none⟩) K K) K (rowK (j + 1) K) ∧ Newer w (wr.setCell ⟨g, j, none⟩ (.int .u8 10))) := Lib.hid (by
          have := HRO.out.stored j (.int .u8 10)
          rw [rowK_next hlt] at this
          exact ⟨this.1, HW.out.grownAt this.2 (by rw [HG.out]; exact Nat.le_refl _)⟩)
        go_wp2_with fail
        go_roundw
        case rel => exact ⟨j + 1, by omega, by go_num, HNX.out.1, HNX.out.2⟩
        case measure => simp [intOf]; omega
      · have hjK : j = K := by omega
        subst hjK
        have cv := row_string HRO.out
        go_wp2_with fail
        refine (read_any (List.replicate j 10) (by simp; omega) _ (HE.out.newer HW.out)).mono ?_
        rintro e w2 ⟨v7, rfl, sl7, n2⟩
        obtain ⟨e9, he9⟩ : ∃ e9 : Int, readE (List.replicate j 10) = ([], 0, e9) ∧ ((65536 < j ∧ e9 = 3) ∨ (¬ 65536 < j ∧ e9 = 0)) := by
          by_cases h : 65536 < j
          · exact ⟨3, lines_read_long j h, .inl ⟨h, rfl⟩⟩
          · exact ⟨0, lines_read j (by omega), .inr ⟨h, rfl⟩⟩
        obtain ⟨hre, he9⟩ := he9
        rw [hre] at sl7 ⊢
        obtain ⟨p7, c7, rfl, -⟩ := sl7
        have HN2 := Lib.hid (HW.out.trans n2)
        have H9 := Lib.hid he9
        clear n2 cv hre he9
        simp only [List.length_nil]
        go_wp2_with fail
        go_loopw [10, 11] (fun v i wr => ∃ (k : Nat) (rs : List (ActL × Value × Value)), k ≤ M ∧ i = .int .i64 k ∧ Acts w.heap.size wr v rs ∧ rs.map (·.1) = evs k ∧ Newer w wr) (fun _ i _ => M - (intOf i).toNat)
        case atStart => exact ⟨0, [], Nat.zero_le _, rfl, Acts.nil _ _, rfl, HN2.out⟩
        case round =>
          obtain ⟨k, rs, hk, rfl, hA, hrs, hw⟩ := hrel
          obtain ⟨p, cap, rfl⟩ := ownsRow_slice hA.row
          have hL : rs.length = k := by have := congrArg List.length hrs; rwa [List.length_map, evs_len] at this
          rw [hL]
          have hrow := hA.row
          rw [hL] at hrow hA
          have HAC := Lib.hid hA
          have HROW := Lib.hid hrow
          have HRS := Lib.hid hrs
          have HLEN := Lib.hid hL
          have HW2 := Lib.hid hw
          have hzw := hw.size
          clear hA hrow hrs hL hw
          by_cases hkM : k < M
          · obtain ⟨z, hz⟩ : ∃ z, evs (k + 1) = z := ⟨_, rfl⟩
            have HZ := Lib.hid hz
            clear hz
            have he : (ev k).n = (k : Int) := rfl
            go_wp2_with (at_builtin; refine wpList_append_own_at _ rfl _ _ 31 rfl w.heap.size 29 i0 (.agg #[.int .i64 0, .int .i64 0, .int .i64 0, .int .i64 0, .string ⟨#[]⟩, .string ⟨#[]⟩, .int .i64 0, .int .i64 0, .slice none 0 0, .slice none 0 0]) 10 128 Tryz.underlying31 hi hz0 hz1 hz2 rfl (by decide) _ _ _ rfl (HROW.out.alloc _) ⟨wr.heap.size, 0, none⟩ 1 1 (actCs (ev k, .slice none 0 0, .slice none 0 0)) rfl rfl (cells_new wr _ _ _ rfl) (actCs_one _ rfl rfl) (by unfold maxLen; omega) (by omega) (by simp; omega) ?_; intro v' W6 hown' hgrow _ hat)
            obtain ⟨p', cap', rfl⟩ := ownsRow_slice hown'
            have fin := ref_put HLEN.out hzw HAC.out (Newer.refl _) (Newer.alloc _ _) ⟨SliceB.nil _, Off.nil _⟩ ⟨SliceM.nil _, Off.nil _⟩ hown' hgrow hat
            have HF := Lib.hid fin
            clear fin hown' hgrow hat
            go_wp2_with fail
            go_roundw
            case rel => ((repeat apply Exists.intro); exact ⟨⟨k + 1, rs ++ [(ev k, .slice none 0 0, .slice none 0 0)], by omega, by go_num, HF.out.1, by rw [List.map_append, HRS.out, evs_succ]; rfl, Grow.trans HW2.out HF.out.2.2⟩, rfl⟩)
            case measure => first | (simp [intOf]; done) | (simp [intOf]; omega)
          · have hkM2 : k = M := by omega
            subst hkM2
            have HSA : Hid (SliceA wr (.slice p k cap) (evs k)) := Lib.hid (by have := HAC.out.slice; rwa [HRS.out] at this)
            have HFIT : Hid (∀ a ∈ evs k, Fit a) := Lib.hid (fun a ha => by
              obtain ⟨i, hi, rfl⟩ := evs_mem ha
              exact fit_ev i (by have := HM.out; omega))
            go_wp2_with fail
            refine (text_any (evs k) _ wr (HE.out.newer HW2.out) HSA.out HFIT.out (by rw [evs_len]; have := HM.out; omega)).mono ?_
            rintro e w3 ⟨rfl, n3⟩
            have HN3 := Lib.hid (HW2.out.trans n3)
            clear n3
            by_cases hk2 : 2000 < k
            · have fb : decide (0 < b) = true := by rw [HB.out]; simpa using hk2
              rw [evs_textE_long k hk2 (by have := HM.out; omega)]
              clear hk2
              go_wp2_with fail
              refine (read_any [] (by simp) _ (HE.out.newer HN3.out)).mono ?_
              rintro e w4 ⟨v4, rfl, sl4, n4⟩
              rw [no_read] at sl4 ⊢
              obtain ⟨p4, c4, rfl, -⟩ := sl4
              have HN4 := Lib.hid (HN3.out.trans n4)
              clear n4
              simp only [List.length_nil]
              rcases H9.out with ⟨h1, h2⟩ | ⟨h1, h2⟩
              · have fa : decide (0 < a) = true := by rw [HA.out]; simpa using h1
                subst h2
                clear h1
                go_wp2_with (go_at_call 14; refine (num_any _ _).mono ?_; rintro e w' ⟨rfl, rfl⟩)
                refine (works_any _ (HE.out.newer HN4.out)).mono ?_
                rintro e w10 ⟨rfl, n10⟩
                have HN10 := Lib.hid (HN4.out.trans n10)
                clear n10
                go_wp2_with fail
                go_ret
                exact ⟨rfl, HN10.out⟩
              · have fa : decide (0 < a) = false := by rw [HA.out]; simpa using h1
                subst h2
                clear h1
                go_wp2_with (go_at_call 14; refine (num_any _ _).mono ?_; rintro e w' ⟨rfl, rfl⟩)
                refine (works_any _ (HE.out.newer HN4.out)).mono ?_
                rintro e w10 ⟨rfl, n10⟩
                have HN10 := Lib.hid (HN4.out.trans n10)
                clear n10
                go_wp2_with fail
                go_ret
                exact ⟨rfl, HN10.out⟩
            · have fb : decide (0 < b) = false := by rw [HB.out]; simpa using hk2
              obtain ⟨t, ht, htl⟩ := evs_textE k (by omega)
              rw [ht]
              have HRE := Lib.hid (text_read ht)
              clear hk2 ht
              go_wp2_with fail
              refine (read_any t (by omega) _ (HE.out.newer HN3.out)).mono ?_
              rintro e w4 ⟨v4, rfl, sl4, n4⟩
              rw [HRE.out] at sl4 ⊢
              obtain ⟨p4, c4, rfl, -⟩ := sl4
              rw [evs_len]
              have HN4 := Lib.hid (HN3.out.trans n4)
              clear n4
              rcases H9.out with ⟨h1, h2⟩ | ⟨h1, h2⟩
              · have fa : decide (0 < a) = true := by rw [HA.out]; simpa using h1
                subst h2
                clear h1
                go_wp2_with (go_at_call 14; refine (num_any _ _).mono ?_; rintro e w' ⟨rfl, rfl⟩)
                refine (works_any _ (HE.out.newer HN4.out)).mono ?_
                rintro e w10 ⟨rfl, n10⟩
                have HN10 := Lib.hid (HN4.out.trans n10)
                clear n10
                go_wp2_with fail
                go_ret
                exact ⟨rfl, HN10.out⟩
              · have fa : decide (0 < a) = false := by rw [HA.out]; simpa using h1
                subst h2
                clear h1
                go_wp2_with (go_at_call 14; refine (num_any _ _).mono ?_; rintro e w' ⟨rfl, rfl⟩)
                refine (works_any _ (HE.out.newer HN4.out)).mono ?_
                rintro e w10 ⟨rfl, n10⟩
                have HN10 := Lib.hid (HN4.out.trans n10)
                clear n10
                go_wp2_with fail
                go_ret
                exact ⟨rfl, HN10.out⟩
  · go_enter Tryz.func8, Tryz.ntmps8
    have hr' : a < -1 ∨ (-1 ≤ a ∧ (1 < a ∨ (a ≤ 1 ∧ (b < -1 ∨ (-1 ≤ b ∧ 1 < b))))) := by omega
    clear hr
    rcases hr' with h | ⟨h0, h | ⟨h1, h | ⟨h2, h⟩⟩⟩
    · have f1 : decide (a < -1) = true := by simp; omega
      go_wp2_with fail
      refine (works_any _ HE.out).mono ?_
      rintro e w1 ⟨rfl, n1⟩
      have HN1 := Lib.hid n1
      clear n1
      go_wp2_with fail
      go_ret
      exact ⟨rfl, HN1.out⟩
    · have f1 : decide (a < -1) = false := by simp; omega
      have f2 : decide (1 < a) = true := by simp; omega
      go_wp2_with fail
      refine (works_any _ HE.out).mono ?_
      rintro e w1 ⟨rfl, n1⟩
      have HN1 := Lib.hid n1
      clear n1
      go_wp2_with fail
      go_ret
      exact ⟨rfl, HN1.out⟩
    · have f1 : decide (a < -1) = false := by simp; omega
      have f2 : decide (1 < a) = false := by simp; omega
      have f3 : decide (b < -1) = true := by simp; omega
      go_wp2_with fail
      refine (works_any _ HE.out).mono ?_
      rintro e w1 ⟨rfl, n1⟩
      have HN1 := Lib.hid n1
      clear n1
      go_wp2_with fail
      go_ret
      exact ⟨rfl, HN1.out⟩
    · have f1 : decide (a < -1) = false := by simp; omega
      have f2 : decide (1 < a) = false := by simp; omega
      have f3 : decide (b < -1) = false := by simp; omega
      have f4 : decide (1 < b) = true := by simp; omega
      go_wp2_with fail
      refine (works_any _ HE.out).mono ?_
      rintro e w1 ⟨rfl, n1⟩
      have HN1 := Lib.hid n1
      clear n1
      go_wp2_with fail
      go_ret
      exact ⟨rfl, HN1.out⟩

end Go.Proofs.YtgdaaafejfjilaaGreatDoor
