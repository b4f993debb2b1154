/- contracts of the reference's small functions: in, Verbs, digit, path, number, Digits -/
import Derived.Test.YtgdaaafejfjilaaGreatDoorW06
import Derived.Test.YtgdaaafejfjilaaGreatDoorW15
namespace Go.Proofs.YtgdaaafejfjilaaGreatDoor
open Go.RowKit
attribute [local go_sem] Oper.semAt_some undef

theorem in_yes (n : Int) (h0 : 0 ≤ n) (h1 : n ≤ 999999999) (w : World) : Calls Tryz.prog 27 #[.int .i64 n] w fun e w' => e = .returned (.bool true) ∧ w = w' := by
  go_enter Tryz.func27, Tryz.ntmps27
  go_wp2
  go_ret
  exact ⟨rfl, rfl⟩
theorem in_no (n : Int) (h : ¬ (0 ≤ n ∧ n ≤ 999999999)) (w : World) : Calls Tryz.prog 27 #[.int .i64 n] w fun e w' => e = .returned (.bool false) ∧ w = w' := by
  by_cases h0 : 0 ≤ n
  · have h1 : ¬ n ≤ 999999999 := fun hc => h ⟨h0, hc⟩
    have h2 : decide (n ≤ 999999999) = false := by simpa using h1
    clear h
    go_enter Tryz.func27, Tryz.ntmps27
    go_wp2
    go_ret
    exact ⟨rfl, rfl⟩
  · clear h
    have h2 : decide (0 ≤ n) = false := by simpa using h0
    go_enter Tryz.func27, Tryz.ntmps27
    go_wp2
    go_ret
    exact ⟨rfl, rfl⟩

theorem asks_any (k : Int) (w : World) : Calls Tryz.prog 35 #[.int .i64 k] w fun e w' => e = .returned (.bool (decide (1 ≤ k ∧ k ≤ 3))) ∧ w = w' := by
  by_cases h0 : 1 ≤ k
  · by_cases h1 : k ≤ 3
    · have e : decide (1 ≤ k ∧ k ≤ 3) = true := by simp; omega
      rw [e]
      clear e
      go_enter Tryz.func35, Tryz.ntmps35
      go_wp2
      go_ret
      exact ⟨rfl, rfl⟩
    · have e : decide (1 ≤ k ∧ k ≤ 3) = false := by simp; omega
      rw [e]
      clear e
      have h2 : decide (k ≤ 3) = false := by simpa using h1
      go_enter Tryz.func35, Tryz.ntmps35
      go_wp2
      go_ret
      exact ⟨rfl, rfl⟩
  · have e : decide (1 ≤ k ∧ k ≤ 3) = false := by simp; omega
    rw [e]
    clear e
    have h2 : decide (1 ≤ k) = false := by simpa using h0
    go_enter Tryz.func35, Tryz.ntmps35
    go_wp2
    go_ret
    exact ⟨rfl, rfl⟩

theorem opL_other {k : Int} (h : ¬ (1 ≤ k ∧ k ≤ 11)) : opL k = ([], []) := by
  unfold opL
  repeat rw [if_neg (by omega)]

set_option maxHeartbeats 1600000 in
theorem refVerbs_any (k : Int) (w : World) : Calls Tryz.prog 54 #[.int .i64 k] w fun e w' => e = .returned (.tuple #[.string ⟨(opL k).1.toArray⟩, .string ⟨(opL k).2.toArray⟩]) ∧ w = w' := by
  by_cases h : 1 ≤ k ∧ k ≤ 11
  · rcases int11 h with rfl | rfl | rfl | rfl | rfl | rfl | rfl | rfl | rfl | rfl | rfl
    all_goals
      clear h
      go_enter Tryz.func54, Tryz.ntmps54
      go_wp2
      go_ret2
      exact ⟨rfl, rfl⟩
  · rw [opL_other h]
    have e1 : (k == 1) = false := by simp; omega
    have e2 : (k == 2) = false := by simp; omega
    have e3 : (k == 3) = false := by simp; omega
    have e4 : (k == 4) = false := by simp; omega
    have e5 : (k == 5) = false := by simp; omega
    have e6 : (k == 6) = false := by simp; omega
    have e7 : (k == 7) = false := by simp; omega
    have e8 : (k == 8) = false := by simp; omega
    have e9 : (k == 9) = false := by simp; omega
    have e10 : (k == 10) = false := by simp; omega
    have e11 : (k == 11) = false := by simp; omega
    clear h
    go_enter Tryz.func54, Tryz.ntmps54
    go_wp2
    go_ret2
    exact ⟨rfl, rfl⟩

end Go.Proofs.YtgdaaafejfjilaaGreatDoor

/- contracts of the reference's digit, path, number -/
namespace Go.Proofs.YtgdaaafejfjilaaGreatDoor
open Go.RowKit
attribute [local go_sem] Oper.semAt_some undef

def firstB (x : UInt8) : Bool := match halfL x with
  | some k => decide (k < 16) && (digitsL[k]? == some x) && (List.range k).all (fun i => !(digitsL[i]? == some x))
  | none => (List.range 16).all (fun i => !(digitsL[i]? == some x))
theorem first_all : ∀ x : Fin 256, firstB (UInt8.ofNat x.val) = true := by decide +kernel
theorem digits_other {i : Nat} {c : UInt8} (hi : i < 16) (h : (!(digitsL[i]? == some c)) = true) : ∃ d, digitsL[i]? = some d ∧ ((d.toNat : Int) == (c.toNat : Int)) = false := by
  have hl : i < digitsL.length := hi
  refine ⟨_, List.getElem?_eq_getElem hl, ?_⟩
  rw [List.getElem?_eq_getElem hl] at h
  simp only [Option.some_beq_some, Bool.not_eq_true', beq_eq_false_iff_ne, ne_eq] at h
  simp only [beq_eq_false_iff_ne, ne_eq]
  exact fun e => h (UInt8.toNat_inj.1 (by omega))
theorem half_first (c : UInt8) : match halfL c with
    | some k => k < 16 ∧ (∃ d, digitsL[k]? = some d ∧ ((d.toNat : Int) == (c.toNat : Int)) = true) ∧ ∀ i, i < k → ∃ d, digitsL[i]? = some d ∧ ((d.toNat : Int) == (c.toNat : Int)) = false
    | none => ∀ i, i < 16 → ∃ d, digitsL[i]? = some d ∧ ((d.toNat : Int) == (c.toNat : Int)) = false := by
  have h := first_all ⟨c.toNat, c.toNat_lt⟩
  have e : UInt8.ofNat c.toNat = c := UInt8.ofNat_toNat
  simp only [e] at h
  unfold firstB at h
  split at h
  · rename_i k hk
    simp only [Bool.and_eq_true, decide_eq_true_eq, List.all_eq_true, List.mem_range, beq_iff_eq] at h
    obtain ⟨⟨h1, h2⟩, h3⟩ := h
    exact ⟨h1, ⟨c, h2, by simp⟩, fun i hi => digits_other (by omega) (h3 i hi)⟩
  · rename_i hk
    simp only [List.all_eq_true, List.mem_range] at h
    exact fun i hi => digits_other hi (h i hi)

set_option maxRecDepth 100000 in
theorem refDigit_some (c : UInt8) (k : Nat) (h : halfL c = some k) (w : World) : Calls Tryz.prog 78 #[.int .u8 c.toNat] w fun e w' => e = .returned (.int .i64 k) ∧ w = w' := by
  have hf := half_first c
  rw [h] at hf
  obtain ⟨hk, he, hn⟩ := hf
  have HE := Lib.hid he
  have HN := Lib.hid hn
  clear h he hn
  go_enter Tryz.func78, Tryz.ntmps78
  go_wp2
  go_loop [3] (fun i => ∃ j : Nat, j ≤ k ∧ i = .int .i64 j) (fun i => k - (intOf i).toNat)
  case atStart => exact ⟨0, Nat.zero_le _, rfl⟩
  case round =>
    obtain ⟨j, hj, rfl⟩ := hrel
    by_cases hlt : j < k
    · obtain ⟨d, h1, h2⟩ := HN.out j hlt
      have ix := index_str digitsL j (j : Int) d rfl h1 w
      unfold digitsL at ix
      clear h1
      go_wp2
      go_round
      case rel => exact ⟨j + 1, by omega, by go_num⟩
      case measure => simp [intOf]; omega
    · obtain rfl : j = k := by omega
      obtain ⟨d, h1, h2⟩ := HE.out
      have ix := index_str digitsL j (j : Int) d rfl h1 w
      unfold digitsL at ix
      clear h1 hlt
      go_wp2
      go_ret
      exact ⟨rfl, rfl⟩

set_option maxRecDepth 100000 in
theorem refDigit_none (c : UInt8) (h : halfL c = none) (w : World) : Calls Tryz.prog 78 #[.int .u8 c.toNat] w fun e w' => e = .returned (.int .i64 (-1)) ∧ w = w' := by
  have hf := half_first c
  rw [h] at hf
  have HN := Lib.hid hf
  clear h hf
  go_enter Tryz.func78, Tryz.ntmps78
  go_wp2
  go_loop [3] (fun i => ∃ j : Nat, j ≤ 16 ∧ i = .int .i64 j) (fun i => 16 - (intOf i).toNat)
  case atStart => exact ⟨0, Nat.zero_le _, rfl⟩
  case round =>
    obtain ⟨j, hj, rfl⟩ := hrel
    by_cases hlt : j < 16
    · obtain ⟨d, h1, h2⟩ := HN.out j hlt
      have ix := index_str digitsL j (j : Int) d rfl h1 w
      unfold digitsL at ix
      clear h1
      go_wp2
      go_round
      case rel => exact ⟨j + 1, by omega, by go_num⟩
      case measure => simp [intOf]; omega
    · go_wp2
      go_ret
      exact ⟨rfl, rfl⟩

theorem ret_bool {a b : Bool} (h : a = b) : Ending.returned (.bool a) = .returned (.bool b) := by rw [h]
/-- may a word be a path's -/
def refPathL (s : Bs) : Bool := decide ((1 ≤ s.length ∧ s.length ≤ 300) ∧ ∀ c ∈ s, c ≠ 32 ∧ c ≠ 10)

set_option maxRecDepth 100000 in
theorem refPath_any (s : Bs) (hs : s.length ≤ 100000) (w : World) : Calls Tryz.prog 55 #[.string ⟨s.toArray⟩] w fun e w' => e = .returned (.bool (refPathL s)) ∧ w = w' := by
  obtain ⟨n, hn⟩ : ∃ n, s.length = n := ⟨_, rfl⟩
  have hsz : (ByteArray.mk s.toArray).size = n := by show s.toArray.size = n; simp [hn]
  have HN := Lib.hid hn
  rw [hn] at hs
  clear hn
  go_enter Tryz.func55, Tryz.ntmps55
  go_wp2
  go_loop [3] (fun i => ∃ j : Nat, j ≤ n ∧ i = .int .i64 j ∧ ∀ i (h : i < s.length), i < j → s[i] ≠ 32 ∧ s[i] ≠ 10) (fun i => n - (intOf i).toNat)
  case atStart => exact ⟨0, Nat.zero_le _, rfl, fun i h hi => absurd hi (Nat.not_lt_zero _)⟩
  case round =>
    obtain ⟨j, hj, rfl, hp⟩ := hrel
    have HP := Lib.hid hp
    clear hp
    by_cases hlt : j < n
    · obtain ⟨c, hc⟩ : ∃ c, s[j]'(by rw [HN.out]; exact hlt) = c := ⟨_, rfl⟩
      have h1 : s[j]? = some c := by rw [List.getElem?_eq_getElem (by rw [HN.out]; exact hlt), hc]
      have ix := index_str s j (j : Int) c rfl h1 w
      have HC := Lib.hid hc
      clear h1 hc
      have HB : Hid ((c = 32 ∨ c = 10) → refPathL s = false) := Lib.hid (fun h => by
        unfold refPathL
        simp only [decide_eq_false_iff_not, not_and]
        intro _ hall
        have := hall c (by rw [← HC.out]; exact List.getElem_mem _)
        rcases h with h | h
        · exact this.1 h
        · exact this.2 h)
      by_cases h32 : c = 32
      · have HF := Lib.hid (HB.out (.inl h32))
        subst h32
        clear HB
        go_wp2
        go_ret
        exact ⟨ret_bool HF.out.symm, rfl⟩
      · have t32 : ((c.toNat : Int) == 32) = false := by
          simp only [beq_eq_false_iff_ne, ne_eq]
          intro e
          exact h32 (UInt8.toNat_inj.1 (by have : (32 : UInt8).toNat = 32 := rfl; omega))
        have H32 := Lib.hid h32
        clear h32
        by_cases h10 : c = 10
        · have HF := Lib.hid (HB.out (.inr h10))
          subst h10
          clear HB t32
          go_wp2
          go_ret
          exact ⟨ret_bool HF.out.symm, rfl⟩
        · have t10 : ((c.toNat : Int) == 10) = false := by
            simp only [beq_eq_false_iff_ne, ne_eq]
            intro e
            exact h10 (UInt8.toNat_inj.1 (by have : (10 : UInt8).toNat = 10 := rfl; omega))
          have H10 := Lib.hid h10
          clear h10 HB
          go_wp2
          go_round
          case rel =>
            refine ⟨j + 1, by omega, by go_num, fun i h hi => ?_⟩
            by_cases e : i = j
            · subst e; rw [HC.out]; exact ⟨H32.out, H10.out⟩
            · exact HP.out i h (by omega)
          case measure => simp [intOf]; omega
    · have hall : ∀ c ∈ s, c ≠ 32 ∧ c ≠ 10 := fun c hc => by
        obtain ⟨i, hi, rfl⟩ := List.mem_iff_getElem.1 hc
        exact HP.out i hi (by have := HN.out; omega)
      have hb : refPathL s = decide (1 ≤ n ∧ n ≤ 300) := by
        unfold refPathL
        rw [HN.out]
        congr 1
        exact propext ⟨fun h => h.1, fun h => ⟨h, hall⟩⟩
      have HF := Lib.hid hb
      clear hb hall
      by_cases h1 : 1 ≤ n
      · by_cases h3 : n ≤ 300
        · have e : decide (1 ≤ n ∧ n ≤ 300) = true := by simp; omega
          have HG := Lib.hid (HF.out.trans e)
          have e3 : decide ((n : Int) ≤ 300) = true := by simp; omega
          clear e
          go_wp2
          go_ret
          exact ⟨ret_bool HG.out.symm, rfl⟩
        · have e : decide (1 ≤ n ∧ n ≤ 300) = false := by simp; omega
          have HG := Lib.hid (HF.out.trans e)
          have e3 : decide ((n : Int) ≤ 300) = false := by simp; omega
          clear e
          go_wp2
          go_ret
          exact ⟨ret_bool HG.out.symm, rfl⟩
      · have e : decide (1 ≤ n ∧ n ≤ 300) = false := by simp; omega
        have HG := Lib.hid (HF.out.trans e)
        have e3 : decide (1 ≤ (n : Int)) = false := by simp; omega
        clear e
        go_wp2
        go_ret
        exact ⟨ret_bool HG.out.symm, rfl⟩

def numW (s : Bs) : Int := (numL s).getD 0
def numOk (s : Bs) : Bool := (numL s).isSome
theorem num_no {s : Bs} (h : s.length < 1 ∨ 9 < s.length ∨ (1 < s.length ∧ s.head? = some 48) ∨ ¬ ∀ c ∈ s, isDig c) : numW s = 0 ∧ numOk s = false := by
  unfold numW numOk
  rw [← numR_eq, numR, if_pos h]
  exact ⟨rfl, rfl⟩
theorem num_yes {s : Bs} (h : ¬ (s.length < 1 ∨ 9 < s.length ∨ (1 < s.length ∧ s.head? = some 48) ∨ ¬ ∀ c ∈ s, isDig c)) : numW s = valL s ∧ numOk s = true := by
  unfold numW numOk
  rw [← numR_eq, numR, if_neg h]
  exact ⟨rfl, rfl⟩
theorem ret_num {a b : Int} {c d : Bool} (h : a = b ∧ c = d) : Ending.returned (.tuple #[.int .i64 a, .bool c]) = .returned (.tuple #[.int .i64 b, .bool d]) := by rw [h.1, h.2]

set_option maxRecDepth 100000 in
set_option maxHeartbeats 800000 in
theorem refNumber_loop (s : Bs) (hl : 1 ≤ s.length ∧ s.length ≤ 9) (hh : 1 < s.length → s.head? ≠ some 48) (w : World) : Calls Tryz.prog 37 #[.string ⟨s.toArray⟩] w fun e w' => e = .returned (.tuple #[.int .i64 (numW s), .bool (numOk s)]) ∧ w = w' := by
  obtain ⟨n, hn⟩ : ∃ n, s.length = n := ⟨_, rfl⟩
  have hsz : (ByteArray.mk s.toArray).size = n := by show s.toArray.size = n; simp [hn]
  have hl1 := hl.1
  have hl2 := hl.2
  rw [hn] at hl1 hl2
  obtain ⟨c0, r0, rfl⟩ : ∃ c r, s = c :: r := by
    cases s with
    | nil => simp at hn; omega
    | cons c r => exact ⟨_, _, rfl⟩
  have HS := Lib.hid (And.intro hl hh)
  have ix0 := index_str (c0 :: r0) 0 0 c0 rfl rfl w
  obtain ⟨s, hs⟩ : ∃ s, c0 :: r0 = s := ⟨_, rfl⟩
  have hc48 : 1 < n → ((c0.toNat : Int) == 48) = false := fun h => by
    have := hh (by omega)
    simp only [List.head?_cons, ne_eq, Option.some.injEq] at this
    simp only [beq_eq_false_iff_ne, ne_eq]
    exact fun e => this (UInt8.toNat_inj.1 (by have : (48 : UInt8).toNat = 48 := rfl; omega))
  rw [hs] at ix0 hn hsz HS ⊢
  have HN := Lib.hid hn
  clear hn hh hs hl
  by_cases h1 : 1 < n
  all_goals
    have hc := hc48
    clear hc48
    try (have hq := hc h1)
    clear hc
    go_enter Tryz.func37, Tryz.ntmps37
    go_wp2
    clear ix0
    try clear hq
    go_loop [4, 5] (fun v i => ∃ j : Nat, j ≤ n ∧ i = .int .i64 j ∧ v = .int .i64 (valF 0 (s.take j) : Nat) ∧ ∀ c ∈ s.take j, isDig c) (fun _ i => n - (intOf i).toNat)
    case atStart => exact ⟨0, Nat.zero_le _, rfl, rfl, fun c hc => by simp at hc⟩
    case round =>
      obtain ⟨j, hj, rfl, rfl, hp⟩ := hrel
      have hv := valF_lt (s.take j) 0 hp
      have hjl : (s.take j).length ≤ 9 := by have := HN.out; simp; omega
      have hv9 : valF 0 (s.take j) < 1000000000 := by
        have : 10 ^ (s.take j).length ≤ 10 ^ 9 := Nat.pow_le_pow_right (by omega) hjl
        omega
      clear hv hjl
      have HP := Lib.hid hp
      clear hp
      by_cases hlt : j < n
      · obtain ⟨c, hc⟩ : ∃ c, s[j]'(by rw [HN.out]; exact hlt) = c := ⟨_, rfl⟩
        have hi : s[j]? = some c := by rw [List.getElem?_eq_getElem (by rw [HN.out]; exact hlt), hc]
        have ix := index_str s j (j : Int) c rfl hi w
        have HT : Hid (s.take (j + 1) = s.take j ++ [c]) := Lib.hid (by rw [List.take_succ_eq_append_getElem (by rw [HN.out]; exact hlt), hc])
        have HM : Hid (c ∈ s) := Lib.hid (hc ▸ List.getElem_mem _)
        clear hi hc
        by_cases hd : isDig c
        · have HD := Lib.hid hd
          unfold isDig at hd
          have hd1 : (48 : Int) ≤ (c.toNat : Int) := by omega
          have hd2 : (c.toNat : Int) ≤ 57 := by omega
          have HV : Hid (((valF 0 (s.take (j + 1)) : Nat) : Int) = 10 * ((valF 0 (s.take j) : Nat) : Int) + ((c.toNat : Int) - 48)) := Lib.hid (by rw [HT.out, valF_snoc]; omega)
          clear hd
          generalize valF 0 (s.take j) = u at *
          have hv9' : (u : Int) ≤ 1000000000 := by omega
          have hv0 : 0 ≤ (u : Int) := by omega
          go_wp2
          go_round
          case rel => exact ⟨j + 1, by omega, by go_num, by rw [HV.out], fun x hx => by
            rw [HT.out] at hx
            rcases List.mem_append.1 hx with hx | hx
            · exact HP.out x hx
            · rw [List.mem_singleton.1 hx]; exact HD.out⟩
          case measure => simp [intOf]; omega
        · have HF := Lib.hid (num_no (s := s) (.inr (.inr (.inr (fun hall => hd (hall c HM.out))))))
          unfold isDig at hd
          by_cases hd1 : (c.toNat : Int) < 48
          · clear hd
            go_wp2
            go_ret2
            exact ⟨ret_num ⟨HF.out.1.symm, HF.out.2.symm⟩, rfl⟩
          · have hd2 : 57 < (c.toNat : Int) := by omega
            clear hd
            go_wp2
            go_ret2
            exact ⟨ret_num ⟨HF.out.1.symm, HF.out.2.symm⟩, rfl⟩
      · have HE : Hid (s.take j = s) := Lib.hid (List.take_of_length_le (by rw [HN.out]; omega))
        have HY := Lib.hid (num_yes (s := s) (by
          have := HS.out
          have hp := HP.out
          rw [HE.out] at hp
          rintro (h | h | ⟨h, h'⟩ | h)
          · omega
          · omega
          · exact this.2 h h'
          · exact h hp))
        generalize hu : valF 0 (s.take j) = u at *
        have HU : Hid (valL s = u) := Lib.hid (by rw [← hu, HE.out]; rfl)
        clear hu
        go_wp2
        go_ret2
        exact ⟨ret_num ⟨by rw [HY.out.1, HU.out], HY.out.2.symm⟩, rfl⟩

set_option maxRecDepth 100000 in
set_option maxHeartbeats 800000 in
theorem refNumber_any (s : Bs) (hs : s.length ≤ 100000) (w : World) : Calls Tryz.prog 37 #[.string ⟨s.toArray⟩] w fun e w' => e = .returned (.tuple #[.int .i64 (numW s), .bool (numOk s)]) ∧ w = w' := by
  by_cases h : 1 ≤ s.length ∧ s.length ≤ 9
  · by_cases hh : 1 < s.length ∧ s.head? = some 48
    · have HF := Lib.hid (num_no (s := s) (.inr (.inr (.inl hh))))
      obtain ⟨r, rfl⟩ : ∃ r, s = 48 :: r := by
        cases s with
        | nil => simp at hh
        | cons c r => simp only [List.head?_cons, Option.some.injEq] at hh; exact ⟨r, by rw [hh.2]⟩
      obtain ⟨n, hn⟩ : ∃ n, ((48 : UInt8) :: r).length = n := ⟨_, rfl⟩
      have hsz : (ByteArray.mk ((48 : UInt8) :: r).toArray).size = n := by show ((48 : UInt8) :: r).toArray.size = n; simp [← hn]
      have ix0 := index_str (48 :: r) 0 0 48 rfl rfl w
      obtain ⟨s, hs'⟩ : ∃ s, (48 : UInt8) :: r = s := ⟨_, rfl⟩
      rw [hs'] at ix0 hn hsz HF hh h ⊢
      have h1 : 1 < n := by omega
      have h9 : n ≤ 9 := by omega
      clear hh h hs hn hs'
      go_enter Tryz.func37, Tryz.ntmps37
      go_wp2
      go_ret2
      exact ⟨ret_num ⟨HF.out.1.symm, HF.out.2.symm⟩, rfl⟩
    · exact refNumber_loop s h (fun h1 h2 => hh ⟨h1, h2⟩) w
  · have HF := Lib.hid (num_no (s := s) (by omega))
    obtain ⟨n, hn⟩ : ∃ n, s.length = n := ⟨_, rfl⟩
    have hsz : (ByteArray.mk s.toArray).size = n := by show s.toArray.size = n; simp [hn]
    rw [hn] at h hs
    clear hn
    by_cases h0 : n < 1
    · clear h
      go_enter Tryz.func37, Tryz.ntmps37
      go_wp2
      go_ret2
      exact ⟨ret_num ⟨HF.out.1.symm, HF.out.2.symm⟩, rfl⟩
    · have h9 : 9 < n := by omega
      clear h
      go_enter Tryz.func37, Tryz.ntmps37
      go_wp2
      go_ret2
      exact ⟨ret_num ⟨HF.out.1.symm, HF.out.2.symm⟩, rfl⟩

end Go.Proofs.YtgdaaafejfjilaaGreatDoor

/- contracts of the reference's Digits -/
namespace Go.Proofs.YtgdaaafejfjilaaGreatDoor
open Go.RowKit
attribute [local go_sem] Oper.semAt_some undef

theorem cat_str2 (a b : Bs) : (⟨a.toArray⟩ : ByteArray) ++ ⟨b.toArray⟩ = ⟨(a ++ b).toArray⟩ := by
  apply ByteArray.ext
  simp

theorem ret_str {a b : Bs} (h : a = b) : Ending.returned (.string ⟨a.toArray⟩) = .returned (.string ⟨b.toArray⟩) := by rw [h]

set_option maxRecDepth 100000 in
set_option maxHeartbeats 800000 in
theorem refDigits_any (n : Nat) (hn : n ≤ 999999999) (w : World) : Calls Tryz.prog 45 #[.int .i64 n] w fun e w' => e = .returned (.string ⟨(Lib.decDigits n).toArray⟩) ∧ Newer w w' := by
  have HL : Hid ((Lib.decDigits n).length ≤ 9) := Lib.hid (by
    have := (itoa_len9 (v := (n : Int)) (by omega)).1
    rw [itoa_nonneg (by omega)] at this
    simpa using this)
  go_enter Tryz.func45, Tryz.ntmps45
  go_wp2
  go_loopw [0, 3] (fun a s wr => ∃ (k : Nat) (t : Bs), a = .int .i64 k ∧ s = .string ⟨t.toArray⟩ ∧ k ≤ n ∧ Lib.decDigits n = Lib.decDigits k ++ t ∧ Newer w wr) (fun a _ _ => (intOf a).toNat)
  case atStart => exact ⟨n, [], rfl, rfl, Nat.le_refl _, by simp, Newer.refl _⟩
  case round =>
    obtain ⟨k, t, rfl, rfl, hk, hd, hw⟩ := hrel
    have ht : t.length ≤ 9 := by have := HL.out; rw [hd, List.length_append] at this; omega
    have HD := Lib.hid hd
    have HW := Lib.hid hw
    clear hd hw
    obtain ⟨d, hdv⟩ : ∃ d : Nat, k % 10 = d := ⟨_, rfl⟩
    have hd10 : d < 10 := by omega
    have e1 : (k : Int) % 10 = (d : Int) := by omega
    have hk0 : 0 ≤ (k : Int) := by omega
    have hk9 : (k : Int) ≤ 999999999 := by omega
    obtain ⟨q, hq⟩ : ∃ q : Nat, k / 10 = q := ⟨_, rfl⟩
    have e2 : (k : Int) / 10 = (q : Int) := by omega
    obtain ⟨c, hc⟩ : ∃ c, UInt8.ofNat (48 + d) = c := ⟨_, rfl⟩
    have hct : (c.toNat : Int) = 48 + (d : Int) := by rw [← hc, dig_toNat hd10]; omega
    have cv : (convert 24 9 (.slice (some ⟨wr.heap.size, 0, none⟩) 1 1)).run Tryz.prog (wr.alloc (.cells #[.int .u8 (48 + (d : Int))] 5)) = .ok (.string ⟨#[c]⟩) (wr.alloc (.cells #[.int .u8 (48 + (d : Int))] 5)) :=
      run_convert_bytes_back _ 24 9 5 ⟨wr.heap.size, 0, none⟩ 1 [c] Tryz.underlying24 Tryz.underlying5 Tryz.underlying9 (fun j hj => by
        match j, hj with
        | 0, _ => simp [go_sem, hct])
    obtain ⟨ct, hcc⟩ : ∃ ct, c :: t = ct := ⟨_, rfl⟩
    have hcat : (⟨#[c]⟩ : ByteArray) ++ ⟨t.toArray⟩ = ⟨ct.toArray⟩ := by rw [← hcc]; exact cat_str2 [c] t
    have ha7 : ¬ 9223372036854775807 < 1 + t.length := by omega
    by_cases h10 : k < 10
    · have hq0 : q = 0 := by omega
      have HE : Hid (ct = Lib.decDigits n) := Lib.hid (by rw [HD.out, ← hcc, dec_small h10, ← hc, ← hdv, Nat.mod_eq_of_lt h10]; rfl)
      subst hq0
      clear hcc hc hct hdv hq
      go_wp2
      go_ret
      exact ⟨ret_str HE.out, HW.out.trans (Newer.alloc _ _)⟩
    · have hq0 : ((q : Int) == 0) = false := by simp; omega
      have HE : Hid (Lib.decDigits n = Lib.decDigits q ++ ct) := Lib.hid (by rw [HD.out, ← hcc, dec_big h10, ← hc, ← hdv, hq, List.append_assoc]; rfl)
      have hqk : q < k := by omega
      clear hcc hc hct hdv hq
      go_wp2
      go_roundw
      case rel => exact ⟨q, ct, rfl, rfl, by omega, HE.out, HW.out.trans (Newer.alloc _ _)⟩
      case measure => simp [intOf]; omega

end Go.Proofs.YtgdaaafejfjilaaGreatDoor
