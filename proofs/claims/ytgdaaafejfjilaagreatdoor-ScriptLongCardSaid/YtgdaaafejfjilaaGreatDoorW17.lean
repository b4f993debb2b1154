/- contracts: slices.Equal of bytes, of marks -/
import Derived.Test.YtgdaaafejfjilaaGreatDoorW16
import Derived.Test.YtgdaaafejfjilaaGreatDoorW07
import Derived.Deep.QuietTactic
import Derived.BigQuiet
namespace Go.Proofs.YtgdaaafejfjilaaGreatDoor
open Go.RowKit
attribute [local go_sem] Oper.semAt_some undef

set_option maxRecDepth 100000 in
set_option maxHeartbeats 800000 in
theorem eqB_any (u v : Value) (a b : Bs) (w : World) (ha : SliceB w u a) (hb : SliceB w v b) (hla : a.length ≤ 100000000) (hlb : b.length ≤ 100000000) :
    Calls Tryz.prog 34 #[u, v] w fun e w' => e = .returned (.bool (a == b)) ∧ ∃ n, w' = w.drewN n := by
  obtain ⟨p, cp, rfl, hp⟩ := ha
  obtain ⟨q, cq, rfl, hq⟩ := hb
  obtain ⟨n, hn⟩ : ∃ n, a.length = n := ⟨_, rfl⟩
  obtain ⟨m, hm⟩ : ∃ m, b.length = m := ⟨_, rfl⟩
  rw [hn] at hla ⊢
  rw [hm] at hlb ⊢
  have HA := Lib.hid (And.intro hn hp)
  have HB := Lib.hid (And.intro hm hq)
  clear hp hq
  by_cases hnm : n = m
  · subst hnm
    clear hn hm
    go_enter Tryz.func34, Tryz.ntmps34
    go_wp2
    go_loopw [5, 13] (fun _ i wr => ∃ j k : Nat, j ≤ n ∧ i = .int .i64 j ∧ wr = w.drewN k ∧ a.take j = b.take j) (fun _ i _ => n - (intOf i).toNat)
    case atStart => exact ⟨0, 0, Nat.zero_le _, rfl, rfl, rfl⟩
    case round =>
      obtain ⟨j, k, hj, rfl, rfl, he⟩ := hrel
      have HE := Lib.hid he
      clear he
      by_cases hlt : j < n
      · obtain ⟨A, rfl, c1⟩ := HA.out.2 j (by rw [HA.out.1]; exact hlt)
        obtain ⟨B, rfl, c2⟩ := HB.out.2 j (by rw [HB.out.1]; exact hlt)
        obtain ⟨x, hx⟩ : ∃ x, a[j]'(by rw [HA.out.1]; exact hlt) = x := ⟨_, rfl⟩
        obtain ⟨y, hy⟩ : ∃ y, b[j]'(by rw [HB.out.1]; exact hlt) = y := ⟨_, rfl⟩
        rw [hx] at c1
        rw [hy] at c2
        have HX := Lib.hid (And.intro hx hy)
        clear hx hy
        obtain ⟨W, hW⟩ : ∃ W, w.drewN k = W := ⟨_, rfl⟩
        have d1 : W.cell? (A.add j) = some (byteV x) := by rw [← hW]; simpa [go_sem] using c1
        have d2 : W.cell? (B.add j) = some (byteV y) := by rw [← hW]; simpa [go_sem] using c2
        rw [hW]
        have HW := Lib.hid hW
        clear hW c1 c2
        unfold byteV at d1 d2
        by_cases hxy : x = y
        · subst hxy
          go_wp2
          go_quiet (fail)
          go_wp2
          go_roundw
          case rel =>
            refine ⟨j + 1, k + nq, by omega, by go_num, by rw [← HW.out, World.drewN_drewN], ?_⟩
            rw [List.take_succ_eq_append_getElem (by rw [HA.out.1]; exact hlt), List.take_succ_eq_append_getElem (by rw [HB.out.1]; exact hlt), HE.out, HX.out.1, HX.out.2]
          case measure => simp [intOf]; omega
        · have t1 : ((x.toNat : Int) == (y.toNat : Int)) = false := by
            simp only [beq_eq_false_iff_ne, ne_eq]
            exact fun e => hxy (UInt8.toNat_inj.1 (by omega))
          have HXY := Lib.hid hxy
          clear hxy
          go_wp2
          go_quiet (fail)
          go_wp2
          go_ret
          refine ⟨ret_bool ?_, k + nq, by rw [← HW.out, World.drewN_drewN]⟩
          symm
          simp only [beq_eq_false_iff_ne, ne_eq]
          intro e
          subst e
          exact HXY.out (HX.out.1.symm.trans HX.out.2)
      · have hjn : j = n := by omega
        subst hjn
        have HF : Hid (a = b) := Lib.hid (by
          have := HE.out
          rwa [List.take_of_length_le (by rw [HA.out.1]; exact Nat.le_refl _), List.take_of_length_le (by rw [HB.out.1]; exact Nat.le_refl _)] at this)
        go_wp2
        go_ret
        exact ⟨ret_bool (by rw [HF.out]; simp), k, rfl⟩
  · have HF : Hid (a ≠ b) := Lib.hid (fun e => by subst e; exact hnm (hn.symm.trans hm))
    have t1 : ((n : Int) == (m : Int)) = false := by simp; omega
    clear hn hm hnm
    go_enter Tryz.func34, Tryz.ntmps34
    go_wp2
    go_ret
    exact ⟨ret_bool (by symm; simpa using HF.out), 0, rfl⟩

set_option maxRecDepth 100000 in
set_option maxHeartbeats 800000 in
theorem eqM_any (u v : Value) (a b : List Bool) (w : World) (ha : SliceM w u a) (hb : SliceM w v b) (hla : a.length ≤ 100000000) (hlb : b.length ≤ 100000000) :
    Calls Tryz.prog 33 #[u, v] w fun e w' => e = .returned (.bool (a == b)) ∧ ∃ n, w' = w.drewN n := by
  obtain ⟨p, cp, rfl, hp⟩ := ha
  obtain ⟨q, cq, rfl, hq⟩ := hb
  obtain ⟨n, hn⟩ : ∃ n, a.length = n := ⟨_, rfl⟩
  obtain ⟨m, hm⟩ : ∃ m, b.length = m := ⟨_, rfl⟩
  rw [hn] at hla ⊢
  rw [hm] at hlb ⊢
  have HA := Lib.hid (And.intro hn hp)
  have HB := Lib.hid (And.intro hm hq)
  clear hp hq
  by_cases hnm : n = m
  · subst hnm
    clear hn hm
    go_enter Tryz.func33, Tryz.ntmps33
    go_wp2
    go_loopw [5, 13] (fun _ i wr => ∃ j k : Nat, j ≤ n ∧ i = .int .i64 j ∧ wr = w.drewN k ∧ a.take j = b.take j) (fun _ i _ => n - (intOf i).toNat)
    case atStart => exact ⟨0, 0, Nat.zero_le _, rfl, rfl, rfl⟩
    case round =>
      obtain ⟨j, k, hj, rfl, rfl, he⟩ := hrel
      have HE := Lib.hid he
      clear he
      by_cases hlt : j < n
      · obtain ⟨A, rfl, c1⟩ := HA.out.2 j (by rw [HA.out.1]; exact hlt)
        obtain ⟨B, rfl, c2⟩ := HB.out.2 j (by rw [HB.out.1]; exact hlt)
        obtain ⟨x, hx⟩ : ∃ x, a[j]'(by rw [HA.out.1]; exact hlt) = x := ⟨_, rfl⟩
        obtain ⟨y, hy⟩ : ∃ y, b[j]'(by rw [HB.out.1]; exact hlt) = y := ⟨_, rfl⟩
        rw [hx] at c1
        rw [hy] at c2
        have HX := Lib.hid (And.intro hx hy)
        clear hx hy
        obtain ⟨W, hW⟩ : ∃ W, w.drewN k = W := ⟨_, rfl⟩
        have d1 : W.cell? (A.add j) = some (boolV x) := by rw [← hW]; simpa [go_sem] using c1
        have d2 : W.cell? (B.add j) = some (boolV y) := by rw [← hW]; simpa [go_sem] using c2
        rw [hW]
        have HW := Lib.hid hW
        clear hW c1 c2
        unfold boolV at d1 d2
        by_cases hxy : x = y
        · subst hxy
          cases x
          all_goals
           go_wp2
           go_quiet (fail)
           go_wp2
           go_roundw
           case rel =>
             refine ⟨j + 1, k + nq, by omega, by go_num, by rw [← HW.out, World.drewN_drewN], ?_⟩
             rw [List.take_succ_eq_append_getElem (by rw [HA.out.1]; exact hlt), List.take_succ_eq_append_getElem (by rw [HB.out.1]; exact hlt), HE.out, HX.out.1, HX.out.2]
           case measure => simp [intOf]; omega
        · have HXY := Lib.hid hxy
          have fin : ∀ nq, (∃ n : Nat, (W.drewN nq) = w.drewN n) ∧ false = (a == b) := fun nq => ⟨⟨k + nq, by rw [← HW.out, World.drewN_drewN]⟩, by
            symm
            simp only [beq_eq_false_iff_ne, ne_eq]
            intro e
            subst e
            exact HXY.out (HX.out.1.symm.trans HX.out.2)⟩
          have FIN := Lib.hid fin
          clear fin
          cases x <;> cases y
          · exact absurd rfl hxy
          · clear hxy
            go_wp2
            go_quiet (fail)
            go_wp2
            go_ret
            exact ⟨ret_bool (FIN.out nq).2, (FIN.out nq).1⟩
          · clear hxy
            go_wp2
            go_quiet (fail)
            go_wp2
            go_ret
            exact ⟨ret_bool (FIN.out nq).2, (FIN.out nq).1⟩
          · exact absurd rfl hxy
      · have hjn : j = n := by omega
        subst hjn
        have HF : Hid (a = b) := Lib.hid (by
          have := HE.out
          rwa [List.take_of_length_le (by rw [HA.out.1]; exact Nat.le_refl _), List.take_of_length_le (by rw [HB.out.1]; exact Nat.le_refl _)] at this)
        go_wp2
        go_ret
        exact ⟨ret_bool (by rw [HF.out]; simp), k, rfl⟩
  · have HF : Hid (a ≠ b) := Lib.hid (fun e => by subst e; exact hnm (hn.symm.trans hm))
    have t1 : ((n : Int) == (m : Int)) = false := by simp; omega
    clear hn hm hnm
    go_enter Tryz.func33, Tryz.ntmps33
    go_wp2
    go_ret
    exact ⟨ret_bool (by symm; simpa using HF.out), 0, rfl⟩


end Go.Proofs.YtgdaaafejfjilaaGreatDoor
