/- contracts of the reference's op -/
import Derived.Test.YtgdaaafejfjilaaGreatDoorW24
import Derived.Test.YtgdaaafejfjilaaGreatDoorW20
import Derived.Test.YtgdaaafejfjilaaGreatDoorW15
namespace Go.Proofs.YtgdaaafejfjilaaGreatDoor
open Go.RowKit
attribute [local go_sem] Oper.semAt_some undef

theorem refItoa_any (v : Int) (h : 0 ≤ v ∧ v ≤ 999999999) (w : World) : Calls Tryz.prog 45 #[.int .i64 v] w fun e w' => e = .returned (.string ⟨(Lib.itoa v).toArray⟩) ∧ Newer w w' := by
  obtain ⟨n, rfl⟩ : ∃ n : Nat, v = n := ⟨v.toNat, by omega⟩
  rw [itoa_nonneg h.1]
  exact refDigits_any n (by omega) w
theorem hex_any (v : Value) (l : Bs) (w : World) (h : SliceB w v l) (hl : l.length ≤ 1000000) : Calls Tryz.prog 76 #[v] w fun e w' => e = .returned (.string ⟨(hexL l).toArray⟩) ∧ Newer w w' :=
  (refHex_any v l w h hl).mono (by rintro e w' ⟨rfl, n, rfl⟩; exact ⟨rfl, Newer.drewN _ _⟩)

/-- what an operation's numbers and texts keep to -/
structure OpB (a : ActL) : Prop where
  at_ : 0 ≤ a.at_ ∧ a.at_ ≤ 999999999
  on : 0 ≤ a.on ∧ a.on ≤ 999999999
  p : a.path.length ≤ 1000 ∧ a.dest.length ≤ 1000
  b : a.bytes.length ≤ 1000

theorem op_letters (k : Int) : (∀ c ∈ (opL k).2, c = 112 ∨ c = 113 ∨ c = 97 ∨ c = 110 ∨ c = 98) ∧ (opL k).2.length ≤ 3 ∧ (opL k).1.length ≤ 100 := by
  by_cases h : 1 ≤ k ∧ k ≤ 11
  · rcases int11 h with rfl | rfl | rfl | rfl | rfl | rfl | rfl | rfl | rfl | rfl | rfl <;> decide
  · rw [opL_other h]; decide

theorem hex_le (b : Bs) (h : b.length ≤ 1000) : (hexL b).length ≤ 2001 := by
  unfold hexL
  split
  · simp
  · have : (b.flatMap fun c => [hexD (c.toNat / 16), hexD (c.toNat % 16)]).length = 2 * b.length := by
      clear h
      induction b with
      | nil => rfl
      | cons x l ih => rw [List.flatMap_cons, List.length_append]; simp only [List.length_cons, List.length_nil]; by_cases hl : l = []
                       · subst hl; rfl
                       · have := ih hl; omega
    omega
theorem opb_show {a : ActL} (h : OpB a) {c : UInt8} (hc : c = 112 ∨ c = 113 ∨ c = 97 ∨ c = 110 ∨ c = 98) : (showL c a).length ≤ 2001 := by
  have h1 := (itoa_len9 h.at_).1
  have h2 := (itoa_len9 h.on).1
  have h3 := hex_le _ h.b
  have h4 := h.p
  rcases hc with rfl | rfl | rfl | rfl | rfl
  · show a.path.length ≤ _; omega
  · show a.dest.length ≤ _; omega
  · show (Lib.itoa a.at_).length ≤ _; omega
  · show (Lib.itoa a.on).length ≤ _; omega
  · exact h3
theorem opb_add {a : ActL} (h : OpB a) : ∀ (needs : Bs), (∀ c ∈ needs, c = 112 ∨ c = 113 ∨ c = 97 ∨ c = 110 ∨ c = 98) → (addL needs a).length ≤ 2002 * needs.length
  | [], _ => by simp [addL]
  | c :: l, hc => by
    have h1 := opb_show h (hc c (by simp))
    have h2 := opb_add h l (fun x hx => hc x (by simp [hx]))
    have e : addL (c :: l) a = (32 :: showL c a) ++ addL l a := by simp [addL]
    rw [e, List.length_append, List.length_cons, List.length_cons]
    omega

def opV (a : ActL) (v8 : Value) : Value := .agg #[.int .i64 a.okind, .string ⟨a.path.toArray⟩, .string ⟨a.dest.toArray⟩, .int .i64 a.at_, .int .i64 a.on, v8]

set_option maxRecDepth 100000 in
set_option maxHeartbeats 3200000 in
theorem refOp_any (a : ActL) (ha : OpB a) (p8 : Option Addr) (n8 m8 : Nat) (w : World) (hs : SliceB w (.slice p8 n8 m8) a.bytes) :
    Calls Tryz.prog 46 #[opV a (.slice p8 n8 m8)] w fun e w' => e = .returned (.string ⟨((opL a.okind).1 ++ addL (opL a.okind).2 a).toArray⟩) ∧ Newer w w' := by
  have HA := Lib.hid ha
  have HS := Lib.hid hs
  have HK := Lib.hid (op_letters a.okind)
  clear ha hs
  unfold opV
  go_enter Tryz.func46, Tryz.ntmps46
  go_wp2_with fail
  refine (refVerbs_any a.okind _).mono ?_
  rintro e w' ⟨rfl, rfl⟩
  obtain ⟨nm, hnm⟩ : ∃ nm, (opL a.okind).1 = nm := ⟨_, rfl⟩
  obtain ⟨needs, hnd⟩ : ∃ nd, (opL a.okind).2 = nd := ⟨_, rfl⟩
  rw [hnm, hnd]
  have HKK := HK.out
  rw [hnm, hnd] at HKK
  obtain ⟨hlet, hlen, hnl⟩ := HKK
  have HLET := Lib.hid hlet
  have HNM := Lib.hid (And.intro hnm hnd)
  clear hnm hnd hlet HK
  obtain ⟨n, hn⟩ : ∃ n, needs.length = n := ⟨_, rfl⟩
  have hsz : (ByteArray.mk needs.toArray).size = n := by show needs.toArray.size = n; simp [hn]
  rw [hn] at hlen
  obtain ⟨b, hb⟩ : ∃ b, w.heap.size = b := ⟨_, rfl⟩
  obtain ⟨w0, hw0⟩ : ∃ w0, w.alloc (.cells #[.int .i64 a.okind, .string ⟨a.path.toArray⟩, .string ⟨a.dest.toArray⟩, .int .i64 a.at_, .int .i64 a.on, .slice p8 n8 m8] 26) = w0 := ⟨_, rfl⟩
  rw [hw0, hb]
  have nw0 : Newer w w0 := hw0 ▸ Newer.alloc _ _
  have c1 : w0.cell? ⟨b, 1, none⟩ = some (.string ⟨a.path.toArray⟩) := by subst hw0 hb; simp [go_sem]
  have c2 : w0.cell? ⟨b, 2, none⟩ = some (.string ⟨a.dest.toArray⟩) := by subst hw0 hb; simp [go_sem]
  have c3 : w0.cell? ⟨b, 3, none⟩ = some (.int .i64 a.at_) := by subst hw0 hb; simp [go_sem]
  have c4 : w0.cell? ⟨b, 4, none⟩ = some (.int .i64 a.on) := by subst hw0 hb; simp [go_sem]
  have c5 : w0.cell? ⟨b, 5, none⟩ = some (.slice p8 n8 m8) := by subst hw0 hb; simp [go_sem]
  have HN := Lib.hid hn
  have HC := Lib.hid (And.intro c1 (And.intro c2 (And.intro c3 (And.intro c4 c5))))
  have HW0 := Lib.hid nw0
  clear hw0 hb hn c1 c2 c3 c4 c5 nw0
  go_wp2_with fail
  go_loopw [3, 5] (fun s i wr => ∃ (j : Nat), i = .int .i64 j ∧ j ≤ n ∧ s = .string ⟨(nm ++ addL (needs.take j) a).toArray⟩ ∧ Newer w0 wr) (fun _ i _ => n - (intOf i).toNat)
  case atStart => exact ⟨0, rfl, Nat.zero_le _, by simp [addL], Newer.refl _⟩
  case round =>
    obtain ⟨j, rfl, hj, rfl, hw⟩ := hrel
    have hcur : (nm ++ addL (needs.take j) a).length ≤ 10000 := by
      have := opb_add HA.out (needs.take j) (fun c hc => HLET.out c (List.mem_of_mem_take hc))
      rw [List.length_append]
      have h3 : (needs.take j).length ≤ 3 := by have := HN.out; simp; omega
      omega
    obtain ⟨cur, hc⟩ : ∃ cur, nm ++ addL (needs.take j) a = cur := ⟨_, rfl⟩
    rw [hc] at hcur ⊢
    have HCUR := Lib.hid hc
    have HW := Lib.hid hw
    clear hc hw
    by_cases hlt : j < n
    · obtain ⟨c, hc⟩ : ∃ c, needs[j]'(by rw [HN.out]; exact hlt) = c := ⟨_, rfl⟩
      have ix := index_str needs j (j : Int) c rfl (by rw [List.getElem?_eq_getElem (by rw [HN.out]; exact hlt), hc]) wr
      have HX : Hid (nm ++ addL (needs.take (j + 1)) a = cur ++ [32] ++ showL c a) := Lib.hid (by rw [← HCUR.out, lay_step _ _ _ _ (by rw [HN.out]; exact hlt), hc]; simp)
      have hl := HLET.out c (hc ▸ List.getElem_mem _)
      have hsl := opb_show HA.out hl
      obtain ⟨s1, hs1⟩ : ∃ s1, cur ++ [32] = s1 := ⟨_, rfl⟩
      obtain ⟨sh, hsh⟩ : ∃ sh, showL c a = sh := ⟨_, rfl⟩
      obtain ⟨s2, hs2⟩ : ∃ s2, s1 ++ sh = s2 := ⟨_, rfl⟩
      have hcat := cat_str cur [32]
      have hcat2 := cat_str s1 sh
      rw [hs1] at hcat
      rw [hs2] at hcat2
      rw [hsh] at hsl
      have hl1 : s1.length = cur.length + 1 := by rw [← hs1]; simp
      have ha7 : ¬ 9223372036854775807 < cur.length + 1 := by omega
      have ha8 : ¬ 9223372036854775807 < s1.length + sh.length := by omega
      have HX2 := Lib.hid (HX.out.trans (by rw [hs1, hsh, hs2]))
      have HSH := Lib.hid hsh
      clear hc hsl hs1 hs2 hl1 hsh HX
      have d1 := newer_cell HC.out.1 HW.out
      have d2 := newer_cell HC.out.2.1 HW.out
      have d3 := newer_cell HC.out.2.2.1 HW.out
      have d4 := newer_cell HC.out.2.2.2.1 HW.out
      have d5 := newer_cell HC.out.2.2.2.2 HW.out
      rcases hl with rfl | rfl | rfl | rfl | rfl
      · have e : a.path = sh := HSH.out
        rw [e] at d1
        clear e d2 d3 d4 d5
        go_wp2_with fail
        go_roundw
        case rel => exact ⟨j + 1, by go_num, by omega, by rw [HX2.out], HW.out⟩
        case measure => simp [intOf]; omega
      · have e : a.dest = sh := HSH.out
        rw [e] at d2
        clear e d1 d3 d4 d5
        go_wp2_with fail
        go_roundw
        case rel => exact ⟨j + 1, by go_num, by omega, by rw [HX2.out], HW.out⟩
        case measure => simp [intOf]; omega
      · clear d1 d2 d4 d5
        go_wp2_with fail
        refine (refItoa_any _ HA.out.at_ _).mono ?_
        rintro e w1 ⟨rfl, n1⟩
        rw [show Lib.itoa a.at_ = sh from HSH.out]
        have HW1 := Lib.hid (HW.out.trans n1)
        clear n1 d3 ix
        go_wp2_with fail
        go_roundw
        case rel => exact ⟨j + 1, by go_num, by omega, by rw [HX2.out], HW1.out⟩
        case measure => simp [intOf]; omega
      · clear d1 d2 d3 d5
        go_wp2_with fail
        refine (refItoa_any _ HA.out.on _).mono ?_
        rintro e w1 ⟨rfl, n1⟩
        rw [show Lib.itoa a.on = sh from HSH.out]
        have HW1 := Lib.hid (HW.out.trans n1)
        clear n1 d4 ix
        go_wp2_with fail
        go_roundw
        case rel => exact ⟨j + 1, by go_num, by omega, by rw [HX2.out], HW1.out⟩
        case measure => simp [intOf]; omega
      · clear d1 d2 d3 d4
        go_wp2_with fail
        refine (hex_any _ _ _ ((HS.out.newer HW0.out).newer HW.out) (by have := HA.out.b; omega)).mono ?_
        rintro e w1 ⟨rfl, n1⟩
        rw [show hexL a.bytes = sh from HSH.out]
        have HW1 := Lib.hid (HW.out.trans n1)
        clear n1 d5 ix
        go_wp2_with fail
        go_roundw
        case rel => exact ⟨j + 1, by go_num, by omega, by rw [HX2.out], HW1.out⟩
        case measure => simp [intOf]; omega
    · have HE : Hid (cur = (opL a.okind).1 ++ addL (opL a.okind).2 a) := Lib.hid (by
        have := HCUR.out
        rw [List.take_of_length_le (by rw [HN.out]; omega)] at this
        rw [HNM.out.1, HNM.out.2, this])
      go_wp2_with fail
      go_ret
      exact ⟨ret_str HE.out, HW0.out.trans HW.out⟩

end Go.Proofs.YtgdaaafejfjilaaGreatDoor

/- contracts of the reference's laid -/
namespace Go.Proofs.YtgdaaafejfjilaaGreatDoor
open Go.RowKit
attribute [local go_sem] Oper.semAt_some undef

/-- an act in its variable -/
structure NB (b : Nat) (w : World) (a : ActL) (v8 v9 : Value) (W : World) : Prop where
  act : ActC W b a v8 v9
  out : Newer w W
theorem NB.newer {b : Nat} {w W W' : World} {a : ActL} {v8 v9 : Value} (h : NB b w a v8 v9 W) (n : Newer W W') : NB b w a v8 v9 W' := by
  have hl : b < W.heap.size := by have := World.block_lt_of_cell? _ _ h.act.c0; simpa using this
  exact ⟨h.act.grow n (fun hk => by have hk : W.heap.size ≤ b := hk; omega), h.out.trans n⟩

/-- what may be a line, by its numbers and lengths -/
structure InR (a : ActL) : Prop where
  k : 1 ≤ a.kind ∧ a.kind ≤ 5
  t : 0 ≤ a.thread ∧ a.thread ≤ 999999999
  n : 0 ≤ a.n ∧ a.n ≤ 999999999
  o : OpB a
  m : a.marks.length ≤ 1000

theorem refDots_any (v : Value) (l : List Bool) (w : World) (h : SliceM w v l) (hl : l.length ≤ 1000000) : Calls Tryz.prog 47 #[v] w fun e w' => e = .returned (.string ⟨(dotsL l).toArray⟩) ∧ Newer w w' :=
  (refMarks_any v l w h hl).mono (by rintro e w' ⟨rfl, rfl⟩; exact ⟨rfl, Newer.refl _⟩)
theorem dots_le (l : List Bool) (h : l.length ≤ 1000) : (dotsL l).length ≤ 1000 := by
  unfold dotsL
  split
  · simp
  · simpa using h

set_option maxRecDepth 100000 in
set_option maxHeartbeats 6400000 in
theorem refLaid_any (a : ActL) (ha : InR a) (p8 p9 : Option Addr) (n8 n9 m8 m9 : Nat) (w : World) (hs : SliceB w (.slice p8 n8 m8) a.bytes ∧ SliceM w (.slice p9 n9 m9) a.marks) :
    Calls Tryz.prog 28 #[actV a (.slice p8 n8 m8) (.slice p9 n9 m9)] w fun e w' => e = .returned (.string ⟨(laidL a).toArray⟩) ∧ Newer w w' := by
  have HA := Lib.hid ha
  have HS := Lib.hid hs
  have hkk := ha.k
  clear ha hs
  obtain ⟨b, hb⟩ : ∃ b, w.heap.size = b := ⟨_, rfl⟩
  have HOP := Lib.hid (op_letters a.okind)
  unfold actV
  rcases int5 hkk with hk | hk | hk | hk | hk
  all_goals clear hkk
  · have HK1 : Hid (a.kind = 1) := Lib.hid hk
    have e1 : (a.kind == 1) = true := by rw [hk]; rfl
    clear hk
    obtain ⟨s1, h1⟩ : ∃ s, Lib.itoa a.thread = s := ⟨_, rfl⟩
    obtain ⟨s2, h2⟩ : ∃ s, (opL a.okind).1 ++ addL (opL a.okind).2 a = s := ⟨_, rfl⟩
    have b1 : s1.length ≤ 9 := by rw [← h1]; exact (itoa_len9 HA.out.t).1
    have b2 : s2.length ≤ 10000 := by rw [← h2]; (have h1 := opb_add HA.out.o (opL a.okind).2 HOP.out.1; have h2 := HOP.out.2.1; have h3 := HOP.out.2.2; rw [List.length_append]; omega)
    obtain ⟨t1, ht1⟩ : ∃ t, ([113, 117, 101, 117, 101, 32] : Bs) ++ s1 = t := ⟨_, rfl⟩
    obtain ⟨t2, ht2⟩ : ∃ t, t1 ++ [32] = t := ⟨_, rfl⟩
    obtain ⟨t3, ht3⟩ : ∃ t, t2 ++ s2 = t := ⟨_, rfl⟩
    have l1 : t1.length = 6 + s1.length := by rw [← ht1, List.length_append]; rfl
    have l2 : t2.length = t1.length + 1 := by rw [← ht2, List.length_append]; rfl
    have hcat := cat_str [113, 117, 101, 117, 101, 32] s1
    have hcat2 := cat_str t1 [32]
    have hcat3 := cat_str t2 s2
    rw [ht1] at hcat
    rw [ht2] at hcat2
    rw [ht3] at hcat3
    have q1 : ¬ 9223372036854775807 < 6 + s1.length := by omega
    have q2 : ¬ 9223372036854775807 < t1.length + 1 := by omega
    have q3 : ¬ 9223372036854775807 < t2.length + s2.length := by omega
    have HE : Hid (t3 = laidL a) := Lib.hid (by
      rw [← ht3, ← ht2, ← ht1, ← h1, ← h2, laidL, HK1.out]
      simp [verbL, addL, showL])
    have H1 := Lib.hid h1
    have H2 := Lib.hid h2
    clear h1 h2 ht1 ht2 ht3 l1 l2 b1 b2
    go_enter Tryz.func28, Tryz.ntmps28
    go_wp2_with fail
    obtain ⟨w0, hw0⟩ : ∃ w0, w.alloc (.cells #[.int .i64 a.kind, .int .i64 a.thread, .int .i64 a.n, .int .i64 a.okind, .string ⟨a.path.toArray⟩, .string ⟨a.dest.toArray⟩, .int .i64 a.at_, .int .i64 a.on, .slice p8 n8 m8, .slice p9 n9 m9] 29) = w0 := ⟨_, rfl⟩
    rw [hw0]
    have nw0 : Newer w w0 := hw0 ▸ Newer.alloc _ _
    have hA : ActC w0 b a (.slice p8 n8 m8) (.slice p9 n9 m9) := by
      subst hw0 hb
      constructor <;> simp [go_sem]
    have H0 := Lib.hid (NB.mk hA nw0)
    clear hA nw0 hw0 hb

    refine wp_region_any (by kernel_rfl) ?_
    (try (change wpAny _ _ _ _ _ _ _ (World.drew _)))
    obtain ⟨V0, hV0⟩ : ∃ x, World.drew w0 = x := ⟨_, rfl⟩
    rw [hV0]
    have G0 := Lib.hid (NB.newer H0.out (hV0 ▸ Newer.drew w0))
    clear hV0
    refine wpAny_take (i := 0) (v := ?_) rfl (by kernel_rfl) (by kernel_rfl) (by kernel_rfl) (fun _ _ _ h => h) (Or.inl ⟨by rfl, ?_⟩) ?_
    rotate_left 1
    · intro w; go_simp; try with_reducible rfl
    refine wpAny_take (i := 5) (v := ?_) rfl (by kernel_rfl) (by kernel_rfl) (by kernel_rfl) (fun _ _ _ h => h) (Or.inl ⟨by rfl, ?_⟩) ?_
    rotate_left 1
    · intro w; go_simp; try with_reducible rfl
    refine wpAny_ready (rs := [1, 6]) (by kernel_rfl) (by simp) ?_
    refine AllReady.cons rfl (fun KK hKK => ?_) ?_
    · go_simp
      have k0 := G0.out.1.c1
      go_simp
      clear k0
      refine hKK _ _ ?_
      clear hKK KK
      refine wpAny_ready (rs := [2, 6]) (by kernel_rfl) (by simp) ?_
      refine AllReady.cons rfl (fun KK hKK => ?_) ?_
      · go_simp
        refine (refItoa_any _ HA.out.t _).mono ?_
        rintro e X1 ⟨rfl, n1⟩
        rw [H1.out]
        have G1 := Lib.hid (NB.newer G0.out n1)
        clear n1
        refine hKK _ _ ?_
        clear hKK KK
        refine wpAny_take (i := 3) (v := ?_) rfl (by kernel_rfl) (by kernel_rfl) (by kernel_rfl) (fun _ _ _ h => h) (Or.inl ⟨by rfl, ?_⟩) ?_
        rotate_left 1
        · intro w; go_simp; try with_reducible rfl
        refine wpAny_take (i := 4) (v := ?_) rfl (by kernel_rfl) (by kernel_rfl) (by kernel_rfl) (fun _ _ _ h => h) (Or.inl ⟨by rfl, ?_⟩) ?_
        rotate_left 1
        · intro w; go_simp; try with_reducible rfl
        refine wpAny_ready (rs := [6]) (by kernel_rfl) (by simp) ?_
        refine AllReady.cons rfl (fun KK hKK => ?_) AllReady.nil
        go_simp
        obtain ⟨k0, k1, k2, k3, k4, k5, k6, k7, k8, k9⟩ := G1.out.1
        go_simp
        clear k0 k1 k2 k3 k4 k5 k6 k7 k8 k9
        refine hKK _ _ ?_
        clear hKK KK
        refine wpAny_ready (rs := [7]) (by kernel_rfl) (by simp) ?_
        refine AllReady.cons rfl (fun KK hKK => ?_) AllReady.nil
        go_simp
        refine (refOp_any a HA.out.o p8 n8 m8 _ (HS.out.1.newer G1.out.2)).mono ?_
        rintro e X1 ⟨rfl, n1⟩
        rw [H2.out]
        have G2 := Lib.hid (NB.newer G1.out n1)
        clear n1
        refine hKK _ _ ?_
        clear hKK KK
        refine wpAny_take (i := 8) (v := ?_) rfl (by kernel_rfl) (by kernel_rfl) (by kernel_rfl) (fun _ _ _ h => h) (Or.inl ⟨by rfl, ?_⟩) ?_
        rotate_left 1
        · intro w; go_simp; try with_reducible rfl
        refine wpAny_take (i := 9) (v := ?_) rfl (by kernel_rfl) (by kernel_rfl) (by kernel_rfl) (fun _ _ _ h => h) (Or.inl ⟨by rfl, ?_⟩) ?_
        rotate_left 1
        · intro w; go_simp; try with_reducible rfl
        refine wpAny_done (by kernel_rfl) ?_ _
        clear hcat hcat2 hcat3
        go_wp2_with fail
        go_ret
        exact ⟨ret_str HE.out, NB.out G2.out⟩
      refine AllReady.cons rfl (fun KK hKK => ?_) AllReady.nil
      · go_simp
        obtain ⟨k0, k1, k2, k3, k4, k5, k6, k7, k8, k9⟩ := G0.out.1
        go_simp
        clear k0 k1 k2 k3 k4 k5 k6 k7 k8 k9
        refine hKK _ _ ?_
        clear hKK KK
        refine wpAny_ready (rs := [2]) (by kernel_rfl) (by simp) ?_
        refine AllReady.cons rfl (fun KK hKK => ?_) AllReady.nil
        go_simp
        refine (refItoa_any _ HA.out.t _).mono ?_
        rintro e X1 ⟨rfl, n1⟩
        rw [H1.out]
        have G1 := Lib.hid (NB.newer G0.out n1)
        clear n1
        refine hKK _ _ ?_
        clear hKK KK
        refine wpAny_take (i := 3) (v := ?_) rfl (by kernel_rfl) (by kernel_rfl) (by kernel_rfl) (fun _ _ _ h => h) (Or.inl ⟨by rfl, ?_⟩) ?_
        rotate_left 1
        · intro w; go_simp; try with_reducible rfl
        refine wpAny_take (i := 4) (v := ?_) rfl (by kernel_rfl) (by kernel_rfl) (by kernel_rfl) (fun _ _ _ h => h) (Or.inl ⟨by rfl, ?_⟩) ?_
        rotate_left 1
        · intro w; go_simp; try with_reducible rfl
        refine wpAny_ready (rs := [7]) (by kernel_rfl) (by simp) ?_
        refine AllReady.cons rfl (fun KK hKK => ?_) AllReady.nil
        go_simp
        refine (refOp_any a HA.out.o p8 n8 m8 _ (HS.out.1.newer G1.out.2)).mono ?_
        rintro e X1 ⟨rfl, n1⟩
        rw [H2.out]
        have G2 := Lib.hid (NB.newer G1.out n1)
        clear n1
        refine hKK _ _ ?_
        clear hKK KK
        refine wpAny_take (i := 8) (v := ?_) rfl (by kernel_rfl) (by kernel_rfl) (by kernel_rfl) (fun _ _ _ h => h) (Or.inl ⟨by rfl, ?_⟩) ?_
        rotate_left 1
        · intro w; go_simp; try with_reducible rfl
        refine wpAny_take (i := 9) (v := ?_) rfl (by kernel_rfl) (by kernel_rfl) (by kernel_rfl) (fun _ _ _ h => h) (Or.inl ⟨by rfl, ?_⟩) ?_
        rotate_left 1
        · intro w; go_simp; try with_reducible rfl
        refine wpAny_done (by kernel_rfl) ?_ _
        clear hcat hcat2 hcat3
        go_wp2_with fail
        go_ret
        exact ⟨ret_str HE.out, NB.out G2.out⟩
    refine AllReady.cons rfl (fun KK hKK => ?_) AllReady.nil
    · go_simp
      obtain ⟨k0, k1, k2, k3, k4, k5, k6, k7, k8, k9⟩ := G0.out.1
      go_simp
      clear k0 k1 k2 k3 k4 k5 k6 k7 k8 k9
      refine hKK _ _ ?_
      clear hKK KK
      refine wpAny_ready (rs := [1]) (by kernel_rfl) (by simp) ?_
      refine AllReady.cons rfl (fun KK hKK => ?_) AllReady.nil
      go_simp
      have k0 := G0.out.1.c1
      go_simp
      clear k0
      refine hKK _ _ ?_
      clear hKK KK
      refine wpAny_ready (rs := [2]) (by kernel_rfl) (by simp) ?_
      refine AllReady.cons rfl (fun KK hKK => ?_) AllReady.nil
      go_simp
      refine (refItoa_any _ HA.out.t _).mono ?_
      rintro e X1 ⟨rfl, n1⟩
      rw [H1.out]
      have G1 := Lib.hid (NB.newer G0.out n1)
      clear n1
      refine hKK _ _ ?_
      clear hKK KK
      refine wpAny_take (i := 3) (v := ?_) rfl (by kernel_rfl) (by kernel_rfl) (by kernel_rfl) (fun _ _ _ h => h) (Or.inl ⟨by rfl, ?_⟩) ?_
      rotate_left 1
      · intro w; go_simp; try with_reducible rfl
      refine wpAny_take (i := 4) (v := ?_) rfl (by kernel_rfl) (by kernel_rfl) (by kernel_rfl) (fun _ _ _ h => h) (Or.inl ⟨by rfl, ?_⟩) ?_
      rotate_left 1
      · intro w; go_simp; try with_reducible rfl
      refine wpAny_ready (rs := [7]) (by kernel_rfl) (by simp) ?_
      refine AllReady.cons rfl (fun KK hKK => ?_) AllReady.nil
      go_simp
      refine (refOp_any a HA.out.o p8 n8 m8 _ (HS.out.1.newer G1.out.2)).mono ?_
      rintro e X1 ⟨rfl, n1⟩
      rw [H2.out]
      have G2 := Lib.hid (NB.newer G1.out n1)
      clear n1
      refine hKK _ _ ?_
      clear hKK KK
      refine wpAny_take (i := 8) (v := ?_) rfl (by kernel_rfl) (by kernel_rfl) (by kernel_rfl) (fun _ _ _ h => h) (Or.inl ⟨by rfl, ?_⟩) ?_
      rotate_left 1
      · intro w; go_simp; try with_reducible rfl
      refine wpAny_take (i := 9) (v := ?_) rfl (by kernel_rfl) (by kernel_rfl) (by kernel_rfl) (fun _ _ _ h => h) (Or.inl ⟨by rfl, ?_⟩) ?_
      rotate_left 1
      · intro w; go_simp; try with_reducible rfl
      refine wpAny_done (by kernel_rfl) ?_ _
      clear hcat hcat2 hcat3
      go_wp2_with fail
      go_ret
      exact ⟨ret_str HE.out, NB.out G2.out⟩

  · have HK1 : Hid (a.kind = 2) := Lib.hid hk
    have e1 : (a.kind == 1) = false := by rw [hk]; rfl
    have e2 : (a.kind == 2) = true := by rw [hk]; rfl
    clear hk
    obtain ⟨s1, h1⟩ : ∃ s, Lib.itoa a.thread = s := ⟨_, rfl⟩
    obtain ⟨s2, h2⟩ : ∃ s, Lib.itoa a.n = s := ⟨_, rfl⟩
    have b1 : s1.length ≤ 9 := by rw [← h1]; exact (itoa_len9 HA.out.t).1
    have b2 : s2.length ≤ 10000 := by rw [← h2]; exact Nat.le_trans (itoa_len9 HA.out.n).1 (by decide)
    obtain ⟨t1, ht1⟩ : ∃ t, ([115, 116, 101, 112, 32] : Bs) ++ s1 = t := ⟨_, rfl⟩
    obtain ⟨t2, ht2⟩ : ∃ t, t1 ++ [32] = t := ⟨_, rfl⟩
    obtain ⟨t3, ht3⟩ : ∃ t, t2 ++ s2 = t := ⟨_, rfl⟩
    have l1 : t1.length = 5 + s1.length := by rw [← ht1, List.length_append]; rfl
    have l2 : t2.length = t1.length + 1 := by rw [← ht2, List.length_append]; rfl
    have hcat := cat_str [115, 116, 101, 112, 32] s1
    have hcat2 := cat_str t1 [32]
    have hcat3 := cat_str t2 s2
    rw [ht1] at hcat
    rw [ht2] at hcat2
    rw [ht3] at hcat3
    have q1 : ¬ 9223372036854775807 < 5 + s1.length := by omega
    have q2 : ¬ 9223372036854775807 < t1.length + 1 := by omega
    have q3 : ¬ 9223372036854775807 < t2.length + s2.length := by omega
    have HE : Hid (t3 = laidL a) := Lib.hid (by
      rw [← ht3, ← ht2, ← ht1, ← h1, ← h2, laidL, HK1.out]
      simp [verbL, addL, showL])
    have H1 := Lib.hid h1
    have H2 := Lib.hid h2
    clear h1 h2 ht1 ht2 ht3 l1 l2 b1 b2
    go_enter Tryz.func28, Tryz.ntmps28
    go_wp2_with fail
    obtain ⟨w0, hw0⟩ : ∃ w0, w.alloc (.cells #[.int .i64 a.kind, .int .i64 a.thread, .int .i64 a.n, .int .i64 a.okind, .string ⟨a.path.toArray⟩, .string ⟨a.dest.toArray⟩, .int .i64 a.at_, .int .i64 a.on, .slice p8 n8 m8, .slice p9 n9 m9] 29) = w0 := ⟨_, rfl⟩
    rw [hw0]
    have nw0 : Newer w w0 := hw0 ▸ Newer.alloc _ _
    have hA : ActC w0 b a (.slice p8 n8 m8) (.slice p9 n9 m9) := by
      subst hw0 hb
      constructor <;> simp [go_sem]
    have H0 := Lib.hid (NB.mk hA nw0)
    clear hA nw0 hw0 hb

    refine wp_region_any (by kernel_rfl) ?_
    (try (change wpAny _ _ _ _ _ _ _ (World.drew _)))
    obtain ⟨V0, hV0⟩ : ∃ x, World.drew w0 = x := ⟨_, rfl⟩
    rw [hV0]
    have G0 := Lib.hid (NB.newer H0.out (hV0 ▸ Newer.drew w0))
    clear hV0
    refine wpAny_take (i := 0) (v := ?_) rfl (by kernel_rfl) (by kernel_rfl) (by kernel_rfl) (fun _ _ _ h => h) (Or.inl ⟨by rfl, ?_⟩) ?_
    rotate_left 1
    · intro w; go_simp; try with_reducible rfl
    refine wpAny_take (i := 5) (v := ?_) rfl (by kernel_rfl) (by kernel_rfl) (by kernel_rfl) (fun _ _ _ h => h) (Or.inl ⟨by rfl, ?_⟩) ?_
    rotate_left 1
    · intro w; go_simp; try with_reducible rfl
    refine wpAny_ready (rs := [1, 6]) (by kernel_rfl) (by simp) ?_
    refine AllReady.cons rfl (fun KK hKK => ?_) ?_
    · go_simp
      have k0 := G0.out.1.c1
      go_simp
      clear k0
      refine hKK _ _ ?_
      clear hKK KK
      refine wpAny_ready (rs := [2, 6]) (by kernel_rfl) (by simp) ?_
      refine AllReady.cons rfl (fun KK hKK => ?_) ?_
      · go_simp
        refine (refItoa_any _ HA.out.t _).mono ?_
        rintro e X1 ⟨rfl, n1⟩
        rw [H1.out]
        have G1 := Lib.hid (NB.newer G0.out n1)
        clear n1
        refine hKK _ _ ?_
        clear hKK KK
        refine wpAny_take (i := 3) (v := ?_) rfl (by kernel_rfl) (by kernel_rfl) (by kernel_rfl) (fun _ _ _ h => h) (Or.inl ⟨by rfl, ?_⟩) ?_
        rotate_left 1
        · intro w; go_simp; try with_reducible rfl
        refine wpAny_take (i := 4) (v := ?_) rfl (by kernel_rfl) (by kernel_rfl) (by kernel_rfl) (fun _ _ _ h => h) (Or.inl ⟨by rfl, ?_⟩) ?_
        rotate_left 1
        · intro w; go_simp; try with_reducible rfl
        refine wpAny_ready (rs := [6]) (by kernel_rfl) (by simp) ?_
        refine AllReady.cons rfl (fun KK hKK => ?_) AllReady.nil
        go_simp
        obtain ⟨k0, k1, k2, k3, k4, k5, k6, k7, k8, k9⟩ := G1.out.1
        go_simp
        clear k0 k1 k2 k3 k4 k5 k6 k7 k8 k9
        refine hKK _ _ ?_
        clear hKK KK
        refine wpAny_ready (rs := [7]) (by kernel_rfl) (by simp) ?_
        refine AllReady.cons rfl (fun KK hKK => ?_) AllReady.nil
        go_simp
        refine (refItoa_any _ HA.out.n _).mono ?_
        rintro e X1 ⟨rfl, n1⟩
        rw [H2.out]
        have G2 := Lib.hid (NB.newer G1.out n1)
        clear n1
        refine hKK _ _ ?_
        clear hKK KK
        refine wpAny_take (i := 8) (v := ?_) rfl (by kernel_rfl) (by kernel_rfl) (by kernel_rfl) (fun _ _ _ h => h) (Or.inl ⟨by rfl, ?_⟩) ?_
        rotate_left 1
        · intro w; go_simp; try with_reducible rfl
        refine wpAny_take (i := 9) (v := ?_) rfl (by kernel_rfl) (by kernel_rfl) (by kernel_rfl) (fun _ _ _ h => h) (Or.inl ⟨by rfl, ?_⟩) ?_
        rotate_left 1
        · intro w; go_simp; try with_reducible rfl
        refine wpAny_done (by kernel_rfl) ?_ _
        clear hcat hcat2 hcat3
        go_wp2_with fail
        go_ret
        exact ⟨ret_str HE.out, NB.out G2.out⟩
      refine AllReady.cons rfl (fun KK hKK => ?_) AllReady.nil
      · go_simp
        obtain ⟨k0, k1, k2, k3, k4, k5, k6, k7, k8, k9⟩ := G0.out.1
        go_simp
        clear k0 k1 k2 k3 k4 k5 k6 k7 k8 k9
        refine hKK _ _ ?_
        clear hKK KK
        refine wpAny_ready (rs := [2]) (by kernel_rfl) (by simp) ?_
        refine AllReady.cons rfl (fun KK hKK => ?_) AllReady.nil
        go_simp
        refine (refItoa_any _ HA.out.t _).mono ?_
        rintro e X1 ⟨rfl, n1⟩
        rw [H1.out]
        have G1 := Lib.hid (NB.newer G0.out n1)
        clear n1
        refine hKK _ _ ?_
        clear hKK KK
        refine wpAny_take (i := 3) (v := ?_) rfl (by kernel_rfl) (by kernel_rfl) (by kernel_rfl) (fun _ _ _ h => h) (Or.inl ⟨by rfl, ?_⟩) ?_
        rotate_left 1
        · intro w; go_simp; try with_reducible rfl
        refine wpAny_take (i := 4) (v := ?_) rfl (by kernel_rfl) (by kernel_rfl) (by kernel_rfl) (fun _ _ _ h => h) (Or.inl ⟨by rfl, ?_⟩) ?_
        rotate_left 1
        · intro w; go_simp; try with_reducible rfl
        refine wpAny_ready (rs := [7]) (by kernel_rfl) (by simp) ?_
        refine AllReady.cons rfl (fun KK hKK => ?_) AllReady.nil
        go_simp
        refine (refItoa_any _ HA.out.n _).mono ?_
        rintro e X1 ⟨rfl, n1⟩
        rw [H2.out]
        have G2 := Lib.hid (NB.newer G1.out n1)
        clear n1
        refine hKK _ _ ?_
        clear hKK KK
        refine wpAny_take (i := 8) (v := ?_) rfl (by kernel_rfl) (by kernel_rfl) (by kernel_rfl) (fun _ _ _ h => h) (Or.inl ⟨by rfl, ?_⟩) ?_
        rotate_left 1
        · intro w; go_simp; try with_reducible rfl
        refine wpAny_take (i := 9) (v := ?_) rfl (by kernel_rfl) (by kernel_rfl) (by kernel_rfl) (fun _ _ _ h => h) (Or.inl ⟨by rfl, ?_⟩) ?_
        rotate_left 1
        · intro w; go_simp; try with_reducible rfl
        refine wpAny_done (by kernel_rfl) ?_ _
        clear hcat hcat2 hcat3
        go_wp2_with fail
        go_ret
        exact ⟨ret_str HE.out, NB.out G2.out⟩
    refine AllReady.cons rfl (fun KK hKK => ?_) AllReady.nil
    · go_simp
      obtain ⟨k0, k1, k2, k3, k4, k5, k6, k7, k8, k9⟩ := G0.out.1
      go_simp
      clear k0 k1 k2 k3 k4 k5 k6 k7 k8 k9
      refine hKK _ _ ?_
      clear hKK KK
      refine wpAny_ready (rs := [1]) (by kernel_rfl) (by simp) ?_
      refine AllReady.cons rfl (fun KK hKK => ?_) AllReady.nil
      go_simp
      have k0 := G0.out.1.c1
      go_simp
      clear k0
      refine hKK _ _ ?_
      clear hKK KK
      refine wpAny_ready (rs := [2]) (by kernel_rfl) (by simp) ?_
      refine AllReady.cons rfl (fun KK hKK => ?_) AllReady.nil
      go_simp
      refine (refItoa_any _ HA.out.t _).mono ?_
      rintro e X1 ⟨rfl, n1⟩
      rw [H1.out]
      have G1 := Lib.hid (NB.newer G0.out n1)
      clear n1
      refine hKK _ _ ?_
      clear hKK KK
      refine wpAny_take (i := 3) (v := ?_) rfl (by kernel_rfl) (by kernel_rfl) (by kernel_rfl) (fun _ _ _ h => h) (Or.inl ⟨by rfl, ?_⟩) ?_
      rotate_left 1
      · intro w; go_simp; try with_reducible rfl
      refine wpAny_take (i := 4) (v := ?_) rfl (by kernel_rfl) (by kernel_rfl) (by kernel_rfl) (fun _ _ _ h => h) (Or.inl ⟨by rfl, ?_⟩) ?_
      rotate_left 1
      · intro w; go_simp; try with_reducible rfl
      refine wpAny_ready (rs := [7]) (by kernel_rfl) (by simp) ?_
      refine AllReady.cons rfl (fun KK hKK => ?_) AllReady.nil
      go_simp
      refine (refItoa_any _ HA.out.n _).mono ?_
      rintro e X1 ⟨rfl, n1⟩
      rw [H2.out]
      have G2 := Lib.hid (NB.newer G1.out n1)
      clear n1
      refine hKK _ _ ?_
      clear hKK KK
      refine wpAny_take (i := 8) (v := ?_) rfl (by kernel_rfl) (by kernel_rfl) (by kernel_rfl) (fun _ _ _ h => h) (Or.inl ⟨by rfl, ?_⟩) ?_
      rotate_left 1
      · intro w; go_simp; try with_reducible rfl
      refine wpAny_take (i := 9) (v := ?_) rfl (by kernel_rfl) (by kernel_rfl) (by kernel_rfl) (fun _ _ _ h => h) (Or.inl ⟨by rfl, ?_⟩) ?_
      rotate_left 1
      · intro w; go_simp; try with_reducible rfl
      refine wpAny_done (by kernel_rfl) ?_ _
      clear hcat hcat2 hcat3
      go_wp2_with fail
      go_ret
      exact ⟨ret_str HE.out, NB.out G2.out⟩

  · have HK1 : Hid (a.kind = 3) := Lib.hid hk
    have e1 : (a.kind == 1) = false := by rw [hk]; rfl
    have e2 : (a.kind == 2) = false := by rw [hk]; rfl
    have e3 : (a.kind == 3) = true := by rw [hk]; rfl
    clear hk
    obtain ⟨s1, h1⟩ : ∃ s, Lib.itoa a.n = s := ⟨_, rfl⟩
    have b1 : s1.length ≤ 10000 := by rw [← h1]; exact Nat.le_trans (itoa_len9 HA.out.n).1 (by decide)
    obtain ⟨t1, ht1⟩ : ∃ t, ([101, 118, 105, 99, 116, 32] : Bs) ++ s1 = t := ⟨_, rfl⟩
    have hcat := cat_str [101, 118, 105, 99, 116, 32] s1
    rw [ht1] at hcat
    have q1 : ¬ 9223372036854775807 < 6 + s1.length := by omega
    have HE : Hid (t1 = laidL a) := Lib.hid (by
      rw [← ht1, ← h1, laidL, HK1.out]
      simp [verbL, addL, showL])
    have H1 := Lib.hid h1
    clear h1 ht1 b1
    go_enter Tryz.func28, Tryz.ntmps28
    go_wp2_with fail
    obtain ⟨w0, hw0⟩ : ∃ w0, w.alloc (.cells #[.int .i64 a.kind, .int .i64 a.thread, .int .i64 a.n, .int .i64 a.okind, .string ⟨a.path.toArray⟩, .string ⟨a.dest.toArray⟩, .int .i64 a.at_, .int .i64 a.on, .slice p8 n8 m8, .slice p9 n9 m9] 29) = w0 := ⟨_, rfl⟩
    rw [hw0]
    have nw0 : Newer w w0 := hw0 ▸ Newer.alloc _ _
    have hA : ActC w0 b a (.slice p8 n8 m8) (.slice p9 n9 m9) := by
      subst hw0 hb
      constructor <;> simp [go_sem]
    have H0 := Lib.hid (NB.mk hA nw0)
    clear hA nw0 hw0 hb
    refine (refItoa_any _ HA.out.n _).mono ?_
    rintro e w1 ⟨rfl, n1⟩
    rw [H1.out]
    have HN1 := Lib.hid (H0.out.2.trans n1)
    clear n1
    go_wp2_with fail
    go_ret
    exact ⟨ret_str HE.out, HN1.out⟩
  · have HK1 : Hid (a.kind = 4) := Lib.hid hk
    have e1 : (a.kind == 1) = false := by rw [hk]; rfl
    have e2 : (a.kind == 2) = false := by rw [hk]; rfl
    have e3 : (a.kind == 3) = false := by rw [hk]; rfl
    have e4 : (a.kind == 4) = true := by rw [hk]; rfl
    clear hk
    obtain ⟨s1, h1⟩ : ∃ s, dotsL a.marks = s := ⟨_, rfl⟩
    have b1 : s1.length ≤ 10000 := by rw [← h1]; exact Nat.le_trans (dots_le _ HA.out.m) (by decide)
    obtain ⟨t1, ht1⟩ : ∃ t, ([99, 114, 97, 115, 104, 32] : Bs) ++ s1 = t := ⟨_, rfl⟩
    have hcat := cat_str [99, 114, 97, 115, 104, 32] s1
    rw [ht1] at hcat
    have q1 : ¬ 9223372036854775807 < 6 + s1.length := by omega
    have HE : Hid (t1 = laidL a) := Lib.hid (by
      rw [← ht1, ← h1, laidL, HK1.out]
      simp [verbL, addL, showL])
    have H1 := Lib.hid h1
    clear h1 ht1 b1
    go_enter Tryz.func28, Tryz.ntmps28
    go_wp2_with fail
    obtain ⟨w0, hw0⟩ : ∃ w0, w.alloc (.cells #[.int .i64 a.kind, .int .i64 a.thread, .int .i64 a.n, .int .i64 a.okind, .string ⟨a.path.toArray⟩, .string ⟨a.dest.toArray⟩, .int .i64 a.at_, .int .i64 a.on, .slice p8 n8 m8, .slice p9 n9 m9] 29) = w0 := ⟨_, rfl⟩
    rw [hw0]
    have nw0 : Newer w w0 := hw0 ▸ Newer.alloc _ _
    have hA : ActC w0 b a (.slice p8 n8 m8) (.slice p9 n9 m9) := by
      subst hw0 hb
      constructor <;> simp [go_sem]
    have H0 := Lib.hid (NB.mk hA nw0)
    clear hA nw0 hw0 hb
    refine (refDots_any _ _ _ (HS.out.2.newer H0.out.2) (by have := HA.out.m; omega)).mono ?_
    rintro e w1 ⟨rfl, n1⟩
    rw [H1.out]
    have HN1 := Lib.hid (H0.out.2.trans n1)
    clear n1
    go_wp2_with fail
    go_ret
    exact ⟨ret_str HE.out, HN1.out⟩
  · have HK1 : Hid (a.kind = 5) := Lib.hid hk
    have e1 : (a.kind == 1) = false := by rw [hk]; rfl
    have e2 : (a.kind == 2) = false := by rw [hk]; rfl
    have e3 : (a.kind == 3) = false := by rw [hk]; rfl
    have e4 : (a.kind == 4) = false := by rw [hk]; rfl
    clear hk
    obtain ⟨s1, h1⟩ : ∃ s, Lib.itoa a.n = s := ⟨_, rfl⟩
    have b1 : s1.length ≤ 10000 := by rw [← h1]; exact Nat.le_trans (itoa_len9 HA.out.n).1 (by decide)
    obtain ⟨t1, ht1⟩ : ∃ t, ([114, 101, 99, 111, 118, 101, 114, 32] : Bs) ++ s1 = t := ⟨_, rfl⟩
    have hcat := cat_str [114, 101, 99, 111, 118, 101, 114, 32] s1
    rw [ht1] at hcat
    have q1 : ¬ 9223372036854775807 < 8 + s1.length := by omega
    have HE : Hid (t1 = laidL a) := Lib.hid (by
      rw [← ht1, ← h1, laidL, HK1.out]
      simp [verbL, addL, showL])
    have H1 := Lib.hid h1
    clear h1 ht1 b1
    go_enter Tryz.func28, Tryz.ntmps28
    go_wp2_with fail
    obtain ⟨w0, hw0⟩ : ∃ w0, w.alloc (.cells #[.int .i64 a.kind, .int .i64 a.thread, .int .i64 a.n, .int .i64 a.okind, .string ⟨a.path.toArray⟩, .string ⟨a.dest.toArray⟩, .int .i64 a.at_, .int .i64 a.on, .slice p8 n8 m8, .slice p9 n9 m9] 29) = w0 := ⟨_, rfl⟩
    rw [hw0]
    have nw0 : Newer w w0 := hw0 ▸ Newer.alloc _ _
    have hA : ActC w0 b a (.slice p8 n8 m8) (.slice p9 n9 m9) := by
      subst hw0 hb
      constructor <;> simp [go_sem]
    have H0 := Lib.hid (NB.mk hA nw0)
    clear hA nw0 hw0 hb
    refine (refItoa_any _ HA.out.n _).mono ?_
    rintro e w1 ⟨rfl, n1⟩
    rw [H1.out]
    have HN1 := Lib.hid (H0.out.2.trans n1)
    clear n1
    go_wp2_with fail
    go_ret
    exact ⟨ret_str HE.out, HN1.out⟩

end Go.Proofs.YtgdaaafejfjilaaGreatDoor

/- contracts of the reference's readOp -/
namespace Go.Proofs.YtgdaaafejfjilaaGreatDoor
open Go.RowKit
attribute [local go_sem] Oper.semAt_some undef

theorem path_ref {s : Bs} (h : (32 : UInt8) ∉ s) : pathL s = if refPathL s = true then some s else none := by
  unfold pathL refPathL
  by_cases hc : 1 ≤ s.length ∧ s.length ≤ 300 ∧ (10 : UInt8) ∉ s
  · rw [if_pos hc, if_pos]
    simp only [decide_eq_true_eq]
    exact ⟨⟨hc.1, hc.2.1⟩, fun c hm => ⟨fun e => h (e ▸ hm), fun e => hc.2.2 (e ▸ hm)⟩⟩
  · rw [if_neg hc, if_neg]
    simp only [decide_eq_true_eq]
    rintro ⟨⟨h1, h2⟩, h3⟩
    exact hc ⟨h1, h2, fun hm => (h3 10 hm).2 rfl⟩

/-- an operation's variable -/
structure OpAt (w : World) (b : Nat) (a : ActL) (v8 : Value) : Prop where
  c0 : w.cell? ⟨b, 0, none⟩ = some (.int .i64 a.okind)
  c1 : w.cell? ⟨b, 1, none⟩ = some (.string ⟨(a.path).toArray⟩)
  c2 : w.cell? ⟨b, 2, none⟩ = some (.string ⟨(a.dest).toArray⟩)
  c3 : w.cell? ⟨b, 3, none⟩ = some (.int .i64 a.at_)
  c4 : w.cell? ⟨b, 4, none⟩ = some (.int .i64 a.on)
  c5 : w.cell? ⟨b, 5, none⟩ = some v8
  f : ∀ k, w.frozen? ⟨b, k, none⟩ = false
theorem OpAt.lt {w : World} {b : Nat} {a : ActL} {v8 : Value} (h : OpAt w b a v8) : b < w.heap.size := by have := World.block_lt_of_cell? _ _ h.c0; simpa using this
theorem OpAt.grow {own : Nat → Prop} {w W : World} {b : Nat} {a : ActL} {v8 : Value} (h : OpAt w b a v8) (g : Grow own w W) (hb : ¬ own b) : OpAt W b a v8 := by
  have hl := h.lt
  have e : ∀ j, W.cell? ⟨b, j, none⟩ = w.cell? ⟨b, j, none⟩ := fun j => g.cell (p := ⟨b, j, none⟩) hl hb
  exact ⟨(e 0).trans h.c0, (e 1).trans h.c1, (e 2).trans h.c2, (e 3).trans h.c3, (e 4).trans h.c4, (e 5).trans h.c5, fun k => (g.frozen (p := ⟨b, k, none⟩) hl hb).trans (h.f k)⟩
theorem OpAt.newer {w W : World} {b : Nat} {a : ActL} {v8 : Value} (h : OpAt w b a v8) (n : Newer w W) : OpAt W b a v8 := h.grow n (fun hk => by have hk : w.heap.size ≤ b := hk; have := h.lt; omega)
theorem opcell_put {w : World} {b o o' : Nat} {x v : Value} (h : w.cell? ⟨b, o, none⟩ = some v) (hne : o' ≠ o) : (w.setCell ⟨b, o', none⟩ x).cell? ⟨b, o, none⟩ = some v := by
  rw [World.cell?_setCell_other]
  · exact h
  · intro e
    exact hne (congrArg Addr.off e)
theorem OpAt.set0 {w : World} {b : Nat} {a : ActL} {v8 : Value} (h : OpAt w b a v8) (x : Int) : OpAt (w.setCell ⟨b, 0, none⟩ (.int .i64 x)) b { a with okind := x } v8 :=
  ⟨World.cell?_setCell_same _ _ _ h.c0, opcell_put h.c1 (by decide), opcell_put h.c2 (by decide), opcell_put h.c3 (by decide), opcell_put h.c4 (by decide), opcell_put h.c5 (by decide), fun k => by rw [World.frozen?_setCell]; exact h.f k⟩
theorem OpAt.set1 {w : World} {b : Nat} {a : ActL} {v8 : Value} (h : OpAt w b a v8) (x : Bs) : OpAt (w.setCell ⟨b, 1, none⟩ (.string ⟨x.toArray⟩)) b { a with path := x } v8 :=
  ⟨opcell_put h.c0 (by decide), World.cell?_setCell_same _ _ _ h.c1, opcell_put h.c2 (by decide), opcell_put h.c3 (by decide), opcell_put h.c4 (by decide), opcell_put h.c5 (by decide), fun k => by rw [World.frozen?_setCell]; exact h.f k⟩
theorem OpAt.set2 {w : World} {b : Nat} {a : ActL} {v8 : Value} (h : OpAt w b a v8) (x : Bs) : OpAt (w.setCell ⟨b, 2, none⟩ (.string ⟨x.toArray⟩)) b { a with dest := x } v8 :=
  ⟨opcell_put h.c0 (by decide), opcell_put h.c1 (by decide), World.cell?_setCell_same _ _ _ h.c2, opcell_put h.c3 (by decide), opcell_put h.c4 (by decide), opcell_put h.c5 (by decide), fun k => by rw [World.frozen?_setCell]; exact h.f k⟩
theorem OpAt.set3 {w : World} {b : Nat} {a : ActL} {v8 : Value} (h : OpAt w b a v8) (x : Int) : OpAt (w.setCell ⟨b, 3, none⟩ (.int .i64 x)) b { a with at_ := x } v8 :=
  ⟨opcell_put h.c0 (by decide), opcell_put h.c1 (by decide), opcell_put h.c2 (by decide), World.cell?_setCell_same _ _ _ h.c3, opcell_put h.c4 (by decide), opcell_put h.c5 (by decide), fun k => by rw [World.frozen?_setCell]; exact h.f k⟩
theorem OpAt.set4 {w : World} {b : Nat} {a : ActL} {v8 : Value} (h : OpAt w b a v8) (x : Int) : OpAt (w.setCell ⟨b, 4, none⟩ (.int .i64 x)) b { a with on := x } v8 :=
  ⟨opcell_put h.c0 (by decide), opcell_put h.c1 (by decide), opcell_put h.c2 (by decide), opcell_put h.c3 (by decide), World.cell?_setCell_same _ _ _ h.c4, opcell_put h.c5 (by decide), fun k => by rw [World.frozen?_setCell]; exact h.f k⟩
theorem OpAt.set5 {w : World} {b : Nat} {a : ActL} {v8 : Value} (h : OpAt w b a v8) (x : Value) (l : Bs) : OpAt (w.setCell ⟨b, 5, none⟩ x) b { a with bytes := l } x :=
  ⟨opcell_put h.c0 (by decide), opcell_put h.c1 (by decide), opcell_put h.c2 (by decide), opcell_put h.c3 (by decide), opcell_put h.c4 (by decide), World.cell?_setCell_same _ _ _ h.c5, fun k => by rw [World.frozen?_setCell]; exact h.f k⟩

/-- the operation on the way: its variable at c, the result's at d -/
structure RdOp (c d : Nat) (w : World) (b : ActL) (v8 : Value) (W : World) : Prop where
  x : OpAt W c b v8
  z : OpAt W d ActL.zero (.slice none 0 0)
  sl : SliceB W v8 b.bytes
  off : Off (fun k => k < c + 1) v8
  new : Newer w W
  geo : w.heap.size ≤ d ∧ d < c
theorem RdOp.newer {c d : Nat} {w W W' : World} {b : ActL} {v8 : Value} (h : RdOp c d w b v8 W) (n : Newer W W') : RdOp c d w b v8 W' :=
  ⟨h.x.newer n, h.z.newer n, h.sl.newer n, h.off, h.new.trans n, h.geo⟩
theorem RdOp.put {c d : Nat} {w W : World} {b b' : ActL} {v8 u8 x : Value} {o : Nat} (h : RdOp c d w b v8 W) (hx : OpAt (W.setCell ⟨c, o, none⟩ x) c b' u8) (hs : SliceB W u8 b'.bytes) (ho : Off (fun k => k < c + 1) u8) : RdOp c d w b' u8 (W.setCell ⟨c, o, none⟩ x) := by
  have g : Grow (fun k => k = c) W (W.setCell ⟨c, o, none⟩ x) := Grow.setCell (own := fun k => k = c) _ _ _ rfl
  have hg := h.geo
  refine ⟨hx, h.z.grow g (by show ¬ d = c; omega), SliceB.grow hs g (fun A n k e _ hk => ho A n k e (by have hk : A.block = c := hk; show A.block < c + 1; omega)), ho, Grow.trans h.new (g.mono (fun k hk => by have hk : k = c := hk; show w.heap.size ≤ k; omega)), hg⟩

/-- what has come of an operation's words -/
def ReadOpPost (l : List Bs) (w : World) (e : Ending) (w' : World) : Prop :=
  ∃ b v8, e = .returned (.tuple #[opV b v8, .bool (readOpL l).isSome]) ∧ (∀ c, readOpL l = some c → b = c) ∧ (SliceB w' v8 b.bytes ∧ Off (fun k => k < w.heap.size) v8) ∧ Newer w w'

theorem results_cell_tmp {P : Program} {fn : Func} {u p : Tmp} {ty : TypeId} (h : fn.results = #[.cell p ty, .tmp u]) {tmps : Array Value} {w : World} {ad : Addr} {v : Value} (ha : tmps.getD p undef = .pointer (some ad))
    (hl : (loadVar ty ad).run P w = .ok v w) : (results fn tmps).run P w = .ok (.tuple #[v, tmps.getD u undef]) w := by
  have ha' : tmps[p]?.getD undef = .pointer (some ad) := by simpa using ha
  simp [results, h, ha', asAddr, hl]
theorem load26 {w : World} {b : Nat} {a : ActL} {v8 : Value} (h : OpAt w b a v8) : (loadVar 26 ⟨b, 0, none⟩).run Tryz.prog w = .ok (opV a v8) w := by
  obtain ⟨c0, c1, c2, c3, c4, c5, f⟩ := h
  unfold opV
  go_simp

theorem nomatch_none {l : List Bs} {o : Bs} {r : List Bs} (hl : l = o :: r) (h : ∀ i : Nat, 1 ≤ i → i < 12 → ¬ ((opL i).1 = o ∧ l.length = (opL i).2.length + 1)) : readOpL l = none := by
  subst hl
  unfold readOpL
  cases hk : opkL o with
  | none => simp only [hk]
  | some x =>
    obtain ⟨e, r1⟩ := opk_back hk
    cases hf : fillL (opL x).2 { ActL.zero with okind := x } r with
    | none => simp only [hk, hf]
    | some q =>
      obtain ⟨b, r'⟩ := q
      cases r' with
      | cons _ _ => simp only [hk, hf]
      | nil =>
        exfalso
        have hlen := fill_len _ _ _ _ _ hf
        obtain ⟨i, rfl⟩ : ∃ i : Nat, x = i := ⟨x.toNat, by omega⟩
        refine h i (by omega) (by omega) ⟨e, ?_⟩
        simp only [List.length_cons, List.length_nil] at *
        omega
theorem match_some {l : List Bs} {o : Bs} {r : List Bs} {k : Nat} (hl : l = o :: r) (h1 : 1 ≤ k) (h2 : k < 12) (hn : (opL k).1 = o) (hr : r.length = (opL k).2.length) :
    (∀ b, fillL (opL k).2 { ActL.zero with okind := k } r = some (b, []) → readOpL l = some b) ∧ (fillL (opL k).2 { ActL.zero with okind := k } r = none → readOpL l = none) := by
  subst hl
  have hk : opkL o = some (k : Int) := by
    rw [← hn]
    rcases (by omega : k = 1 ∨ k = 2 ∨ k = 3 ∨ k = 4 ∨ k = 5 ∨ k = 6 ∨ k = 7 ∨ k = 8 ∨ k = 9 ∨ k = 10 ∨ k = 11) with rfl | rfl | rfl | rfl | rfl | rfl | rfl | rfl | rfl | rfl | rfl <;> rfl
  constructor
  · intro b hf
    unfold readOpL
    simp only [hk, hf]
  · intro hf
    unfold readOpL
    simp only [hk, hf]

/-- one word more -/
theorem fill_step2 {needs : Bs} {r : List Bs} {z b b' : ActL} {q : Nat} {fine is : Bool} {ch : UInt8} {sx : Bs} (hq : q < needs.length) (hr : r.length = needs.length) (hc : needs[q] = ch) (hs : r[q]'(by omega) = sx)
    (h1 : fine = true → fillL (needs.take q) z (r.take q) = some (b, [])) (h2 : fine = false → fillL needs z r = none) (p1 : is = true → setL ch b sx = some b') (p2 : is = false → setL ch b sx = none) :
    ((fine && is) = true → fillL (needs.take (q + 1)) z (r.take (q + 1)) = some (b', [])) ∧ ((fine && is) = false → fillL needs z r = none) := by
  have e1 : needs = needs.take q ++ (ch :: needs.drop (q + 1)) := by rw [← hc, ← List.drop_eq_getElem_cons hq, List.take_append_drop]
  have e2 : r = r.take q ++ (sx :: r.drop (q + 1)) := by rw [← hs, ← List.drop_eq_getElem_cons (by omega), List.take_append_drop]
  have hl : (needs.take q).length = (r.take q).length := by simp; omega
  cases fine
  · refine ⟨fun h => by simp at h, fun _ => h2 rfl⟩
  · have h1 := h1 rfl
    cases is
    · refine ⟨fun h => by simp at h, fun _ => ?_⟩
      rw [e1, e2, fill_app _ _ _ _ _ hl, h1]
      simp only [fillL, p2 rfl]
    · refine ⟨fun _ => ?_, fun h => by simp at h⟩
      rw [List.take_succ_eq_append_getElem hq, List.take_succ_eq_append_getElem (by omega), hc, hs, fill_app _ _ _ _ _ hl, h1]
      simp only [fillL, p1 rfl]

theorem set_p (b : ActL) {s : Bs} (h : (32 : UInt8) ∉ s) : (refPathL s = true → setL 112 b s = some { b with path := s }) ∧ (refPathL s = false → setL 112 b s = none) := by
  have e : setL 112 b s = (pathL s).map fun v => { b with path := v } := by rfl
  rw [e, path_ref h]
  exact ⟨fun h => by rw [if_pos h]; rfl, fun h => by rw [if_neg (by rw [h]; decide)]; rfl⟩
theorem set_q (b : ActL) {s : Bs} (h : (32 : UInt8) ∉ s) : (refPathL s = true → setL 113 b s = some { b with dest := s }) ∧ (refPathL s = false → setL 113 b s = none) := by
  have e : setL 113 b s = (pathL s).map fun v => { b with dest := v } := by rfl
  rw [e, path_ref h]
  exact ⟨fun h => by rw [if_pos h]; rfl, fun h => by rw [if_neg (by rw [h]; decide)]; rfl⟩
theorem set_a (b : ActL) (s : Bs) : (numOk s = true → setL 97 b s = some { b with at_ := numW s }) ∧ (numOk s = false → setL 97 b s = none) := by
  have e : setL 97 b s = (numL s).map fun v => { b with at_ := v } := by rfl
  rw [e]
  unfold numOk numW
  cases numL s <;> simp
theorem set_n (b : ActL) (s : Bs) : (numOk s = true → setL 110 b s = some { b with on := numW s }) ∧ (numOk s = false → setL 110 b s = none) := by
  have e : setL 110 b s = (numL s).map fun v => { b with on := v } := by rfl
  rw [e]
  unfold numOk numW
  cases numL s <;> simp
theorem set_b (b : ActL) (s : Bs) : ((bytesL s).isSome = true → setL 98 b s = some { b with bytes := (bytesL s).getD [] }) ∧ ((bytesL s).isSome = false → setL 98 b s = none) := by
  have e : setL 98 b s = (bytesL s).map fun v => { b with bytes := v } := by rfl
  rw [e]
  cases bytesL s <;> simp

end Go.Proofs.YtgdaaafejfjilaaGreatDoor

/- contracts of the reference's readOp -/
namespace Go.Proofs.YtgdaaafejfjilaaGreatDoor
open Go.RowKit
attribute [local go_sem] Oper.semAt_some undef

set_option maxRecDepth 100000 in
set_option maxHeartbeats 6400000 in
theorem refReadOp_any (v : Value) (l : List Bs) (w : World) (h : WordsV w v l) (h0 : l ≠ []) (hfree : ∀ x ∈ l, (32 : UInt8) ∉ x) (hlen : ∀ x ∈ l, x.length ≤ 100000) (hl : l.length ≤ 100001) :
    Calls Tryz.prog 38 #[v] w (ReadOpPost l w) := by
  obtain ⟨g, o, cap, rfl, hlc, hcm, hcell⟩ := h
  obtain ⟨s0, r, rfl⟩ : ∃ s r, l = s :: r := by
    cases l with
    | nil => exact absurd rfl h0
    | cons s r => exact ⟨s, r, rfl⟩
  obtain ⟨L, hL⟩ : ∃ L, (s0 :: r).length = L := ⟨_, rfl⟩
  have hL1 : 1 ≤ L := by rw [← hL]; simp
  rw [hL] at hlc hl ⊢
  have hcm' : cap ≤ 9223372036854775807 := by unfold maxLen at hcm; omega
  obtain ⟨d, hd⟩ : ∃ d, w.heap.size = d := ⟨_, rfl⟩
  obtain ⟨w0, hw0⟩ : ∃ w0, w.alloc (.cells #[.int .i64 0, .string ⟨#[]⟩, .string ⟨#[]⟩, .int .i64 0, .int .i64 0, .slice none 0 0] 26) = w0 := ⟨_, rfl⟩
  have nw0 : Newer w w0 := hw0 ▸ Newer.alloc _ _
  have hz0 : OpAt w0 d ActL.zero (.slice none 0 0) := by
    subst hw0 hd
    constructor <;> simp [go_sem, ActL.zero]
  have c0 : w0.cell? ⟨g, o, none⟩ = some (.string ⟨s0.toArray⟩) := newer_cell (hcell 0 (by simp)) nw0
  have HCELL : Hid (∀ j (h : j < r.length), w.cell? ⟨g, o + (j + 1), none⟩ = some (.string ⟨(r[j]).toArray⟩)) := Lib.hid (fun j hj => hcell (j + 1) (by simpa using hj))
  have HFREE : Hid (∀ x ∈ r, (32 : UInt8) ∉ x ∧ x.length ≤ 100000) := Lib.hid (fun x hx => ⟨hfree x (List.mem_cons_of_mem _ hx), hlen x (List.mem_cons_of_mem _ hx)⟩)
  have HL : Hid (r.length + 1 = L) := Lib.hid (by rw [← hL]; rfl)
  have H0 := Lib.hid (And.intro hz0 nw0)
  have HD := Lib.hid hd
  have hLe : ((L : Int) == 0) = false := by simp; omega
  clear hcell hfree hlen hL hcm hz0 nw0 h0
  go_enter Tryz.func38, Tryz.ntmps38
  go_wp2_with fail
  clear hw0 hd
  go_loop [4] (fun k => ∃ j : Nat, k = .int .i64 j ∧ 1 ≤ j ∧ j ≤ 12 ∧ (∀ i : Nat, 1 ≤ i → i < j → ¬ ((opL i).1 = s0 ∧ (s0 :: r).length = (opL i).2.length + 1))) (fun k => 12 - (intOf k).toNat)
  case atStart => exact ⟨1, rfl, Nat.le_refl _, by decide, fun i h1 h2 => absurd h2 (by omega)⟩
  case round =>
    obtain ⟨j, rfl, hj1, hj2, hno⟩ := hrel
    have HNO := Lib.hid hno
    clear hno
    by_cases hlt : j < 12
    · have hle : (j : Int) ≤ 11 := by omega
      go_wp2_with fail
      refine (refVerbs_any (j : Int) w0).mono ?_
      rintro e w' ⟨rfl, rfl⟩
      obtain ⟨hlet, hnl, hnml⟩ := op_letters (j : Int)
      obtain ⟨nm, hnm⟩ : ∃ nm, (opL (j : Int)).1 = nm := ⟨_, rfl⟩
      obtain ⟨needs, hnd⟩ : ∃ nd, (opL (j : Int)).2 = nd := ⟨_, rfl⟩
      obtain ⟨n, hn⟩ : ∃ n, needs.length = n := ⟨_, rfl⟩
      have hsz : (ByteArray.mk needs.toArray).size = n := by show needs.toArray.size = n; simp [hn]
      rw [hnm, hnd]
      rw [hnd] at hlet hnl
      rw [hn] at hnl
      have HLET := Lib.hid hlet
      have HN := Lib.hid (And.intro hnm (And.intro hnd hn))
      clear hlet hnm hnd hn hnml
      have next : ¬ (nm = s0 ∧ L = n + 1) → ∀ i : Nat, 1 ≤ i → i < j + 1 → ¬ ((opL i).1 = s0 ∧ (s0 :: r).length = (opL i).2.length + 1) := fun hne i h1 h2 => by
        by_cases e : i = j
        · subst e
          rw [HN.out.1, HN.out.2.1, HN.out.2.2]
          have := HL.out
          rw [List.length_cons, this]
          exact hne
        · exact HNO.out i h1 (by omega)
      have HNEXT := Lib.hid next
      clear next
      by_cases hnm : nm = s0
      · by_cases hln : L = n + 1
        · have e1 : ((L : Int) != (n : Int) + 1) = false := by simp; omega
          have e2 : ((L : Int) == (n : Int) + 1) = true := by simp; omega
          have HM := Lib.hid (match_some (l := s0 :: r) (k := j) rfl hj1 hlt (by rw [HN.out.1, hnm]) (by rw [HN.out.2.1, HN.out.2.2]; have := HL.out; omega))
          have hrn : r.length = n := by have := HL.out; omega
          have HRN := Lib.hid hrn
          have HLN := Lib.hid hln
          subst hnm
          clear HNEXT hrn hln
          go_wp2_with fail
          obtain ⟨c, hc⟩ : ∃ c, w0.heap.size = c := ⟨_, rfl⟩
          obtain ⟨w1, hw1⟩ : ∃ w1, w0.alloc (.cells #[.int .i64 (j : Int), .string ⟨#[]⟩, .string ⟨#[]⟩, .int .i64 0, .int .i64 0, .slice none 0 0] 26) = w1 := ⟨_, rfl⟩
          rw [hw1, hc]
          have hx1 : OpAt w1 c { ActL.zero with okind := (j : Int) } (.slice none 0 0) := by
            subst hw1 hc
            constructor <;> simp [go_sem, ActL.zero]
          have nw1 : Newer w0 w1 := hw1 ▸ Newer.alloc _ _
          have hdc : d < c := hc ▸ H0.out.1.lt
          have H1 := Lib.hid (RdOp.mk hx1 (H0.out.1.newer nw1) (SliceB.nil _) (Off.nil _) (H0.out.2.trans nw1) ⟨Nat.le_of_eq HD.out, hdc⟩)
          clear hx1 nw1 hw1 hc c0 e1 e2
          go_loopw [8, 9] (fun f i wr => ∃ (q : Nat) (b : ActL) (v8 : Value) (fine : Bool), i = .int .i64 q ∧ q ≤ n ∧ f = .bool fine ∧ RdOp c d w b v8 wr ∧ (fine = true → fillL (needs.take q) { ActL.zero with okind := (j : Int) } (r.take q) = some (b, [])) ∧ (fine = false → fillL needs { ActL.zero with okind := (j : Int) } r = none)) (fun _ i _ => n - (intOf i).toNat)
          case atStart => exact ⟨0, _, _, true, rfl, Nat.zero_le _, rfl, H1.out, fun _ => rfl, fun h => by cases h⟩
          case round =>
            obtain ⟨q, b, v8, fine, rfl, hq, rfl, hI, h1, h2⟩ := hrel
            have HI := Lib.hid hI
            have HF := Lib.hid (And.intro h1 h2)
            clear hI h1 h2
            by_cases hqn : q < n
            · have hqn1 : q < needs.length := by rw [HN.out.2.2]; exact hqn
              have hqr : q < r.length := by rw [HRN.out]; exact hqn
              obtain ⟨ch, hch⟩ : ∃ ch, needs[q] = ch := ⟨_, rfl⟩
              obtain ⟨sx, hsx⟩ : ∃ sx, r[q] = sx := ⟨_, rfl⟩
              have hcs := HCELL.out q hqr
              rw [hsx] at hcs
              have hcs : wr.cell? ⟨g, o + (q + 1), none⟩ = some (.string ⟨sx.toArray⟩) := newer_cell hcs HI.out.new
              have ix := index_str needs q (q : Int) ch rfl (by rw [List.getElem?_eq_getElem hqn1, hch]) wr
              have hl := HLET.out ch (hch ▸ List.getElem_mem _)
              have HSX := Lib.hid (HFREE.out sx (hsx ▸ List.getElem_mem _))
              have HST : Hid (∀ (b' : ActL) (is : Bool), (is = true → setL ch b sx = some b') → (is = false → setL ch b sx = none) → ((fine && is) = true → fillL (needs.take (q + 1)) { ActL.zero with okind := (j : Int) } (r.take (q + 1)) = some (b', [])) ∧ ((fine && is) = false → fillL needs { ActL.zero with okind := (j : Int) } r = none)) := Lib.hid (fun b' is p1 p2 => fill_step2 hqn1 (by rw [HRN.out, HN.out.2.2]) hch hsx HF.out.1 HF.out.2 p1 p2)
              have hqL : q + 1 < L := by have := HLN.out; omega
              clear hch hsx hqn1 hqr HF
              obtain ⟨x0, x1, x2, x3, x4, x5, xf⟩ := HI.out.x
              rcases hl with rfl | rfl | rfl | rfl | rfl
              · clear x0 x2 x3 x4 x5
                have HS2 := Lib.hid (HST.out _ _ (set_p b HSX.out.1).1 (set_p b HSX.out.1).2)
                have HI2 := Lib.hid (HI.out.put (HI.out.x.set1 sx) HI.out.sl HI.out.off)
                cases fine
                all_goals
                  clear HST
                  go_wp2_with fail
                  refine (refPath_any sx HSX.out.2 _).mono ?_
                  rintro e w' ⟨rfl, rfl⟩
                  go_wp2_with fail
                  go_roundw
                  case rel => exact ⟨q + 1, _, _, _, by go_num, by omega, rfl, HI2.out, HS2.out⟩
                  case measure => simp [intOf]; omega
              · clear x0 x1 x3 x4 x5
                have HS2 := Lib.hid (HST.out _ _ (set_q b HSX.out.1).1 (set_q b HSX.out.1).2)
                have HI2 := Lib.hid (HI.out.put (HI.out.x.set2 sx) HI.out.sl HI.out.off)
                cases fine
                all_goals
                  clear HST
                  go_wp2_with fail
                  refine (refPath_any sx HSX.out.2 _).mono ?_
                  rintro e w' ⟨rfl, rfl⟩
                  go_wp2_with fail
                  go_roundw
                  case rel => exact ⟨q + 1, _, _, _, by go_num, by omega, rfl, HI2.out, HS2.out⟩
                  case measure => simp [intOf]; omega
              · clear x0 x1 x2 x4 x5
                have HS2 := Lib.hid (HST.out _ _ (set_a b sx).1 (set_a b sx).2)
                have HI2 := Lib.hid (HI.out.put (HI.out.x.set3 (numW sx)) HI.out.sl HI.out.off)
                cases fine
                all_goals
                  clear HST
                  go_wp2_with fail
                  refine (refNumber_any sx HSX.out.2 _).mono ?_
                  rintro e w' ⟨rfl, rfl⟩
                  go_wp2_with fail
                  go_roundw
                  case rel => exact ⟨q + 1, _, _, _, by go_num, by omega, rfl, HI2.out, HS2.out⟩
                  case measure => simp [intOf]; omega
              · clear x0 x1 x2 x3 x5
                have HS2 := Lib.hid (HST.out _ _ (set_n b sx).1 (set_n b sx).2)
                have HI2 := Lib.hid (HI.out.put (HI.out.x.set4 (numW sx)) HI.out.sl HI.out.off)
                cases fine
                all_goals
                  clear HST
                  go_wp2_with fail
                  refine (refNumber_any sx HSX.out.2 _).mono ?_
                  rintro e w' ⟨rfl, rfl⟩
                  go_wp2_with fail
                  go_roundw
                  case rel => exact ⟨q + 1, _, _, _, by go_num, by omega, rfl, HI2.out, HS2.out⟩
                  case measure => simp [intOf]; omega
              · clear x0 x1 x2 x3 x4 x5 xf
                have HS2 := Lib.hid (HST.out _ _ (set_b b sx).1 (set_b b sx).2)
                cases fine
                all_goals
                  clear HST
                  go_wp2_with fail
                  refine (refUnhex_any sx HSX.out.2 _).mono ?_
                  rintro e W1 ⟨v', rfl, hsome, hnone, n1⟩
                  have hI1 := HI.out.newer n1
                  have hv : ∃ p n m, v' = .slice p n m ∧ SliceB W1 (.slice p n m) ((bytesL sx).getD []) ∧ Off (fun k => k < c + 1) (.slice p n m) := by
                    have hcl := HI.out.x.lt
                    cases hb : bytesL sx with
                    | none => exact ⟨none, 0, 0, hnone hb, SliceB.nil _, Off.nil _⟩
                    | some l =>
                      obtain ⟨h1, h2⟩ := hsome l hb
                      obtain ⟨p, m, e, hc⟩ := id h1
                      subst e
                      exact ⟨p, _, m, rfl, h1, h2.sub (fun k hk => by omega)⟩
                  obtain ⟨p, nn, m, rfl, hs1, ho1⟩ := hv
                  obtain ⟨x0, x1, x2, x3, x4, x5, xf⟩ := hI1.x
                  have HI2 := Lib.hid (hI1.put (hI1.x.set5 (.slice p nn m) ((bytesL sx).getD [])) hs1 ho1)
                  clear hsome hnone n1 hI1 hs1 ho1 x0 x1 x2 x3 x4 ix hcs
                  go_wp2_with fail
                  go_roundw
                  case rel => exact ⟨q + 1, _, _, _, by go_num, by omega, rfl, HI2.out, HS2.out⟩
                  case measure => simp [intOf]; omega
            · have hqe : q = n := by omega
              subst hqe
              have HE : Hid (fine = (readOpL (nm :: r)).isSome ∧ ∀ c', readOpL (nm :: r) = some c' → b = c') := Lib.hid (by
                have h1 := HF.out.1
                have h2 := HF.out.2
                rw [List.take_of_length_le (by rw [HN.out.2.2]; exact Nat.le_refl _), List.take_of_length_le (by rw [HRN.out]; exact Nat.le_refl _)] at h1
                have hm := HM.out
                rw [HN.out.2.1] at hm
                cases fine with
                | true =>
                  have := hm.1 b (h1 rfl)
                  rw [this]
                  exact ⟨rfl, fun c' hc' => Option.some.inj hc'⟩
                | false =>
                  have := hm.2 (h2 rfl)
                  rw [this]
                  exact ⟨rfl, fun c' hc' => by cases hc'⟩)
              obtain ⟨p, m, e8, -⟩ := id HI.out.sl
              obtain ⟨k8, hk8⟩ : ∃ k, b.bytes.length = k := ⟨_, rfl⟩
              rw [hk8] at e8
              subst e8
              have hfin := (((((HI.out.z.set0 b.okind).set1 b.path).set2 b.dest).set3 b.at_).set4 b.on).set5 (.slice p k8 m) b.bytes
              have gg : ∀ (W : World) (o : Nat) (x : Value), Grow (fun k => k = d) W (W.setCell ⟨d, o, none⟩ x) := fun W o x => Grow.setCell (own := fun k => k = d) W _ x rfl
              have gD := Grow.trans (Grow.trans (Grow.trans (Grow.trans (Grow.trans (gg wr 0 (.int .i64 b.okind)) (gg _ 1 (.string ⟨b.path.toArray⟩))) (gg _ 2 (.string ⟨b.dest.toArray⟩))) (gg _ 3 (.int .i64 b.at_))) (gg _ 4 (.int .i64 b.on))) (gg _ 5 (.slice p k8 m))
              have hsl := SliceB.grow HI.out.sl gD (fun A n k e _ hk => HI.out.off A n k e (by have hk : A.block = d := hk; show A.block < c + 1; omega))
              have hnw := Grow.trans HI.out.new (gD.mono (fun k hk => by have hk : k = d := hk; have := HD.out; show w.heap.size ≤ k; omega))
              have HFIN := Lib.hid (And.intro hfin (And.intro hsl hnw))
              clear hfin gg gD hsl hnw HF hk8
              obtain ⟨x0, x1, x2, x3, x4, x5, xf⟩ := HI.out.x
              obtain ⟨z0, z1, z2, z3, z4, z5, zf⟩ := HI.out.z
              go_wp2_with fail
              refine bodyPost_ret (results_cell_tmp rfl rfl (load26 HFIN.out.1)) rfl ⟨b, .slice p k8 m, ret_vb HE.out.1, HE.out.2, ⟨HFIN.out.2.1, HI.out.off.sub (fun k hk => by have := HD.out; omega)⟩, HFIN.out.2.2⟩
        · have HX := Lib.hid (HNEXT.out (fun h => hln h.2))
          have e1 : ((L : Int) != (n : Int) + 1) = true := by simp; omega
          have e2 : ((L : Int) == (n : Int) + 1) = false := by simp; omega
          subst hnm
          clear hln HNEXT
          go_wp2_with fail
          go_round
          case rel => exact ⟨trivial, by (repeat apply Exists.intro); exact ⟨⟨j + 1, by go_num, by omega, by omega, HX.out⟩, rfl⟩⟩
          case measure => simp [intOf]; omega
      · have HX := Lib.hid (HNEXT.out (fun h => hnm h.1))
        have e1 : (s0 == nm) = false := by simp; exact fun e => hnm e.symm
        clear hnm HNEXT
        go_wp2_with fail
        go_round
        case rel => exact ⟨trivial, by (repeat apply Exists.intro); exact ⟨⟨j + 1, by go_num, by omega, by omega, HX.out⟩, rfl⟩⟩
        case measure => simp [intOf]; omega
    · have hjn : j = 12 := by omega
      subst hjn
      have HR := Lib.hid (nomatch_none rfl HNO.out)
      obtain ⟨d0, d1, d2, d3, d4, d5, df⟩ := H0.out.1
      go_wp2_with fail
      have hfin := (((((H0.out.1.set0 0).set1 []).set2 []).set3 0).set4 0).set5 (.slice none 0 0) []
      refine bodyPost_ret (results_cell_tmp rfl rfl (load26 hfin)) rfl ⟨ActL.zero, .slice none 0 0, by rw [HR.out]; rfl, fun c hc => absurd (HR.out.symm.trans hc) (by simp), ⟨SliceB.nil _, Off.nil _⟩, ?_⟩
      have g : ∀ (W : World) (o : Nat) (x : Value), Grow (fun k => k = d) W (W.setCell ⟨d, o, none⟩ x) := fun W o x => Grow.setCell (own := fun k => k = d) W _ x rfl
      exact Grow.trans H0.out.2 ((Grow.trans (Grow.trans (Grow.trans (Grow.trans (Grow.trans (g _ _ _) (g _ _ _)) (g _ _ _)) (g _ _ _)) (g _ _ _)) (g _ _ _)).mono (fun k hk => by have hk : k = d := hk; have := HD.out; show w.heap.size ≤ k; omega))

end Go.Proofs.YtgdaaafejfjilaaGreatDoor
