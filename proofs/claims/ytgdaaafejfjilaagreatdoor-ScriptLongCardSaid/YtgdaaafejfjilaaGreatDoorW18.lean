/- contracts: script.Same -/
import Derived.Test.YtgdaaafejfjilaaGreatDoorW17
import Derived.Test.YtgdaaafejfjilaaGreatDoorW14
import Derived.RegionTactic
namespace Go.Proofs.YtgdaaafejfjilaaGreatDoor
open Go.RowKit
attribute [local go_sem] Oper.semAt_some undef

theorem same_false {a b : ActL} (h : ¬ a = b) : false = sameL a b := by
  cases hs : sameL a b with
  | false => rfl
  | true => exact absurd (sameL_iff.1 hs) h

/-- an operation's cells -/
structure OpC (w : World) (b : Nat) (a : ActL) (v8 : Value) : Prop where
  c0 : w.cell? ⟨b, 0, none⟩ = some (.int .i64 a.okind)
  c1 : w.cell? ⟨b, 1, none⟩ = some (.string ⟨(a.path).toArray⟩)
  c2 : w.cell? ⟨b, 2, none⟩ = some (.string ⟨(a.dest).toArray⟩)
  c3 : w.cell? ⟨b, 3, none⟩ = some (.int .i64 a.at_)
  c4 : w.cell? ⟨b, 4, none⟩ = some (.int .i64 a.on)
  c5 : w.cell? ⟨b, 5, none⟩ = some v8

set_option maxRecDepth 100000 in
set_option maxHeartbeats 6400000 in
theorem same_any (a b : ActL) (p8 p9 q8 q9 : Option Addr) (n8 n9 m8 m9 k8 k9 l8 l9 : Nat) (w : World) (ha : SliceB w (.slice p8 n8 m8) a.bytes ∧ SliceM w (.slice p9 n9 m9) a.marks) (hb : SliceB w (.slice q8 k8 l8) b.bytes ∧ SliceM w (.slice q9 k9 l9) b.marks)
    (hla : a.bytes.length ≤ 1000000 ∧ a.marks.length ≤ 1000000) (hlb : b.bytes.length ≤ 1000000 ∧ b.marks.length ≤ 1000000) :
    Calls Tryz.prog 17 #[actV a (.slice p8 n8 m8) (.slice p9 n9 m9), actV b (.slice q8 k8 l8) (.slice q9 k9 l9)] w fun e w' => e = .returned (.bool (sameL a b)) ∧ Newer w w' := by
  obtain ⟨ka, ta, na, oa, pa, da, xa, ga, ya, ma⟩ := a
  obtain ⟨kb, tb, nb, ob, pb, db, xb, gb, yb, mb⟩ := b
  have HS := Lib.hid (And.intro ha hb)
  have HL := Lib.hid (And.intro hla hlb)
  clear ha hb hla hlb
  unfold actV
  go_enter Tryz.func17, Tryz.ntmps17
  go_wp2_with fail
  obtain ⟨x, hx⟩ : ∃ x, w.heap.size = x := ⟨_, rfl⟩
  obtain ⟨y, hy⟩ : ∃ y, x + 1 = y := ⟨_, rfl⟩
  rw [hx, hy]
  obtain ⟨w0, hw0⟩ : ∃ w0, (w.alloc (.cells #[.int .i64 ka, .int .i64 ta, .int .i64 na, .int .i64 oa, .string ⟨pa.toArray⟩, .string ⟨da.toArray⟩, .int .i64 xa, .int .i64 ga, .slice p8 n8 m8, .slice p9 n9 m9] 29)).alloc (.cells #[.int .i64 kb, .int .i64 tb, .int .i64 nb, .int .i64 ob, .string ⟨pb.toArray⟩, .string ⟨db.toArray⟩, .int .i64 xb, .int .i64 gb, .slice q8 k8 l8, .slice q9 k9 l9] 29) = w0 := ⟨_, rfl⟩
  rw [hw0]
  have hA : ActC w0 x ⟨ka, ta, na, oa, pa, da, xa, ga, ya, ma⟩ (.slice p8 n8 m8) (.slice p9 n9 m9) := by
    subst hw0 hy hx
    constructor <;> simp [go_sem]
  have hB : ActC w0 y ⟨kb, tb, nb, ob, pb, db, xb, gb, yb, mb⟩ (.slice q8 k8 l8) (.slice q9 k9 l9) := by
    subst hw0 hy hx
    constructor <;> simp [go_sem]
  have nw : Newer w w0 := hw0 ▸ (Newer.alloc _ _).trans (Newer.alloc _ _)
  have hz : w0.heap.size = y + 1 := by subst hy hx hw0; simp
  clear hw0
  have e1 : x < w0.heap.size := by omega
  have e2 : ¬ x = w0.heap.size := by omega
  have e3 : ¬ w0.heap.size = x := by omega
  have e4 : x < w0.heap.size + 1 := by omega
  have e5 : ¬ x = w0.heap.size + 1 := by omega
  have e6 : ¬ w0.heap.size + 1 = x := by omega
  have e7 : y < w0.heap.size := by omega
  have e8 : ¬ y = w0.heap.size := by omega
  have e9 : ¬ w0.heap.size = y := by omega
  have e10 : y < w0.heap.size + 1 := by omega
  have e11 : ¬ y = w0.heap.size + 1 := by omega
  have e12 : ¬ w0.heap.size + 1 = y := by omega
  have HAC := Lib.hid (And.intro hA (And.intro hB nw))
  have hyw : x < w0.heap.size ∧ y < w0.heap.size := by omega
  have HYW := Lib.hid hyw
  obtain ⟨a0, a1, a2, a3, a4, a5, a6, a7, a8, a9⟩ := hA
  obtain ⟨b0, b1, b2, b3, b4, b5, b6, b7, b8, b9⟩ := hB
  simp only at a3 a4 a5 a6 a7 a8 b3 b4 b5 b6 b7 b8
  clear hx hy hz nw a0 a1 a2 a9 b0 b1 b2 b9 hyw
  rename_i KK hKK
  have hJ : ∀ (c d : Nat) (X : World) (u7 u8 u9 u10 : Value), OpC X c ⟨ka, ta, na, oa, pa, da, xa, ga, ya, ma⟩ (.slice p8 n8 m8) → OpC X d ⟨kb, tb, nb, ob, pb, db, xb, gb, yb, mb⟩ (.slice q8 k8 l8) → Newer w0 X →
      KK { tmps := #[.agg #[.int .i64 ka, .int .i64 ta, .int .i64 na, .int .i64 oa, .string ⟨pa.toArray⟩, .string ⟨da.toArray⟩, .int .i64 xa, .int .i64 ga, .slice p8 n8 m8, .slice p9 n9 m9], .agg #[.int .i64 kb, .int .i64 tb, .int .i64 nb, .int .i64 ob, .string ⟨pb.toArray⟩, .string ⟨db.toArray⟩, .int .i64 xb, .int .i64 gb, .slice q8 k8 l8, .slice q9 k9 l9], .pointer (some ⟨x, 0, none⟩), .pointer (some ⟨y, 0, none⟩), .bool false, .pointer (some ⟨c, 0, none⟩), .pointer (some ⟨d, 0, none⟩), u7, u8, u9, u10, undef, undef, undef, undef, undef, undef, undef, undef, undef, undef, undef, undef, undef, undef, undef, undef, undef, undef, undef, undef, undef, undef, undef, undef, undef, undef, undef, undef, undef, undef, undef, undef, undef, undef, undef, undef, undef, undef, undef, undef, undef, undef, undef, undef, undef, undef, undef, undef, undef, undef, undef, undef, undef, undef, undef, undef, undef, undef, undef, undef, undef, undef, undef, undef, undef, undef, undef, undef, undef, undef, undef, undef, undef, undef, undef, undef, undef], defers := [] } X := by
    intro c d X u7 u8 u9 u10 hc hd hX
    apply hKK
    clear hKK KK e1 e2 e3 e4 e5 e6 e7 e8 e9 e10 e11 e12 a3 a4 a5 a6 a7 a8 b3 b4 b5 b6 b7 b8
    obtain ⟨hA, hB, nw⟩ := HAC.out
    have gA : ActC X x _ _ _ := ActC.grow hA hX (fun h => by have h : w0.heap.size ≤ x := h; have := HYW.out.1; omega)
    have gB : ActC X y _ _ _ := ActC.grow hB hX (fun h => by have h : w0.heap.size ≤ y := h; have := HYW.out.2; omega)
    have HNW := Lib.hid (nw.trans hX)
    have HY := Lib.hid (And.intro (HS.out.1.1.newer HNW.out) (HS.out.2.1.newer HNW.out))
    have HM := Lib.hid (And.intro (HS.out.1.2.newer HNW.out) (HS.out.2.2.newer HNW.out))
    have HLY : Hid (ya.length ≤ 100000000 ∧ yb.length ≤ 100000000) := Lib.hid (by exact ⟨Nat.le_trans HL.out.1.1 (by decide), Nat.le_trans HL.out.2.1 (by decide)⟩)
    have HLM : Hid (ma.length ≤ 100000000 ∧ mb.length ≤ 100000000) := Lib.hid (by exact ⟨Nat.le_trans HL.out.1.2 (by decide), Nat.le_trans HL.out.2.2 (by decide)⟩)
    obtain ⟨a0, a1, a2, -, -, -, -, -, -, a9⟩ := gA
    obtain ⟨b0, b1, b2, -, -, -, -, -, -, b9⟩ := gB
    obtain ⟨c0, c1, c2, c3, c4, c5⟩ := hc
    obtain ⟨d0, d1, d2, d3, d4, d5⟩ := hd
    simp only at a0 a1 a2 a9 b0 b1 b2 b9 c0 c1 c2 c3 c4 c5 d0 d1 d2 d3 d4 d5
    clear HS HL HAC HYW hA hB nw hX
    by_cases hk : ka = kb
    · subst hk
      by_cases ht : ta = tb
      · subst ht
        by_cases hn : na = nb
        · subst hn
          by_cases hm : ma = mb
          · subst hm
            by_cases ho : oa = ob
            · subst ho
              by_cases hp : pa = pb
              · subst hp
                by_cases hd : da = db
                · subst hd
                  by_cases hx : xa = xb
                  · subst hx
                    by_cases hg : ga = gb
                    · subst hg
                      by_cases hy : ya = yb
                      · subst hy
                        go_wp2_with fail
                        go_quiet (first | (go_at_call 33; exact Calls.quiet_of (eqM_any _ _ _ _ _ (HM.out.1.newer (Newer.drewN _ _)) (HM.out.2.newer (Newer.drewN _ _)) HLM.out.1 HLM.out.2)) | (go_at_call 34; exact Calls.quiet_of (eqB_any _ _ _ _ _ (HY.out.1.newer (Newer.drewN _ _)) (HY.out.2.newer (Newer.drewN _ _)) HLY.out.1 HLY.out.2)) | (go_at_call 35; exact Calls.quiet_of_same ((asks_any _ _).mono (fun _ _ h => ⟨h.1, h.2.symm⟩))))
                        go_wp2
                        go_ret
                        exact ⟨ret_bool (sameL_iff.2 rfl).symm, HNW.out.trans (Newer.drewN _ _)⟩
                      · have fy : (ya == yb) = false := by simpa using hy
                        have HF := Lib.hid hy
                        clear hy
                        go_wp2_with fail
                        go_quiet (first | (go_at_call 33; exact Calls.quiet_of (eqM_any _ _ _ _ _ (HM.out.1.newer (Newer.drewN _ _)) (HM.out.2.newer (Newer.drewN _ _)) HLM.out.1 HLM.out.2)) | (go_at_call 34; exact Calls.quiet_of (eqB_any _ _ _ _ _ (HY.out.1.newer (Newer.drewN _ _)) (HY.out.2.newer (Newer.drewN _ _)) HLY.out.1 HLY.out.2)) | (go_at_call 35; exact Calls.quiet_of_same ((asks_any _ _).mono (fun _ _ h => ⟨h.1, h.2.symm⟩))))
                        go_wp2
                        go_ret
                        exact ⟨ret_bool (same_false (fun e => HF.out (by injection e))), HNW.out.trans (Newer.drewN _ _)⟩
                    · have fg : (ga == gb) = false := by simpa using hg
                      have HF := Lib.hid hg
                      clear hg
                      go_wp2_with fail
                      go_quiet (first | (go_at_call 33; exact Calls.quiet_of (eqM_any _ _ _ _ _ (HM.out.1.newer (Newer.drewN _ _)) (HM.out.2.newer (Newer.drewN _ _)) HLM.out.1 HLM.out.2)) | (go_at_call 34; exact Calls.quiet_of (eqB_any _ _ _ _ _ (HY.out.1.newer (Newer.drewN _ _)) (HY.out.2.newer (Newer.drewN _ _)) HLY.out.1 HLY.out.2)) | (go_at_call 35; exact Calls.quiet_of_same ((asks_any _ _).mono (fun _ _ h => ⟨h.1, h.2.symm⟩))))
                      go_wp2
                      go_ret
                      exact ⟨ret_bool (same_false (fun e => HF.out (by injection e))), HNW.out.trans (Newer.drewN _ _)⟩
                  · have fx : (xa == xb) = false := by simpa using hx
                    have HF := Lib.hid hx
                    clear hx
                    go_wp2_with fail
                    go_quiet (first | (go_at_call 33; exact Calls.quiet_of (eqM_any _ _ _ _ _ (HM.out.1.newer (Newer.drewN _ _)) (HM.out.2.newer (Newer.drewN _ _)) HLM.out.1 HLM.out.2)) | (go_at_call 34; exact Calls.quiet_of (eqB_any _ _ _ _ _ (HY.out.1.newer (Newer.drewN _ _)) (HY.out.2.newer (Newer.drewN _ _)) HLY.out.1 HLY.out.2)) | (go_at_call 35; exact Calls.quiet_of_same ((asks_any _ _).mono (fun _ _ h => ⟨h.1, h.2.symm⟩))))
                    go_wp2
                    go_ret
                    exact ⟨ret_bool (same_false (fun e => HF.out (by injection e))), HNW.out.trans (Newer.drewN _ _)⟩
                · have fd : (da == db) = false := by simpa using hd
                  have HF := Lib.hid hd
                  clear hd
                  go_wp2_with fail
                  go_quiet (first | (go_at_call 33; exact Calls.quiet_of (eqM_any _ _ _ _ _ (HM.out.1.newer (Newer.drewN _ _)) (HM.out.2.newer (Newer.drewN _ _)) HLM.out.1 HLM.out.2)) | (go_at_call 34; exact Calls.quiet_of (eqB_any _ _ _ _ _ (HY.out.1.newer (Newer.drewN _ _)) (HY.out.2.newer (Newer.drewN _ _)) HLY.out.1 HLY.out.2)) | (go_at_call 35; exact Calls.quiet_of_same ((asks_any _ _).mono (fun _ _ h => ⟨h.1, h.2.symm⟩))))
                  go_wp2
                  go_ret
                  exact ⟨ret_bool (same_false (fun e => HF.out (by injection e))), HNW.out.trans (Newer.drewN _ _)⟩
              · have fp : (pa == pb) = false := by simpa using hp
                have HF := Lib.hid hp
                clear hp
                go_wp2_with fail
                go_quiet (first | (go_at_call 33; exact Calls.quiet_of (eqM_any _ _ _ _ _ (HM.out.1.newer (Newer.drewN _ _)) (HM.out.2.newer (Newer.drewN _ _)) HLM.out.1 HLM.out.2)) | (go_at_call 34; exact Calls.quiet_of (eqB_any _ _ _ _ _ (HY.out.1.newer (Newer.drewN _ _)) (HY.out.2.newer (Newer.drewN _ _)) HLY.out.1 HLY.out.2)) | (go_at_call 35; exact Calls.quiet_of_same ((asks_any _ _).mono (fun _ _ h => ⟨h.1, h.2.symm⟩))))
                go_wp2
                go_ret
                exact ⟨ret_bool (same_false (fun e => HF.out (by injection e))), HNW.out.trans (Newer.drewN _ _)⟩
            · have fo : (oa == ob) = false := by simpa using ho
              have HF := Lib.hid ho
              clear ho
              go_wp2_with fail
              go_quiet (first | (go_at_call 33; exact Calls.quiet_of (eqM_any _ _ _ _ _ (HM.out.1.newer (Newer.drewN _ _)) (HM.out.2.newer (Newer.drewN _ _)) HLM.out.1 HLM.out.2)) | (go_at_call 34; exact Calls.quiet_of (eqB_any _ _ _ _ _ (HY.out.1.newer (Newer.drewN _ _)) (HY.out.2.newer (Newer.drewN _ _)) HLY.out.1 HLY.out.2)) | (go_at_call 35; exact Calls.quiet_of_same ((asks_any _ _).mono (fun _ _ h => ⟨h.1, h.2.symm⟩))))
              go_wp2
              go_ret
              exact ⟨ret_bool (same_false (fun e => HF.out (by injection e))), HNW.out.trans (Newer.drewN _ _)⟩
          · have fm : (ma == mb) = false := by simpa using hm
            have HF := Lib.hid hm
            clear hm
            go_wp2_with fail
            go_quiet (first | (go_at_call 33; exact Calls.quiet_of (eqM_any _ _ _ _ _ (HM.out.1.newer (Newer.drewN _ _)) (HM.out.2.newer (Newer.drewN _ _)) HLM.out.1 HLM.out.2)) | (go_at_call 34; exact Calls.quiet_of (eqB_any _ _ _ _ _ (HY.out.1.newer (Newer.drewN _ _)) (HY.out.2.newer (Newer.drewN _ _)) HLY.out.1 HLY.out.2)) | (go_at_call 35; exact Calls.quiet_of_same ((asks_any _ _).mono (fun _ _ h => ⟨h.1, h.2.symm⟩))))
            go_wp2
            go_ret
            exact ⟨ret_bool (same_false (fun e => HF.out (by injection e))), HNW.out.trans (Newer.drewN _ _)⟩
        · have fn : (na == nb) = false := by simpa using hn
          have HF := Lib.hid hn
          clear hn
          go_wp2_with fail
          go_quiet (first | (go_at_call 33; exact Calls.quiet_of (eqM_any _ _ _ _ _ (HM.out.1.newer (Newer.drewN _ _)) (HM.out.2.newer (Newer.drewN _ _)) HLM.out.1 HLM.out.2)) | (go_at_call 34; exact Calls.quiet_of (eqB_any _ _ _ _ _ (HY.out.1.newer (Newer.drewN _ _)) (HY.out.2.newer (Newer.drewN _ _)) HLY.out.1 HLY.out.2)) | (go_at_call 35; exact Calls.quiet_of_same ((asks_any _ _).mono (fun _ _ h => ⟨h.1, h.2.symm⟩))))
          go_wp2
          go_ret
          exact ⟨ret_bool (same_false (fun e => HF.out (by injection e))), HNW.out.trans (Newer.drewN _ _)⟩
      · have ft : (ta == tb) = false := by simpa using ht
        have HF := Lib.hid ht
        clear ht
        go_wp2_with fail
        go_quiet (first | (go_at_call 33; exact Calls.quiet_of (eqM_any _ _ _ _ _ (HM.out.1.newer (Newer.drewN _ _)) (HM.out.2.newer (Newer.drewN _ _)) HLM.out.1 HLM.out.2)) | (go_at_call 34; exact Calls.quiet_of (eqB_any _ _ _ _ _ (HY.out.1.newer (Newer.drewN _ _)) (HY.out.2.newer (Newer.drewN _ _)) HLY.out.1 HLY.out.2)) | (go_at_call 35; exact Calls.quiet_of_same ((asks_any _ _).mono (fun _ _ h => ⟨h.1, h.2.symm⟩))))
        go_wp2
        go_ret
        exact ⟨ret_bool (same_false (fun e => HF.out (by injection e))), HNW.out.trans (Newer.drewN _ _)⟩
    · have fk : (ka == kb) = false := by simpa using hk
      have HF := Lib.hid hk
      clear hk
      go_wp2_with fail
      go_quiet (first | (go_at_call 33; exact Calls.quiet_of (eqM_any _ _ _ _ _ (HM.out.1.newer (Newer.drewN _ _)) (HM.out.2.newer (Newer.drewN _ _)) HLM.out.1 HLM.out.2)) | (go_at_call 34; exact Calls.quiet_of (eqB_any _ _ _ _ _ (HY.out.1.newer (Newer.drewN _ _)) (HY.out.2.newer (Newer.drewN _ _)) HLY.out.1 HLY.out.2)) | (go_at_call 35; exact Calls.quiet_of_same ((asks_any _ _).mono (fun _ _ h => ⟨h.1, h.2.symm⟩))))
      go_wp2
      go_ret
      exact ⟨ret_bool (same_false (fun e => HF.out (by injection e))), HNW.out.trans (Newer.drewN _ _)⟩
  clear hKK
  go_region
  all_goals
    refine hJ _ _ _ _ _ _ _ ?_ ?_ ?_
    · constructor <;> simp [go_sem]
    · constructor <;> simp [go_sem]
    · exact ((Newer.alloc _ _).trans (Newer.alloc _ _)).trans (Newer.drew _)

end Go.Proofs.YtgdaaafejfjilaaGreatDoor
