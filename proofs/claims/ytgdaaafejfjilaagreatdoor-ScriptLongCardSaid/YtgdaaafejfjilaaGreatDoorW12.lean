/- contracts of package script: parsed -/
import Derived.Test.YtgdaaafejfjilaaGreatDoorW11
namespace Go.Proofs.YtgdaaafejfjilaaGreatDoor
open Go.RowKit Go.Maps
attribute [local go_sem] Oper.semAt_some undef

theorem parse_q_bad {s s0 o0 : Bs} {l0 l2 : List Bs} {a : ActL} (h : wordsL 32 s = s0 :: l0) (hk : kindL s0 = some 1) (hf : fillL (verbL 1).2 { ActL.zero with kind := 1 } l0 = some (a, o0 :: l2)) (ho : opkL o0 = none) : parseL s = none := by
  rw [parse_queue h hk hf]
  simp only [ho]
theorem parse_q_nofill {s s0 o0 : Bs} {l0 l2 : List Bs} {a : ActL} {x : Int} (h : wordsL 32 s = s0 :: l0) (hk : kindL s0 = some 1) (hf : fillL (verbL 1).2 { ActL.zero with kind := 1 } l0 = some (a, o0 :: l2)) (ho : opkL o0 = some x)
    (hg : fillL (opL x).2 { a with okind := x } l2 = none) : parseL s = none := by
  rw [parse_queue h hk hf]
  simp only [ho, hg]
theorem parse_q_end {s s0 o0 : Bs} {l0 l2 l3 : List Bs} {a b : ActL} {x : Int} (h : wordsL 32 s = s0 :: l0) (hk : kindL s0 = some 1) (hf : fillL (verbL 1).2 { ActL.zero with kind := 1 } l0 = some (a, o0 :: l2)) (ho : opkL o0 = some x)
    (hg : fillL (opL x).2 { a with okind := x } l2 = some (b, l3)) : parseL s = if l3 = [] then some b else none := by
  rw [parse_queue h hk hf]
  simp only [ho, hg]

set_option maxRecDepth 100000 in
set_option maxHeartbeats 6400000 in
theorem parsed_any (s : Bs) (hs : s.length ≤ 100000) (w : World) (E : Env w) :
    Calls Tryz.prog 31 #[.string ⟨s.toArray⟩] w (ParsedPost s w) := by
  go_enter Tryz.func31, Tryz.ntmps31
  go_wp2_with fail
  obtain ⟨b, hb⟩ : ∃ b, w.heap.size = b := ⟨_, rfl⟩
  obtain ⟨ll, hll⟩ : ∃ ll, wordsL 32 s = ll := ⟨_, rfl⟩
  obtain ⟨n, hn⟩ : ∃ n, ll.length = n := ⟨_, rfl⟩
  obtain ⟨w0, hw0⟩ : ∃ w0, w.alloc (.cells #[.int .i64 0, .int .i64 0, .int .i64 0, .int .i64 0, .string ⟨#[]⟩, .string ⟨#[]⟩, .int .i64 0, .int .i64 0, .slice none 0 0, .slice none 0 0] 29) = w0 := ⟨_, rfl⟩
  have E0 : Env w0 := E.newer (hw0 ▸ Newer.alloc _ _)
  have z0 : w0.heap.size = b + 1 := by rw [← hw0, ← hb]; simp
  obtain ⟨m, hm⟩ := E0.ml
  rw [hw0, hb]
  refine (Tryz.strings_Split _ _ m w0 (by show s.toArray.size < _; simp; omega) hm (by decide)).mono ?_
  rintro e w1 ⟨rfl, hw1⟩
  obtain ⟨q1, q2⟩ := split_cells s
  rw [q1, hll] at hw1
  rw [q2, hll, hn, z0]
  have z1 : w1.heap.size = b + 2 := by rw [hw1]; simp [z0]
  have I0 := start_parse s hs w w0 w1 b n ll E hb hll hn hw0 hw1
  clear q1 q2 hm E0
  have HW := Lib.hid (And.intro hw0 hw1)
  have HN := Lib.hid (And.intro hll hn)
  have EE := Lib.hid E
  clear hw0 hw1 hll hn E z0
  go_wp2_with fail
  obtain ⟨W0, hW0⟩ : ∃ x, w1.alloc (.cells #[.slice (some ⟨b + 1, 0, none⟩) n n] 98) = x := ⟨_, rfl⟩
  rw [hW0] at I0 ⊢
  obtain ⟨s0, l0, hl0⟩ := words_some 32 s
  have hl0' := hl0
  rw [HN.out.1] at hl0
  subst hl0
  have HR0 := Lib.hid (RG.start I0 EE.out)
  have HPI := Lib.hid I0
  have HSUB : Hid (∀ k, k < w.heap.size → k = b ∨ k = b + 2 ∨ k < b) := Lib.hid (fun k hk => .inr (.inr (by omega)))
  clear hW0 I0 z1 HN hb
  have HLL := Lib.hid hl0'
  clear hl0'
  rename_i KK hKK
  cases hk : kindL s0 with
  | none =>
    have HK := Lib.hid hk
    have HX := Lib.hid (parse_nokind HLL.out hk)
    clear hk hKK
    refine wp_region_any (by kernel_rfl) ?_
    (try (change wpAny _ _ _ _ _ _ _ (World.drew _)))
    obtain ⟨V0, hV0⟩ : ∃ yw, World.drew W0 = yw := ⟨_, rfl⟩
    rw [hV0]
    have G0 := Lib.hid (HR0.out.newer (hV0 ▸ Newer.drew W0))
    clear hV0
    refine wpAny_take (i := 1) (v := ?_) rfl (by kernel_rfl) (by kernel_rfl) (by kernel_rfl) (fun _ _ _ h => h) (Or.inl ⟨by rfl, ?_⟩) ?_
    rotate_left 1
    · intro w; go_simp; try with_reducible rfl
    refine wpAny_take (i := 2) (v := ?_) rfl (by kernel_rfl) (by kernel_rfl) (by kernel_rfl) (fun _ _ _ h => h) (Or.inl ⟨by rfl, ?_⟩) ?_
    rotate_left 1
    · intro w; go_simp; try with_reducible rfl
    refine wpAny_take (i := 3) (v := ?_) rfl (by kernel_rfl) (by kernel_rfl) (by kernel_rfl) (fun _ _ _ h => h) (Or.inl ⟨by rfl, ?_⟩) ?_
    rotate_left 1
    · intro w; go_simp; try with_reducible rfl
    refine wpAny_ready (rs := [0, 9]) (by kernel_rfl) (by simp) ?_
    refine AllReady.cons rfl (fun KK hKK => ?_) ?_
    · go_simp
      obtain ⟨B, hB⟩ : ∃ B, V0.heap.size = B := ⟨_, rfl⟩
      refine (verbs_any _).mono ?_
      rintro e V1 ⟨rfl, hm, hbl⟩
      rw [hB] at hm ⊢
      have MV1 := Lib.hid (And.intro hm (RG.pos G0.out hB))
      have GV1 := Lib.hid (G0.out.newer (Newer.of hbl))
      clear hm hbl hB
      refine hKK _ _ ?_
      clear hKK KK
      refine wpAny_ready (rs := [4, 9]) (by kernel_rfl) (by simp) ?_
      refine AllReady.cons rfl (fun KK hKK => ?_) ?_
      · go_simp
        refine (take_some _ _ _ _ _ GV1.out.words).mono ?_
        rintro e V3 ⟨rfl, hw, u, hu⟩
        have GV3 := Lib.hid (GV1.out.took hw hu)
        have MV3 := Lib.hid (And.intro (own_took MV1.out.1 MV1.out.2 hu) MV1.out.2)
        clear hw hu
        refine hKK _ _ ?_
        clear hKK KK
        refine wpAny_ready (rs := [5, 9]) (by kernel_rfl) (by simp) ?_
        refine AllReady.cons rfl (fun KK hKK => ?_) ?_
        · go_simp
          refine (kindA_any s0 B _ MV3.out.1).mono ?_
          rintro e V5 ⟨hh, hn⟩
          rcases hh with ⟨k, hk, rfl⟩ | ⟨hk, rfl⟩
          · rw [HK.out] at hk; cases hk
          exact ⟨rfl, .inr ⟨HX.out, rfl⟩, RG.new HPI.out (GV3.out.newer hn)⟩
        refine AllReady.cons rfl (fun KK hKK => ?_) AllReady.nil
        · go_simp
          obtain ⟨v5, h5⟩ : ∃ v5, V3.heap.size = v5 := ⟨_, rfl⟩
          obtain ⟨V6, hX⟩ : ∃ yw, V3.alloc (.cells #[.string ⟨#[]⟩, .string ⟨#[]⟩] 79) = yw := ⟨_, rfl⟩
          rw [hX, h5]
          have CV6 := Lib.hid (Cell5.made GV3.out h5 hX)
          have GV6 := Lib.hid (GV3.out.newer (hX ▸ Newer.alloc _ _))
          have MV6 := Lib.hid (And.intro (own_grown MV3.out.1 (hX ▸ Newer.alloc _ _)) MV3.out.2)
          clear hX h5
          refine hKK _ _ ?_
          clear hKK KK
          refine wpAny_ready (rs := [5]) (by kernel_rfl) (by simp) ?_
          refine AllReady.cons rfl (fun KK hKK => ?_) AllReady.nil
          go_simp
          refine (kindA_any s0 B _ MV6.out.1).mono ?_
          rintro e V7 ⟨hh, hn⟩
          rcases hh with ⟨k, hk, rfl⟩ | ⟨hk, rfl⟩
          · rw [HK.out] at hk; cases hk
          exact ⟨rfl, .inr ⟨HX.out, rfl⟩, RG.new HPI.out (GV6.out.newer hn)⟩
      refine AllReady.cons rfl (fun KK hKK => ?_) AllReady.nil
      · go_simp
        obtain ⟨v5, h5⟩ : ∃ v5, V1.heap.size = v5 := ⟨_, rfl⟩
        obtain ⟨V4, hX⟩ : ∃ yw, V1.alloc (.cells #[.string ⟨#[]⟩, .string ⟨#[]⟩] 79) = yw := ⟨_, rfl⟩
        rw [hX, h5]
        have CV4 := Lib.hid (Cell5.made GV1.out h5 hX)
        have GV4 := Lib.hid (GV1.out.newer (hX ▸ Newer.alloc _ _))
        have MV4 := Lib.hid (And.intro (own_grown MV1.out.1 (hX ▸ Newer.alloc _ _)) MV1.out.2)
        clear hX h5
        refine hKK _ _ ?_
        clear hKK KK
        refine wpAny_ready (rs := [4]) (by kernel_rfl) (by simp) ?_
        refine AllReady.cons rfl (fun KK hKK => ?_) AllReady.nil
        go_simp
        refine (take_some _ _ _ _ _ GV4.out.words).mono ?_
        rintro e V8 ⟨rfl, hw, u, hu⟩
        have GV8 := Lib.hid (GV4.out.took hw hu)
        have MV8 := Lib.hid (And.intro (own_took MV4.out.1 MV4.out.2 hu) MV4.out.2)
        have CV8 := Lib.hid (CV4.out.took hu)
        clear hw hu
        refine hKK _ _ ?_
        clear hKK KK
        refine wpAny_ready (rs := [5]) (by kernel_rfl) (by simp) ?_
        refine AllReady.cons rfl (fun KK hKK => ?_) AllReady.nil
        go_simp
        refine (kindA_any s0 B _ MV8.out.1).mono ?_
        rintro e V9 ⟨hh, hn⟩
        rcases hh with ⟨k, hk, rfl⟩ | ⟨hk, rfl⟩
        · rw [HK.out] at hk; cases hk
        exact ⟨rfl, .inr ⟨HX.out, rfl⟩, RG.new HPI.out (GV8.out.newer hn)⟩
    refine AllReady.cons rfl (fun KK hKK => ?_) AllReady.nil
    · go_simp
      obtain ⟨v5, h5⟩ : ∃ v5, V0.heap.size = v5 := ⟨_, rfl⟩
      obtain ⟨V2, hX⟩ : ∃ yw, V0.alloc (.cells #[.string ⟨#[]⟩, .string ⟨#[]⟩] 79) = yw := ⟨_, rfl⟩
      rw [hX, h5]
      have CV2 := Lib.hid (Cell5.made G0.out h5 hX)
      have GV2 := Lib.hid (G0.out.newer (hX ▸ Newer.alloc _ _))
      clear hX h5
      refine hKK _ _ ?_
      clear hKK KK
      refine wpAny_ready (rs := [0]) (by kernel_rfl) (by simp) ?_
      refine AllReady.cons rfl (fun KK hKK => ?_) AllReady.nil
      go_simp
      obtain ⟨B, hB⟩ : ∃ B, V2.heap.size = B := ⟨_, rfl⟩
      refine (verbs_any _).mono ?_
      rintro e V10 ⟨rfl, hm, hbl⟩
      rw [hB] at hm ⊢
      have MV10 := Lib.hid (And.intro hm (RG.pos GV2.out hB))
      have GV10 := Lib.hid (GV2.out.newer (Newer.of hbl))
      have CV10 := Lib.hid (CV2.out.newer (Newer.of hbl))
      clear hm hbl hB
      refine hKK _ _ ?_
      clear hKK KK
      refine wpAny_ready (rs := [4]) (by kernel_rfl) (by simp) ?_
      refine AllReady.cons rfl (fun KK hKK => ?_) AllReady.nil
      go_simp
      refine (take_some _ _ _ _ _ GV10.out.words).mono ?_
      rintro e V11 ⟨rfl, hw, u, hu⟩
      have GV11 := Lib.hid (GV10.out.took hw hu)
      have MV11 := Lib.hid (And.intro (own_took MV10.out.1 MV10.out.2 hu) MV10.out.2)
      have CV11 := Lib.hid (CV10.out.took hu)
      clear hw hu
      refine hKK _ _ ?_
      clear hKK KK
      refine wpAny_ready (rs := [5]) (by kernel_rfl) (by simp) ?_
      refine AllReady.cons rfl (fun KK hKK => ?_) AllReady.nil
      go_simp
      refine (kindA_any s0 B _ MV11.out.1).mono ?_
      rintro e V12 ⟨hh, hn⟩
      rcases hh with ⟨k, hk, rfl⟩ | ⟨hk, rfl⟩
      · rw [HK.out] at hk; cases hk
      exact ⟨rfl, .inr ⟨HX.out, rfl⟩, RG.new HPI.out (GV11.out.newer hn)⟩

  | some k =>
    have HK := Lib.hid hk
    clear hk
    have hJ : ∀ (v5 : Nat) (X : World) (u8 u9 u10 u11 u12 u13 u14 u15 u16 u17 u18 u19 u20 u21 : Value), PI b (b + 2) w X ActL.zero l0 → (X.cell? ⟨v5, 0, none⟩ = some (.string ⟨(verbL k).1.toArray⟩) ∧ X.cell? ⟨v5, 1, none⟩ = some (.string ⟨(verbL k).2.toArray⟩)) → b + 2 < v5 → KK { tmps := #[.string ⟨s.toArray⟩, .tuple #[], .pointer (some ⟨b, 0, none⟩), .pointer (some ⟨b + 2, 0, none⟩), .int .i64 k, .pointer (some ⟨v5, 0, none⟩), .tuple #[], .tuple #[], u8, u9, u10, u11, u12, u13, u14, u15, u16, u17, u18, u19, u20, u21, .tuple #[], .tuple #[], .tuple #[], .tuple #[], .tuple #[], .tuple #[], .tuple #[], .tuple #[], .tuple #[], .tuple #[], .tuple #[], .tuple #[], .tuple #[], .tuple #[], .tuple #[], .tuple #[], .tuple #[], .tuple #[], .tuple #[], .tuple #[], .tuple #[], .tuple #[], .tuple #[], .tuple #[], .tuple #[], .tuple #[], .tuple #[], .tuple #[], .tuple #[], .tuple #[], .tuple #[]], defers := [] } X := by
      intro v5 X u8 u9 u10 u11 u12 u13 u14 u15 u16 u17 u18 u19 u20 u21 hpi hc5 hlt5
      apply hKK
      clear hKK KK HR0 HPI
      have HPI := Lib.hid hpi
      have HC5 := Lib.hid hc5
      obtain ⟨d0, d1⟩ := hc5
      have a0 := HPI.out.act.c0
      have af := HPI.out.act.f 0
      have hbX : b < X.heap.size := HPI.out.act.lt
      have e0 : (X.setCell ⟨b, 0, none⟩ (.int .i64 k)).cell? ⟨v5, 0, none⟩ = some (.string ⟨(verbL k).1.toArray⟩) := (World.cell?_setCell_other _ _ _ _ (fun e => by have e : b = v5 := congrArg Addr.block e; omega)).trans d0
      have e1 : (X.setCell ⟨b, 0, none⟩ (.int .i64 k)).cell? ⟨v5, 1, none⟩ = some (.string ⟨(verbL k).2.toArray⟩) := (World.cell?_setCell_other _ _ _ _ (fun e => by have e : b = v5 := congrArg Addr.block e; omega)).trans d1
      clear d0 d1
      go_wp2_with fail
      obtain ⟨X1, hX1⟩ : ∃ yw, X.setCell ⟨b, 0, none⟩ (.int .i64 k) = yw := ⟨_, rfl⟩
      rw [hX1]
      have P1 := Lib.hid (HPI.out.put (hX1 ▸ HPI.out.act.set_kind k) (hX1 ▸ Grow.setCell (own := fun k => k = b) X ⟨b, 0, none⟩ _ rfl) EE.out)
      clear hX1 e0 e1 a0 af hbX
      refine (P1.out.fill EE.out _ _ (needs_verb k)).mono ?_
      rintro e X2 (⟨a1, l1, hf, rfl, hp2⟩ | ⟨hf, rfl, hnew⟩)
      rotate_left 1
      · exact ⟨rfl, .inr ⟨parse_nofill HLL.out HK.out hf, rfl⟩, hnew⟩
      have P2 := Lib.hid hp2
      have HFP2 := Lib.hid hf
      clear hp2 hf
      by_cases hk1 : k = 1
      · subst hk1
        go_wp2_with fail
        rename_i KK hKK
        have HR6 := Lib.hid (RG.start P2.out EE.out)
        cases l1 with
        | nil =>
          have HX := Lib.hid (parse_queue HLL.out HK.out HFP2.out)
          clear hKK
          refine wp_region_any (by kernel_rfl) ?_
          (try (change wpAny _ _ _ _ _ _ _ (World.drew _)))
          obtain ⟨V0, hV0⟩ : ∃ yw, World.drew X2 = yw := ⟨_, rfl⟩
          rw [hV0]
          have G0 := Lib.hid (HR6.out.newer (hV0 ▸ Newer.drew X2))
          clear hV0
          refine wpAny_take (i := 1) (v := ?_) rfl (by kernel_rfl) (by kernel_rfl) (by kernel_rfl) (fun _ _ _ h => h) (Or.inl ⟨by rfl, ?_⟩) ?_
          rotate_left 1
          · intro w; go_simp; try with_reducible rfl
          refine wpAny_take (i := 2) (v := ?_) rfl (by kernel_rfl) (by kernel_rfl) (by kernel_rfl) (fun _ _ _ h => h) (Or.inl ⟨by rfl, ?_⟩) ?_
          rotate_left 1
          · intro w; go_simp; try with_reducible rfl
          refine wpAny_take (i := 3) (v := ?_) rfl (by kernel_rfl) (by kernel_rfl) (by kernel_rfl) (fun _ _ _ h => h) (Or.inl ⟨by rfl, ?_⟩) ?_
          rotate_left 1
          · intro w; go_simp; try with_reducible rfl
          refine wpAny_ready (rs := [0, 9]) (by kernel_rfl) (by simp) ?_
          refine AllReady.cons rfl (fun KK hKK => ?_) ?_
          · go_simp
            obtain ⟨B, hB⟩ : ∃ B, V0.heap.size = B := ⟨_, rfl⟩
            refine (ops_any _).mono ?_
            rintro e V1 ⟨rfl, hm, hbl⟩
            rw [hB] at hm ⊢
            have MV1 := Lib.hid (And.intro hm (RG.pos G0.out hB))
            have GV1 := Lib.hid (G0.out.newer (Newer.of hbl))
            clear hm hbl hB
            refine hKK _ _ ?_
            clear hKK KK
            refine wpAny_ready (rs := [4, 9]) (by kernel_rfl) (by simp) ?_
            refine AllReady.cons rfl (fun KK hKK => ?_) ?_
            · go_simp
              refine (take_none _ _ _ GV1.out.words).mono ?_
              rintro e w' ⟨rfl, rfl⟩
              exact ⟨rfl, .inr ⟨HX.out, rfl⟩, RG.new P2.out GV1.out⟩
            refine AllReady.cons rfl (fun KK hKK => ?_) AllReady.nil
            · go_simp
              obtain ⟨v7, h5⟩ : ∃ v7, V1.heap.size = v7 := ⟨_, rfl⟩
              obtain ⟨V4, hX⟩ : ∃ yw, V1.alloc (.cells #[.string ⟨#[]⟩, .string ⟨#[]⟩] 79) = yw := ⟨_, rfl⟩
              rw [hX, h5]
              have CV4 := Lib.hid (Cell5.made GV1.out h5 hX)
              have GV4 := Lib.hid (GV1.out.newer (hX ▸ Newer.alloc _ _))
              have MV4 := Lib.hid (And.intro (own_grown MV1.out.1 (hX ▸ Newer.alloc _ _)) MV1.out.2)
              clear hX h5
              refine hKK _ _ ?_
              clear hKK KK
              refine wpAny_ready (rs := [4]) (by kernel_rfl) (by simp) ?_
              refine AllReady.cons rfl (fun KK hKK => ?_) AllReady.nil
              go_simp
              refine (take_none _ _ _ GV4.out.words).mono ?_
              rintro e w' ⟨rfl, rfl⟩
              exact ⟨rfl, .inr ⟨HX.out, rfl⟩, RG.new P2.out GV4.out⟩
          refine AllReady.cons rfl (fun KK hKK => ?_) AllReady.nil
          · go_simp
            obtain ⟨v7, h5⟩ : ∃ v7, V0.heap.size = v7 := ⟨_, rfl⟩
            obtain ⟨V2, hX⟩ : ∃ yw, V0.alloc (.cells #[.string ⟨#[]⟩, .string ⟨#[]⟩] 79) = yw := ⟨_, rfl⟩
            rw [hX, h5]
            have CV2 := Lib.hid (Cell5.made G0.out h5 hX)
            have GV2 := Lib.hid (G0.out.newer (hX ▸ Newer.alloc _ _))
            clear hX h5
            refine hKK _ _ ?_
            clear hKK KK
            refine wpAny_ready (rs := [0]) (by kernel_rfl) (by simp) ?_
            refine AllReady.cons rfl (fun KK hKK => ?_) AllReady.nil
            go_simp
            obtain ⟨B, hB⟩ : ∃ B, V2.heap.size = B := ⟨_, rfl⟩
            refine (ops_any _).mono ?_
            rintro e V6 ⟨rfl, hm, hbl⟩
            rw [hB] at hm ⊢
            have MV6 := Lib.hid (And.intro hm (RG.pos GV2.out hB))
            have GV6 := Lib.hid (GV2.out.newer (Newer.of hbl))
            have CV6 := Lib.hid (CV2.out.newer (Newer.of hbl))
            clear hm hbl hB
            refine hKK _ _ ?_
            clear hKK KK
            refine wpAny_ready (rs := [4]) (by kernel_rfl) (by simp) ?_
            refine AllReady.cons rfl (fun KK hKK => ?_) AllReady.nil
            go_simp
            refine (take_none _ _ _ GV6.out.words).mono ?_
            rintro e w' ⟨rfl, rfl⟩
            exact ⟨rfl, .inr ⟨HX.out, rfl⟩, RG.new P2.out GV6.out⟩
        | cons o0 l2 =>
          cases hk : opkL o0 with
          | none =>
            have HKO := Lib.hid hk
            have HX := Lib.hid (parse_q_bad HLL.out HK.out HFP2.out hk)
            clear hk hKK
            refine wp_region_any (by kernel_rfl) ?_
            (try (change wpAny _ _ _ _ _ _ _ (World.drew _)))
            obtain ⟨V0, hV0⟩ : ∃ yw, World.drew X2 = yw := ⟨_, rfl⟩
            rw [hV0]
            have G0 := Lib.hid (HR6.out.newer (hV0 ▸ Newer.drew X2))
            clear hV0
            refine wpAny_take (i := 1) (v := ?_) rfl (by kernel_rfl) (by kernel_rfl) (by kernel_rfl) (fun _ _ _ h => h) (Or.inl ⟨by rfl, ?_⟩) ?_
            rotate_left 1
            · intro w; go_simp; try with_reducible rfl
            refine wpAny_take (i := 2) (v := ?_) rfl (by kernel_rfl) (by kernel_rfl) (by kernel_rfl) (fun _ _ _ h => h) (Or.inl ⟨by rfl, ?_⟩) ?_
            rotate_left 1
            · intro w; go_simp; try with_reducible rfl
            refine wpAny_take (i := 3) (v := ?_) rfl (by kernel_rfl) (by kernel_rfl) (by kernel_rfl) (fun _ _ _ h => h) (Or.inl ⟨by rfl, ?_⟩) ?_
            rotate_left 1
            · intro w; go_simp; try with_reducible rfl
            refine wpAny_ready (rs := [0, 9]) (by kernel_rfl) (by simp) ?_
            refine AllReady.cons rfl (fun KK hKK => ?_) ?_
            · go_simp
              obtain ⟨B, hB⟩ : ∃ B, V0.heap.size = B := ⟨_, rfl⟩
              refine (ops_any _).mono ?_
              rintro e V1 ⟨rfl, hm, hbl⟩
              rw [hB] at hm ⊢
              have MV1 := Lib.hid (And.intro hm (RG.pos G0.out hB))
              have GV1 := Lib.hid (G0.out.newer (Newer.of hbl))
              clear hm hbl hB
              refine hKK _ _ ?_
              clear hKK KK
              refine wpAny_ready (rs := [4, 9]) (by kernel_rfl) (by simp) ?_
              refine AllReady.cons rfl (fun KK hKK => ?_) ?_
              · go_simp
                refine (take_some _ _ _ _ _ GV1.out.words).mono ?_
                rintro e V3 ⟨rfl, hw, u, hu⟩
                have GV3 := Lib.hid (GV1.out.took hw hu)
                have MV3 := Lib.hid (And.intro (own_took MV1.out.1 MV1.out.2 hu) MV1.out.2)
                clear hw hu
                refine hKK _ _ ?_
                clear hKK KK
                refine wpAny_ready (rs := [5, 9]) (by kernel_rfl) (by simp) ?_
                refine AllReady.cons rfl (fun KK hKK => ?_) ?_
                · go_simp
                  refine (kindO_any o0 B _ MV3.out.1).mono ?_
                  rintro e V5 ⟨hh, hn⟩
                  rcases hh with ⟨x, hk, rfl⟩ | ⟨hk, rfl⟩
                  · rw [HKO.out] at hk; cases hk
                  exact ⟨rfl, .inr ⟨HX.out, rfl⟩, RG.new P2.out (GV3.out.newer hn)⟩
                refine AllReady.cons rfl (fun KK hKK => ?_) AllReady.nil
                · go_simp
                  obtain ⟨v7, h5⟩ : ∃ v7, V3.heap.size = v7 := ⟨_, rfl⟩
                  obtain ⟨V6, hX⟩ : ∃ yw, V3.alloc (.cells #[.string ⟨#[]⟩, .string ⟨#[]⟩] 79) = yw := ⟨_, rfl⟩
                  rw [hX, h5]
                  have CV6 := Lib.hid (Cell5.made GV3.out h5 hX)
                  have GV6 := Lib.hid (GV3.out.newer (hX ▸ Newer.alloc _ _))
                  have MV6 := Lib.hid (And.intro (own_grown MV3.out.1 (hX ▸ Newer.alloc _ _)) MV3.out.2)
                  clear hX h5
                  refine hKK _ _ ?_
                  clear hKK KK
                  refine wpAny_ready (rs := [5]) (by kernel_rfl) (by simp) ?_
                  refine AllReady.cons rfl (fun KK hKK => ?_) AllReady.nil
                  go_simp
                  refine (kindO_any o0 B _ MV6.out.1).mono ?_
                  rintro e V7 ⟨hh, hn⟩
                  rcases hh with ⟨x, hk, rfl⟩ | ⟨hk, rfl⟩
                  · rw [HKO.out] at hk; cases hk
                  exact ⟨rfl, .inr ⟨HX.out, rfl⟩, RG.new P2.out (GV6.out.newer hn)⟩
              refine AllReady.cons rfl (fun KK hKK => ?_) AllReady.nil
              · go_simp
                obtain ⟨v7, h5⟩ : ∃ v7, V1.heap.size = v7 := ⟨_, rfl⟩
                obtain ⟨V4, hX⟩ : ∃ yw, V1.alloc (.cells #[.string ⟨#[]⟩, .string ⟨#[]⟩] 79) = yw := ⟨_, rfl⟩
                rw [hX, h5]
                have CV4 := Lib.hid (Cell5.made GV1.out h5 hX)
                have GV4 := Lib.hid (GV1.out.newer (hX ▸ Newer.alloc _ _))
                have MV4 := Lib.hid (And.intro (own_grown MV1.out.1 (hX ▸ Newer.alloc _ _)) MV1.out.2)
                clear hX h5
                refine hKK _ _ ?_
                clear hKK KK
                refine wpAny_ready (rs := [4]) (by kernel_rfl) (by simp) ?_
                refine AllReady.cons rfl (fun KK hKK => ?_) AllReady.nil
                go_simp
                refine (take_some _ _ _ _ _ GV4.out.words).mono ?_
                rintro e V8 ⟨rfl, hw, u, hu⟩
                have GV8 := Lib.hid (GV4.out.took hw hu)
                have MV8 := Lib.hid (And.intro (own_took MV4.out.1 MV4.out.2 hu) MV4.out.2)
                have CV8 := Lib.hid (CV4.out.took hu)
                clear hw hu
                refine hKK _ _ ?_
                clear hKK KK
                refine wpAny_ready (rs := [5]) (by kernel_rfl) (by simp) ?_
                refine AllReady.cons rfl (fun KK hKK => ?_) AllReady.nil
                go_simp
                refine (kindO_any o0 B _ MV8.out.1).mono ?_
                rintro e V9 ⟨hh, hn⟩
                rcases hh with ⟨x, hk, rfl⟩ | ⟨hk, rfl⟩
                · rw [HKO.out] at hk; cases hk
                exact ⟨rfl, .inr ⟨HX.out, rfl⟩, RG.new P2.out (GV8.out.newer hn)⟩
            refine AllReady.cons rfl (fun KK hKK => ?_) AllReady.nil
            · go_simp
              obtain ⟨v7, h5⟩ : ∃ v7, V0.heap.size = v7 := ⟨_, rfl⟩
              obtain ⟨V2, hX⟩ : ∃ yw, V0.alloc (.cells #[.string ⟨#[]⟩, .string ⟨#[]⟩] 79) = yw := ⟨_, rfl⟩
              rw [hX, h5]
              have CV2 := Lib.hid (Cell5.made G0.out h5 hX)
              have GV2 := Lib.hid (G0.out.newer (hX ▸ Newer.alloc _ _))
              clear hX h5
              refine hKK _ _ ?_
              clear hKK KK
              refine wpAny_ready (rs := [0]) (by kernel_rfl) (by simp) ?_
              refine AllReady.cons rfl (fun KK hKK => ?_) AllReady.nil
              go_simp
              obtain ⟨B, hB⟩ : ∃ B, V2.heap.size = B := ⟨_, rfl⟩
              refine (ops_any _).mono ?_
              rintro e V10 ⟨rfl, hm, hbl⟩
              rw [hB] at hm ⊢
              have MV10 := Lib.hid (And.intro hm (RG.pos GV2.out hB))
              have GV10 := Lib.hid (GV2.out.newer (Newer.of hbl))
              have CV10 := Lib.hid (CV2.out.newer (Newer.of hbl))
              clear hm hbl hB
              refine hKK _ _ ?_
              clear hKK KK
              refine wpAny_ready (rs := [4]) (by kernel_rfl) (by simp) ?_
              refine AllReady.cons rfl (fun KK hKK => ?_) AllReady.nil
              go_simp
              refine (take_some _ _ _ _ _ GV10.out.words).mono ?_
              rintro e V11 ⟨rfl, hw, u, hu⟩
              have GV11 := Lib.hid (GV10.out.took hw hu)
              have MV11 := Lib.hid (And.intro (own_took MV10.out.1 MV10.out.2 hu) MV10.out.2)
              have CV11 := Lib.hid (CV10.out.took hu)
              clear hw hu
              refine hKK _ _ ?_
              clear hKK KK
              refine wpAny_ready (rs := [5]) (by kernel_rfl) (by simp) ?_
              refine AllReady.cons rfl (fun KK hKK => ?_) AllReady.nil
              go_simp
              refine (kindO_any o0 B _ MV11.out.1).mono ?_
              rintro e V12 ⟨hh, hn⟩
              rcases hh with ⟨x, hk, rfl⟩ | ⟨hk, rfl⟩
              · rw [HKO.out] at hk; cases hk
              exact ⟨rfl, .inr ⟨HX.out, rfl⟩, RG.new P2.out (GV11.out.newer hn)⟩
          | some x =>
            have HKO := Lib.hid hk
            clear hk
            have hJ6 : ∀ (v7 : Nat) (X5 : World) (u8 u9 u10 u11 u12 u13 u14 u15 u16 u17 u18 u19 u20 u21 u22 u23 u24 u25 u26 u27 u28 u29 u30 u31 u32 u33 u34 u35 u36 u37 : Value), PI b (b + 2) w X5 a1 l2 → (X5.cell? ⟨v7, 0, none⟩ = some (.string ⟨(opL x).1.toArray⟩) ∧ X5.cell? ⟨v7, 1, none⟩ = some (.string ⟨(opL x).2.toArray⟩)) → b + 2 < v7 → KK { tmps := #[.string ⟨s.toArray⟩, .tuple #[], .pointer (some ⟨b, 0, none⟩), .pointer (some ⟨b + 2, 0, none⟩), .int .i64 1, .pointer (some ⟨v5, 0, none⟩), .int .i64 x, .pointer (some ⟨v7, 0, none⟩), u8, u9, u10, u11, u12, u13, u14, u15, u16, u17, u18, u19, u20, u21, u22, u23, u24, u25, u26, u27, u28, u29, u30, u31, u32, u33, u34, u35, u36, u37, .tuple #[], .tuple #[], .tuple #[], .tuple #[], .tuple #[], .tuple #[], .tuple #[], .tuple #[], .tuple #[], .tuple #[], .tuple #[], .tuple #[], .tuple #[], .tuple #[], .tuple #[]], defers := [] } X5 := by
              intro v7 X5 u8 u9 u10 u11 u12 u13 u14 u15 u16 u17 u18 u19 u20 u21 u22 u23 u24 u25 u26 u27 u28 u29 u30 u31 u32 u33 u34 u35 u36 u37 hpi hc5 hlt7
              apply hKK
              clear hKK KK HR6
              have P5 := Lib.hid hpi
              have HC5 := Lib.hid hc5
              obtain ⟨d0, d1⟩ := hc5
              have a0 := P5.out.act.c3
              have af := P5.out.act.f 3
              have hbX : b < X5.heap.size := P5.out.act.lt
              have e0 : (X5.setCell ⟨b, 3, none⟩ (.int .i64 x)).cell? ⟨v7, 0, none⟩ = some (.string ⟨(opL x).1.toArray⟩) := (World.cell?_setCell_other _ _ _ _ (fun e => by have e : b = v7 := congrArg Addr.block e; omega)).trans d0
              have e1 : (X5.setCell ⟨b, 3, none⟩ (.int .i64 x)).cell? ⟨v7, 1, none⟩ = some (.string ⟨(opL x).2.toArray⟩) := (World.cell?_setCell_other _ _ _ _ (fun e => by have e : b = v7 := congrArg Addr.block e; omega)).trans d1
              clear d0 d1
              go_wp2_with fail
              obtain ⟨X6, hX1⟩ : ∃ yw, X5.setCell ⟨b, 3, none⟩ (.int .i64 x) = yw := ⟨_, rfl⟩
              rw [hX1]
              have P6 := Lib.hid (P5.out.put (hX1 ▸ P5.out.act.set_okind x) (hX1 ▸ Grow.setCell (own := fun k => k = b) X5 ⟨b, 3, none⟩ _ rfl) EE.out)
              clear hX1 e0 e1 a0 af hbX
              refine (P6.out.fill EE.out _ _ (needs_op x)).mono ?_
              rintro e X7 (⟨a2, l3, hf, rfl, hp2⟩ | ⟨hf, rfl, hnew⟩)
              rotate_left 1
              · exact ⟨rfl, .inr ⟨parse_q_nofill HLL.out HK.out HFP2.out HKO.out hf, rfl⟩, hnew⟩
              have P7 := Lib.hid hp2
              have HFP7 := Lib.hid hf
              clear hp2 hf
              obtain ⟨q, o, cap, cw, _⟩ := P7.out.words
              obtain ⟨v8, d8, s8⟩ := P7.out.act.c8
              obtain ⟨v9, d9, s9⟩ := P7.out.act.c9
              have hv8 : ∃ p n m, v8 = .slice p n m := by obtain ⟨⟨p, m, e, _⟩, _⟩ := s8; exact ⟨p, _, m, e⟩
              have hv9 : ∃ p n m, v9 = .slice p n m := by obtain ⟨⟨p, m, e, _⟩, _⟩ := s9; exact ⟨p, _, m, e⟩
              obtain ⟨p8, n8, m8, rfl⟩ := hv8
              obtain ⟨p9, n9, m9, rfl⟩ := hv9
              have k0 := P7.out.act.c0
              have k1 := P7.out.act.c1
              have k2 := P7.out.act.c2
              have k3 := P7.out.act.c3
              have k4 := P7.out.act.c4
              have k5 := P7.out.act.c5
              have k6 := P7.out.act.c6
              have k7 := P7.out.act.c7
              have kf := P7.out.act.f
              have hbx : b < X7.heap.size := P7.out.act.lt
              have S89 := Lib.hid (And.intro s8 s9)
              clear s8 s9
              by_cases hl : l3 = []
              · have hz : l3.length = 0 := by rw [hl]; rfl
                rw [hz] at cw
                have HL := Lib.hid hl
                clear hl hz
                go_wp2_with fail
                refine (must_t _ _).mono ?_
                rintro e w' ⟨rfl, rfl⟩
                go_wp2_with fail
                obtain ⟨A, y8, y9, sB, sM, gY⟩ := act_put P7.out.act S89.out.1 S89.out.2 d8 d9 _ rfl
                refine bodyPost_ret (results_cell rfl (ad := ⟨b, 0, none⟩) rfl (load29 A y8 y9)) rfl ⟨.inl ⟨a2, _, ?_, rfl, _, _, rfl, ⟨sB, S89.out.1.2.sub HSUB.out⟩, ⟨sM, S89.out.2.2.sub HSUB.out⟩⟩, ?_⟩
                · rw [parse_q_end HLL.out HK.out HFP2.out HKO.out HFP7.out, if_pos HL.out]
                · exact (P7.out.put A gY EE.out).new
              · have hz : ¬ l3.length = 0 := fun h => hl (List.length_eq_zero_iff.1 h)
                have HL := Lib.hid hl
                generalize l3.length = n1 at cw hz
                have hz0 : ((n1 : Int) == 0) = false := by simp; omega
                clear hl
                go_wp2_with fail
                refine (must_f _ _).mono ?_
                rintro e w' ⟨rfl, rfl⟩
                exact ⟨rfl, .inr ⟨by rw [parse_q_end HLL.out HK.out HFP2.out HKO.out HFP7.out, if_neg HL.out], rfl⟩, P7.out.new⟩
            clear hKK
            refine wp_region_any (by kernel_rfl) ?_
            (try (change wpAny _ _ _ _ _ _ _ (World.drew _)))
            obtain ⟨V0, hV0⟩ : ∃ yw, World.drew X2 = yw := ⟨_, rfl⟩
            rw [hV0]
            have G0 := Lib.hid (HR6.out.newer (hV0 ▸ Newer.drew X2))
            clear hV0
            refine wpAny_take (i := 1) (v := ?_) rfl (by kernel_rfl) (by kernel_rfl) (by kernel_rfl) (fun _ _ _ h => h) (Or.inl ⟨by rfl, ?_⟩) ?_
            rotate_left 1
            · intro w; go_simp; try with_reducible rfl
            refine wpAny_take (i := 2) (v := ?_) rfl (by kernel_rfl) (by kernel_rfl) (by kernel_rfl) (fun _ _ _ h => h) (Or.inl ⟨by rfl, ?_⟩) ?_
            rotate_left 1
            · intro w; go_simp; try with_reducible rfl
            refine wpAny_take (i := 3) (v := ?_) rfl (by kernel_rfl) (by kernel_rfl) (by kernel_rfl) (fun _ _ _ h => h) (Or.inl ⟨by rfl, ?_⟩) ?_
            rotate_left 1
            · intro w; go_simp; try with_reducible rfl
            refine wpAny_ready (rs := [0, 9]) (by kernel_rfl) (by simp) ?_
            refine AllReady.cons rfl (fun KK hKK => ?_) ?_
            · go_simp
              obtain ⟨B, hB⟩ : ∃ B, V0.heap.size = B := ⟨_, rfl⟩
              refine (ops_any _).mono ?_
              rintro e V1 ⟨rfl, hm, hbl⟩
              rw [hB] at hm ⊢
              have MV1 := Lib.hid (And.intro hm (RG.pos G0.out hB))
              have GV1 := Lib.hid (G0.out.newer (Newer.of hbl))
              clear hm hbl hB
              refine hKK _ _ ?_
              clear hKK KK
              refine wpAny_ready (rs := [4, 9]) (by kernel_rfl) (by simp) ?_
              refine AllReady.cons rfl (fun KK hKK => ?_) ?_
              · go_simp
                refine (take_some _ _ _ _ _ GV1.out.words).mono ?_
                rintro e V3 ⟨rfl, hw, u, hu⟩
                have GV3 := Lib.hid (GV1.out.took hw hu)
                have MV3 := Lib.hid (And.intro (own_took MV1.out.1 MV1.out.2 hu) MV1.out.2)
                clear hw hu
                refine hKK _ _ ?_
                clear hKK KK
                refine wpAny_ready (rs := [5, 9]) (by kernel_rfl) (by simp) ?_
                refine AllReady.cons rfl (fun KK hKK => ?_) ?_
                · go_simp
                  refine (kindO_any o0 B _ MV3.out.1).mono ?_
                  rintro e V5 ⟨hh, hn⟩
                  rcases hh with ⟨x', hk, rfl⟩ | ⟨hk, rfl⟩
                  rotate_left 1
                  · rw [HKO.out] at hk; cases hk
                  rw [HKO.out] at hk
                  injection hk with hk
                  subst hk
                  unfold verb
                  have GV5 := Lib.hid (GV3.out.newer hn)
                  clear hn
                  refine hKK _ _ ?_
                  clear hKK KK
                  refine wpAny_take (i := 6) (v := ?_) rfl (by kernel_rfl) (by kernel_rfl) (by kernel_rfl) (fun _ _ _ h => h) (Or.inl ⟨by rfl, ?_⟩) ?_
                  rotate_left 1
                  · intro w; go_simp; try with_reducible rfl
                  refine wpAny_take (i := 7) (v := ?_) rfl (by kernel_rfl) (by kernel_rfl) (by kernel_rfl) (fun _ _ _ h => h) (Or.inl ⟨by rfl, ?_⟩) ?_
                  rotate_left 1
                  · intro w; go_simp; try with_reducible rfl
                  refine wpAny_take (i := 8) (v := ?_) rfl (by kernel_rfl) (by kernel_rfl) (by kernel_rfl) (fun _ _ _ h => h) (Or.inl ⟨by rfl, ?_⟩) ?_
                  rotate_left 1
                  · intro w; go_simp; try with_reducible rfl
                  refine wpAny_ready (rs := [9]) (by kernel_rfl) (by simp) ?_
                  refine AllReady.cons rfl (fun KK hKK => ?_) AllReady.nil
                  go_simp
                  obtain ⟨v7, h5⟩ : ∃ v7, V5.heap.size = v7 := ⟨_, rfl⟩
                  obtain ⟨V7, hX⟩ : ∃ yw, V5.alloc (.cells #[.string ⟨#[]⟩, .string ⟨#[]⟩] 79) = yw := ⟨_, rfl⟩
                  rw [hX, h5]
                  have CV7 := Lib.hid (Cell5.made GV5.out h5 hX)
                  have GV7 := Lib.hid (GV5.out.newer (hX ▸ Newer.alloc _ _))
                  clear hX h5
                  refine hKK _ _ ?_
                  clear hKK KK
                  refine wpAny_ready (rs := [10]) (by kernel_rfl) (by simp) ?_
                  refine AllReady.cons rfl (fun KK hKK => ?_) AllReady.nil
                  go_simp
                  refine hKK _ _ ?_
                  clear hKK KK
                  refine wpAny_ready (rs := [11]) (by kernel_rfl) (by simp) ?_
                  refine AllReady.cons rfl (fun KK hKK => ?_) AllReady.nil
                  go_simp
                  have c0 := CV7.out.c0
                  have c1 := CV7.out.c1
                  have f0 := CV7.out.f 0
                  have f1 := CV7.out.f 1
                  have hl5 : v7 < V7.heap.size := by have := World.block_lt_of_cell? _ _ c0; simpa using this
                  go_simp
                  obtain ⟨V8, hX⟩ : ∃ yw, (V7.setCell ⟨v7, 0, none⟩ (.string ⟨(opL x).1.toArray⟩)).setCell ⟨v7, 1, none⟩ (.string ⟨(opL x).2.toArray⟩) = yw := ⟨_, rfl⟩
                  rw [hX]
                  obtain ⟨hc, hg⟩ := CV7.out.store hX
                  clear hX c0 c1 f0 f1 hl5
                  refine hKK _ _ ?_
                  clear hKK KK
                  refine wpAny_done (by kernel_rfl) ?_ _
                  exact hJ6 v7 V8 _ _ _ _ _ _ _ _ _ _ _ _ _ _ _ _ _ _ _ _ _ _ _ _ _ _ _ _ _ _ (RG.last P2.out GV7.out CV7.out hg) hc CV7.out.lt.1
                refine AllReady.cons rfl (fun KK hKK => ?_) AllReady.nil
                · go_simp
                  obtain ⟨v7, h5⟩ : ∃ v7, V3.heap.size = v7 := ⟨_, rfl⟩
                  obtain ⟨V6, hX⟩ : ∃ yw, V3.alloc (.cells #[.string ⟨#[]⟩, .string ⟨#[]⟩] 79) = yw := ⟨_, rfl⟩
                  rw [hX, h5]
                  have CV6 := Lib.hid (Cell5.made GV3.out h5 hX)
                  have GV6 := Lib.hid (GV3.out.newer (hX ▸ Newer.alloc _ _))
                  have MV6 := Lib.hid (And.intro (own_grown MV3.out.1 (hX ▸ Newer.alloc _ _)) MV3.out.2)
                  clear hX h5
                  refine hKK _ _ ?_
                  clear hKK KK
                  refine wpAny_ready (rs := [5]) (by kernel_rfl) (by simp) ?_
                  refine AllReady.cons rfl (fun KK hKK => ?_) AllReady.nil
                  go_simp
                  refine (kindO_any o0 B _ MV6.out.1).mono ?_
                  rintro e V9 ⟨hh, hn⟩
                  rcases hh with ⟨x', hk, rfl⟩ | ⟨hk, rfl⟩
                  rotate_left 1
                  · rw [HKO.out] at hk; cases hk
                  rw [HKO.out] at hk
                  injection hk with hk
                  subst hk
                  unfold verb
                  have GV9 := Lib.hid (GV6.out.newer hn)
                  have CV9 := Lib.hid (CV6.out.newer hn)
                  clear hn
                  refine hKK _ _ ?_
                  clear hKK KK
                  refine wpAny_take (i := 6) (v := ?_) rfl (by kernel_rfl) (by kernel_rfl) (by kernel_rfl) (fun _ _ _ h => h) (Or.inl ⟨by rfl, ?_⟩) ?_
                  rotate_left 1
                  · intro w; go_simp; try with_reducible rfl
                  refine wpAny_take (i := 7) (v := ?_) rfl (by kernel_rfl) (by kernel_rfl) (by kernel_rfl) (fun _ _ _ h => h) (Or.inl ⟨by rfl, ?_⟩) ?_
                  rotate_left 1
                  · intro w; go_simp; try with_reducible rfl
                  refine wpAny_take (i := 8) (v := ?_) rfl (by kernel_rfl) (by kernel_rfl) (by kernel_rfl) (fun _ _ _ h => h) (Or.inl ⟨by rfl, ?_⟩) ?_
                  rotate_left 1
                  · intro w; go_simp; try with_reducible rfl
                  refine wpAny_ready (rs := [10]) (by kernel_rfl) (by simp) ?_
                  refine AllReady.cons rfl (fun KK hKK => ?_) AllReady.nil
                  go_simp
                  refine hKK _ _ ?_
                  clear hKK KK
                  refine wpAny_ready (rs := [11]) (by kernel_rfl) (by simp) ?_
                  refine AllReady.cons rfl (fun KK hKK => ?_) AllReady.nil
                  go_simp
                  have c0 := CV9.out.c0
                  have c1 := CV9.out.c1
                  have f0 := CV9.out.f 0
                  have f1 := CV9.out.f 1
                  have hl5 : v7 < V9.heap.size := by have := World.block_lt_of_cell? _ _ c0; simpa using this
                  go_simp
                  obtain ⟨V10, hX⟩ : ∃ yw, (V9.setCell ⟨v7, 0, none⟩ (.string ⟨(opL x).1.toArray⟩)).setCell ⟨v7, 1, none⟩ (.string ⟨(opL x).2.toArray⟩) = yw := ⟨_, rfl⟩
                  rw [hX]
                  obtain ⟨hc, hg⟩ := CV9.out.store hX
                  clear hX c0 c1 f0 f1 hl5
                  refine hKK _ _ ?_
                  clear hKK KK
                  refine wpAny_done (by kernel_rfl) ?_ _
                  exact hJ6 v7 V10 _ _ _ _ _ _ _ _ _ _ _ _ _ _ _ _ _ _ _ _ _ _ _ _ _ _ _ _ _ _ (RG.last P2.out GV9.out CV9.out hg) hc CV9.out.lt.1
              refine AllReady.cons rfl (fun KK hKK => ?_) AllReady.nil
              · go_simp
                obtain ⟨v7, h5⟩ : ∃ v7, V1.heap.size = v7 := ⟨_, rfl⟩
                obtain ⟨V4, hX⟩ : ∃ yw, V1.alloc (.cells #[.string ⟨#[]⟩, .string ⟨#[]⟩] 79) = yw := ⟨_, rfl⟩
                rw [hX, h5]
                have CV4 := Lib.hid (Cell5.made GV1.out h5 hX)
                have GV4 := Lib.hid (GV1.out.newer (hX ▸ Newer.alloc _ _))
                have MV4 := Lib.hid (And.intro (own_grown MV1.out.1 (hX ▸ Newer.alloc _ _)) MV1.out.2)
                clear hX h5
                refine hKK _ _ ?_
                clear hKK KK
                refine wpAny_ready (rs := [4]) (by kernel_rfl) (by simp) ?_
                refine AllReady.cons rfl (fun KK hKK => ?_) AllReady.nil
                go_simp
                refine (take_some _ _ _ _ _ GV4.out.words).mono ?_
                rintro e V11 ⟨rfl, hw, u, hu⟩
                have GV11 := Lib.hid (GV4.out.took hw hu)
                have MV11 := Lib.hid (And.intro (own_took MV4.out.1 MV4.out.2 hu) MV4.out.2)
                have CV11 := Lib.hid (CV4.out.took hu)
                clear hw hu
                refine hKK _ _ ?_
                clear hKK KK
                refine wpAny_ready (rs := [5]) (by kernel_rfl) (by simp) ?_
                refine AllReady.cons rfl (fun KK hKK => ?_) AllReady.nil
                go_simp
                refine (kindO_any o0 B _ MV11.out.1).mono ?_
                rintro e V12 ⟨hh, hn⟩
                rcases hh with ⟨x', hk, rfl⟩ | ⟨hk, rfl⟩
                rotate_left 1
                · rw [HKO.out] at hk; cases hk
                rw [HKO.out] at hk
                injection hk with hk
                subst hk
                unfold verb
                have GV12 := Lib.hid (GV11.out.newer hn)
                have CV12 := Lib.hid (CV11.out.newer hn)
                clear hn
                refine hKK _ _ ?_
                clear hKK KK
                refine wpAny_take (i := 6) (v := ?_) rfl (by kernel_rfl) (by kernel_rfl) (by kernel_rfl) (fun _ _ _ h => h) (Or.inl ⟨by rfl, ?_⟩) ?_
                rotate_left 1
                · intro w; go_simp; try with_reducible rfl
                refine wpAny_take (i := 7) (v := ?_) rfl (by kernel_rfl) (by kernel_rfl) (by kernel_rfl) (fun _ _ _ h => h) (Or.inl ⟨by rfl, ?_⟩) ?_
                rotate_left 1
                · intro w; go_simp; try with_reducible rfl
                refine wpAny_take (i := 8) (v := ?_) rfl (by kernel_rfl) (by kernel_rfl) (by kernel_rfl) (fun _ _ _ h => h) (Or.inl ⟨by rfl, ?_⟩) ?_
                rotate_left 1
                · intro w; go_simp; try with_reducible rfl
                refine wpAny_ready (rs := [10]) (by kernel_rfl) (by simp) ?_
                refine AllReady.cons rfl (fun KK hKK => ?_) AllReady.nil
                go_simp
                refine hKK _ _ ?_
                clear hKK KK
                refine wpAny_ready (rs := [11]) (by kernel_rfl) (by simp) ?_
                refine AllReady.cons rfl (fun KK hKK => ?_) AllReady.nil
                go_simp
                have c0 := CV12.out.c0
                have c1 := CV12.out.c1
                have f0 := CV12.out.f 0
                have f1 := CV12.out.f 1
                have hl5 : v7 < V12.heap.size := by have := World.block_lt_of_cell? _ _ c0; simpa using this
                go_simp
                obtain ⟨V13, hX⟩ : ∃ yw, (V12.setCell ⟨v7, 0, none⟩ (.string ⟨(opL x).1.toArray⟩)).setCell ⟨v7, 1, none⟩ (.string ⟨(opL x).2.toArray⟩) = yw := ⟨_, rfl⟩
                rw [hX]
                obtain ⟨hc, hg⟩ := CV12.out.store hX
                clear hX c0 c1 f0 f1 hl5
                refine hKK _ _ ?_
                clear hKK KK
                refine wpAny_done (by kernel_rfl) ?_ _
                exact hJ6 v7 V13 _ _ _ _ _ _ _ _ _ _ _ _ _ _ _ _ _ _ _ _ _ _ _ _ _ _ _ _ _ _ (RG.last P2.out GV12.out CV12.out hg) hc CV12.out.lt.1
            refine AllReady.cons rfl (fun KK hKK => ?_) AllReady.nil
            · go_simp
              obtain ⟨v7, h5⟩ : ∃ v7, V0.heap.size = v7 := ⟨_, rfl⟩
              obtain ⟨V2, hX⟩ : ∃ yw, V0.alloc (.cells #[.string ⟨#[]⟩, .string ⟨#[]⟩] 79) = yw := ⟨_, rfl⟩
              rw [hX, h5]
              have CV2 := Lib.hid (Cell5.made G0.out h5 hX)
              have GV2 := Lib.hid (G0.out.newer (hX ▸ Newer.alloc _ _))
              clear hX h5
              refine hKK _ _ ?_
              clear hKK KK
              refine wpAny_ready (rs := [0]) (by kernel_rfl) (by simp) ?_
              refine AllReady.cons rfl (fun KK hKK => ?_) AllReady.nil
              go_simp
              obtain ⟨B, hB⟩ : ∃ B, V2.heap.size = B := ⟨_, rfl⟩
              refine (ops_any _).mono ?_
              rintro e V14 ⟨rfl, hm, hbl⟩
              rw [hB] at hm ⊢
              have MV14 := Lib.hid (And.intro hm (RG.pos GV2.out hB))
              have GV14 := Lib.hid (GV2.out.newer (Newer.of hbl))
              have CV14 := Lib.hid (CV2.out.newer (Newer.of hbl))
              clear hm hbl hB
              refine hKK _ _ ?_
              clear hKK KK
              refine wpAny_ready (rs := [4]) (by kernel_rfl) (by simp) ?_
              refine AllReady.cons rfl (fun KK hKK => ?_) AllReady.nil
              go_simp
              refine (take_some _ _ _ _ _ GV14.out.words).mono ?_
              rintro e V15 ⟨rfl, hw, u, hu⟩
              have GV15 := Lib.hid (GV14.out.took hw hu)
              have MV15 := Lib.hid (And.intro (own_took MV14.out.1 MV14.out.2 hu) MV14.out.2)
              have CV15 := Lib.hid (CV14.out.took hu)
              clear hw hu
              refine hKK _ _ ?_
              clear hKK KK
              refine wpAny_ready (rs := [5]) (by kernel_rfl) (by simp) ?_
              refine AllReady.cons rfl (fun KK hKK => ?_) AllReady.nil
              go_simp
              refine (kindO_any o0 B _ MV15.out.1).mono ?_
              rintro e V16 ⟨hh, hn⟩
              rcases hh with ⟨x', hk, rfl⟩ | ⟨hk, rfl⟩
              rotate_left 1
              · rw [HKO.out] at hk; cases hk
              rw [HKO.out] at hk
              injection hk with hk
              subst hk
              unfold verb
              have GV16 := Lib.hid (GV15.out.newer hn)
              have CV16 := Lib.hid (CV15.out.newer hn)
              clear hn
              refine hKK _ _ ?_
              clear hKK KK
              refine wpAny_take (i := 6) (v := ?_) rfl (by kernel_rfl) (by kernel_rfl) (by kernel_rfl) (fun _ _ _ h => h) (Or.inl ⟨by rfl, ?_⟩) ?_
              rotate_left 1
              · intro w; go_simp; try with_reducible rfl
              refine wpAny_take (i := 7) (v := ?_) rfl (by kernel_rfl) (by kernel_rfl) (by kernel_rfl) (fun _ _ _ h => h) (Or.inl ⟨by rfl, ?_⟩) ?_
              rotate_left 1
              · intro w; go_simp; try with_reducible rfl
              refine wpAny_take (i := 8) (v := ?_) rfl (by kernel_rfl) (by kernel_rfl) (by kernel_rfl) (fun _ _ _ h => h) (Or.inl ⟨by rfl, ?_⟩) ?_
              rotate_left 1
              · intro w; go_simp; try with_reducible rfl
              refine wpAny_ready (rs := [10]) (by kernel_rfl) (by simp) ?_
              refine AllReady.cons rfl (fun KK hKK => ?_) AllReady.nil
              go_simp
              refine hKK _ _ ?_
              clear hKK KK
              refine wpAny_ready (rs := [11]) (by kernel_rfl) (by simp) ?_
              refine AllReady.cons rfl (fun KK hKK => ?_) AllReady.nil
              go_simp
              have c0 := CV16.out.c0
              have c1 := CV16.out.c1
              have f0 := CV16.out.f 0
              have f1 := CV16.out.f 1
              have hl5 : v7 < V16.heap.size := by have := World.block_lt_of_cell? _ _ c0; simpa using this
              go_simp
              obtain ⟨V17, hX⟩ : ∃ yw, (V16.setCell ⟨v7, 0, none⟩ (.string ⟨(opL x).1.toArray⟩)).setCell ⟨v7, 1, none⟩ (.string ⟨(opL x).2.toArray⟩) = yw := ⟨_, rfl⟩
              rw [hX]
              obtain ⟨hc, hg⟩ := CV16.out.store hX
              clear hX c0 c1 f0 f1 hl5
              refine hKK _ _ ?_
              clear hKK KK
              refine wpAny_done (by kernel_rfl) ?_ _
              exact hJ6 v7 V17 _ _ _ _ _ _ _ _ _ _ _ _ _ _ _ _ _ _ _ _ _ _ _ _ _ _ _ _ _ _ (RG.last P2.out GV16.out CV16.out hg) hc CV16.out.lt.1
      · have HK1 := Lib.hid hk1
        obtain ⟨q, o, cap, cw, _⟩ := P2.out.words
        obtain ⟨v8, d8, s8⟩ := P2.out.act.c8
        obtain ⟨v9, d9, s9⟩ := P2.out.act.c9
        have hv8 : ∃ p n m, v8 = .slice p n m := by obtain ⟨⟨p, m, e, _⟩, _⟩ := s8; exact ⟨p, _, m, e⟩
        have hv9 : ∃ p n m, v9 = .slice p n m := by obtain ⟨⟨p, m, e, _⟩, _⟩ := s9; exact ⟨p, _, m, e⟩
        obtain ⟨p8, n8, m8, rfl⟩ := hv8
        obtain ⟨p9, n9, m9, rfl⟩ := hv9
        have k0 := P2.out.act.c0
        have k1 := P2.out.act.c1
        have k2 := P2.out.act.c2
        have k3 := P2.out.act.c3
        have k4 := P2.out.act.c4
        have k5 := P2.out.act.c5
        have k6 := P2.out.act.c6
        have k7 := P2.out.act.c7
        have kf := P2.out.act.f
        have hbx : b < X2.heap.size := P2.out.act.lt
        have S89 := Lib.hid (And.intro s8 s9)
        clear s8 s9
        by_cases hl : l1 = []
        · have hz : l1.length = 0 := by rw [hl]; rfl
          rw [hz] at cw
          have HL := Lib.hid hl
          clear hl hz
          go_wp2_with fail
          refine (must_t _ _).mono ?_
          rintro e w' ⟨rfl, rfl⟩
          go_wp2_with fail
          obtain ⟨A, y8, y9, sB, sM, gY⟩ := act_put P2.out.act S89.out.1 S89.out.2 d8 d9 _ rfl
          refine bodyPost_ret (results_cell rfl (ad := ⟨b, 0, none⟩) rfl (load29 A y8 y9)) rfl ⟨.inl ⟨a1, _, ?_, rfl, _, _, rfl, ⟨sB, S89.out.1.2.sub HSUB.out⟩, ⟨sM, S89.out.2.2.sub HSUB.out⟩⟩, ?_⟩
          · rw [parse_end HLL.out HK.out HFP2.out HK1.out, if_pos HL.out]
          · exact (P2.out.put A gY EE.out).new
        · have hz : ¬ l1.length = 0 := fun h => hl (List.length_eq_zero_iff.1 h)
          have HL := Lib.hid hl
          generalize l1.length = n1 at cw hz
          have hz0 : ((n1 : Int) == 0) = false := by simp; omega
          clear hl
          go_wp2_with fail
          refine (must_f _ _).mono ?_
          rintro e w' ⟨rfl, rfl⟩
          exact ⟨rfl, .inr ⟨by rw [parse_end HLL.out HK.out HFP2.out HK1.out, if_neg HL.out], rfl⟩, P2.out.new⟩

    clear hKK
    refine wp_region_any (by kernel_rfl) ?_
    (try (change wpAny _ _ _ _ _ _ _ (World.drew _)))
    obtain ⟨V0, hV0⟩ : ∃ yw, World.drew W0 = yw := ⟨_, rfl⟩
    rw [hV0]
    have G0 := Lib.hid (HR0.out.newer (hV0 ▸ Newer.drew W0))
    clear hV0
    refine wpAny_take (i := 1) (v := ?_) rfl (by kernel_rfl) (by kernel_rfl) (by kernel_rfl) (fun _ _ _ h => h) (Or.inl ⟨by rfl, ?_⟩) ?_
    rotate_left 1
    · intro w; go_simp; try with_reducible rfl
    refine wpAny_take (i := 2) (v := ?_) rfl (by kernel_rfl) (by kernel_rfl) (by kernel_rfl) (fun _ _ _ h => h) (Or.inl ⟨by rfl, ?_⟩) ?_
    rotate_left 1
    · intro w; go_simp; try with_reducible rfl
    refine wpAny_take (i := 3) (v := ?_) rfl (by kernel_rfl) (by kernel_rfl) (by kernel_rfl) (fun _ _ _ h => h) (Or.inl ⟨by rfl, ?_⟩) ?_
    rotate_left 1
    · intro w; go_simp; try with_reducible rfl
    refine wpAny_ready (rs := [0, 9]) (by kernel_rfl) (by simp) ?_
    refine AllReady.cons rfl (fun KK hKK => ?_) ?_
    · go_simp
      obtain ⟨B, hB⟩ : ∃ B, V0.heap.size = B := ⟨_, rfl⟩
      refine (verbs_any _).mono ?_
      rintro e V1 ⟨rfl, hm, hbl⟩
      rw [hB] at hm ⊢
      have MV1 := Lib.hid (And.intro hm (RG.pos G0.out hB))
      have GV1 := Lib.hid (G0.out.newer (Newer.of hbl))
      clear hm hbl hB
      refine hKK _ _ ?_
      clear hKK KK
      refine wpAny_ready (rs := [4, 9]) (by kernel_rfl) (by simp) ?_
      refine AllReady.cons rfl (fun KK hKK => ?_) ?_
      · go_simp
        refine (take_some _ _ _ _ _ GV1.out.words).mono ?_
        rintro e V3 ⟨rfl, hw, u, hu⟩
        have GV3 := Lib.hid (GV1.out.took hw hu)
        have MV3 := Lib.hid (And.intro (own_took MV1.out.1 MV1.out.2 hu) MV1.out.2)
        clear hw hu
        refine hKK _ _ ?_
        clear hKK KK
        refine wpAny_ready (rs := [5, 9]) (by kernel_rfl) (by simp) ?_
        refine AllReady.cons rfl (fun KK hKK => ?_) ?_
        · go_simp
          refine (kindA_any s0 B _ MV3.out.1).mono ?_
          rintro e V5 ⟨hh, hn⟩
          rcases hh with ⟨k', hk, rfl⟩ | ⟨hk, rfl⟩
          rotate_left 1
          · rw [HK.out] at hk; cases hk
          rw [HK.out] at hk
          injection hk with hk
          subst hk
          unfold verb
          have GV5 := Lib.hid (GV3.out.newer hn)
          clear hn
          refine hKK _ _ ?_
          clear hKK KK
          refine wpAny_take (i := 6) (v := ?_) rfl (by kernel_rfl) (by kernel_rfl) (by kernel_rfl) (fun _ _ _ h => h) (Or.inl ⟨by rfl, ?_⟩) ?_
          rotate_left 1
          · intro w; go_simp; try with_reducible rfl
          refine wpAny_take (i := 7) (v := ?_) rfl (by kernel_rfl) (by kernel_rfl) (by kernel_rfl) (fun _ _ _ h => h) (Or.inl ⟨by rfl, ?_⟩) ?_
          rotate_left 1
          · intro w; go_simp; try with_reducible rfl
          refine wpAny_take (i := 8) (v := ?_) rfl (by kernel_rfl) (by kernel_rfl) (by kernel_rfl) (fun _ _ _ h => h) (Or.inl ⟨by rfl, ?_⟩) ?_
          rotate_left 1
          · intro w; go_simp; try with_reducible rfl
          refine wpAny_ready (rs := [9]) (by kernel_rfl) (by simp) ?_
          refine AllReady.cons rfl (fun KK hKK => ?_) AllReady.nil
          go_simp
          obtain ⟨v5, h5⟩ : ∃ v5, V5.heap.size = v5 := ⟨_, rfl⟩
          obtain ⟨V7, hX⟩ : ∃ yw, V5.alloc (.cells #[.string ⟨#[]⟩, .string ⟨#[]⟩] 79) = yw := ⟨_, rfl⟩
          rw [hX, h5]
          have CV7 := Lib.hid (Cell5.made GV5.out h5 hX)
          have GV7 := Lib.hid (GV5.out.newer (hX ▸ Newer.alloc _ _))
          clear hX h5
          refine hKK _ _ ?_
          clear hKK KK
          refine wpAny_ready (rs := [10]) (by kernel_rfl) (by simp) ?_
          refine AllReady.cons rfl (fun KK hKK => ?_) AllReady.nil
          go_simp
          refine hKK _ _ ?_
          clear hKK KK
          refine wpAny_ready (rs := [11]) (by kernel_rfl) (by simp) ?_
          refine AllReady.cons rfl (fun KK hKK => ?_) AllReady.nil
          go_simp
          have c0 := CV7.out.c0
          have c1 := CV7.out.c1
          have f0 := CV7.out.f 0
          have f1 := CV7.out.f 1
          have hl5 : v5 < V7.heap.size := by have := World.block_lt_of_cell? _ _ c0; simpa using this
          go_simp
          obtain ⟨V8, hX⟩ : ∃ yw, (V7.setCell ⟨v5, 0, none⟩ (.string ⟨(verbL k).1.toArray⟩)).setCell ⟨v5, 1, none⟩ (.string ⟨(verbL k).2.toArray⟩) = yw := ⟨_, rfl⟩
          rw [hX]
          obtain ⟨hc, hg⟩ := CV7.out.store hX
          clear hX c0 c1 f0 f1 hl5
          refine hKK _ _ ?_
          clear hKK KK
          refine wpAny_done (by kernel_rfl) ?_ _
          exact hJ v5 V8 _ _ _ _ _ _ _ _ _ _ _ _ _ _ (RG.last HPI.out GV7.out CV7.out hg) hc CV7.out.lt.1
        refine AllReady.cons rfl (fun KK hKK => ?_) AllReady.nil
        · go_simp
          obtain ⟨v5, h5⟩ : ∃ v5, V3.heap.size = v5 := ⟨_, rfl⟩
          obtain ⟨V6, hX⟩ : ∃ yw, V3.alloc (.cells #[.string ⟨#[]⟩, .string ⟨#[]⟩] 79) = yw := ⟨_, rfl⟩
          rw [hX, h5]
          have CV6 := Lib.hid (Cell5.made GV3.out h5 hX)
          have GV6 := Lib.hid (GV3.out.newer (hX ▸ Newer.alloc _ _))
          have MV6 := Lib.hid (And.intro (own_grown MV3.out.1 (hX ▸ Newer.alloc _ _)) MV3.out.2)
          clear hX h5
          refine hKK _ _ ?_
          clear hKK KK
          refine wpAny_ready (rs := [5]) (by kernel_rfl) (by simp) ?_
          refine AllReady.cons rfl (fun KK hKK => ?_) AllReady.nil
          go_simp
          refine (kindA_any s0 B _ MV6.out.1).mono ?_
          rintro e V9 ⟨hh, hn⟩
          rcases hh with ⟨k', hk, rfl⟩ | ⟨hk, rfl⟩
          rotate_left 1
          · rw [HK.out] at hk; cases hk
          rw [HK.out] at hk
          injection hk with hk
          subst hk
          unfold verb
          have GV9 := Lib.hid (GV6.out.newer hn)
          have CV9 := Lib.hid (CV6.out.newer hn)
          clear hn
          refine hKK _ _ ?_
          clear hKK KK
          refine wpAny_take (i := 6) (v := ?_) rfl (by kernel_rfl) (by kernel_rfl) (by kernel_rfl) (fun _ _ _ h => h) (Or.inl ⟨by rfl, ?_⟩) ?_
          rotate_left 1
          · intro w; go_simp; try with_reducible rfl
          refine wpAny_take (i := 7) (v := ?_) rfl (by kernel_rfl) (by kernel_rfl) (by kernel_rfl) (fun _ _ _ h => h) (Or.inl ⟨by rfl, ?_⟩) ?_
          rotate_left 1
          · intro w; go_simp; try with_reducible rfl
          refine wpAny_take (i := 8) (v := ?_) rfl (by kernel_rfl) (by kernel_rfl) (by kernel_rfl) (fun _ _ _ h => h) (Or.inl ⟨by rfl, ?_⟩) ?_
          rotate_left 1
          · intro w; go_simp; try with_reducible rfl
          refine wpAny_ready (rs := [10]) (by kernel_rfl) (by simp) ?_
          refine AllReady.cons rfl (fun KK hKK => ?_) AllReady.nil
          go_simp
          refine hKK _ _ ?_
          clear hKK KK
          refine wpAny_ready (rs := [11]) (by kernel_rfl) (by simp) ?_
          refine AllReady.cons rfl (fun KK hKK => ?_) AllReady.nil
          go_simp
          have c0 := CV9.out.c0
          have c1 := CV9.out.c1
          have f0 := CV9.out.f 0
          have f1 := CV9.out.f 1
          have hl5 : v5 < V9.heap.size := by have := World.block_lt_of_cell? _ _ c0; simpa using this
          go_simp
          obtain ⟨V10, hX⟩ : ∃ yw, (V9.setCell ⟨v5, 0, none⟩ (.string ⟨(verbL k).1.toArray⟩)).setCell ⟨v5, 1, none⟩ (.string ⟨(verbL k).2.toArray⟩) = yw := ⟨_, rfl⟩
          rw [hX]
          obtain ⟨hc, hg⟩ := CV9.out.store hX
          clear hX c0 c1 f0 f1 hl5
          refine hKK _ _ ?_
          clear hKK KK
          refine wpAny_done (by kernel_rfl) ?_ _
          exact hJ v5 V10 _ _ _ _ _ _ _ _ _ _ _ _ _ _ (RG.last HPI.out GV9.out CV9.out hg) hc CV9.out.lt.1
      refine AllReady.cons rfl (fun KK hKK => ?_) AllReady.nil
      · go_simp
        obtain ⟨v5, h5⟩ : ∃ v5, V1.heap.size = v5 := ⟨_, rfl⟩
        obtain ⟨V4, hX⟩ : ∃ yw, V1.alloc (.cells #[.string ⟨#[]⟩, .string ⟨#[]⟩] 79) = yw := ⟨_, rfl⟩
        rw [hX, h5]
        have CV4 := Lib.hid (Cell5.made GV1.out h5 hX)
        have GV4 := Lib.hid (GV1.out.newer (hX ▸ Newer.alloc _ _))
        have MV4 := Lib.hid (And.intro (own_grown MV1.out.1 (hX ▸ Newer.alloc _ _)) MV1.out.2)
        clear hX h5
        refine hKK _ _ ?_
        clear hKK KK
        refine wpAny_ready (rs := [4]) (by kernel_rfl) (by simp) ?_
        refine AllReady.cons rfl (fun KK hKK => ?_) AllReady.nil
        go_simp
        refine (take_some _ _ _ _ _ GV4.out.words).mono ?_
        rintro e V11 ⟨rfl, hw, u, hu⟩
        have GV11 := Lib.hid (GV4.out.took hw hu)
        have MV11 := Lib.hid (And.intro (own_took MV4.out.1 MV4.out.2 hu) MV4.out.2)
        have CV11 := Lib.hid (CV4.out.took hu)
        clear hw hu
        refine hKK _ _ ?_
        clear hKK KK
        refine wpAny_ready (rs := [5]) (by kernel_rfl) (by simp) ?_
        refine AllReady.cons rfl (fun KK hKK => ?_) AllReady.nil
        go_simp
        refine (kindA_any s0 B _ MV11.out.1).mono ?_
        rintro e V12 ⟨hh, hn⟩
        rcases hh with ⟨k', hk, rfl⟩ | ⟨hk, rfl⟩
        rotate_left 1
        · rw [HK.out] at hk; cases hk
        rw [HK.out] at hk
        injection hk with hk
        subst hk
        unfold verb
        have GV12 := Lib.hid (GV11.out.newer hn)
        have CV12 := Lib.hid (CV11.out.newer hn)
        clear hn
        refine hKK _ _ ?_
        clear hKK KK
        refine wpAny_take (i := 6) (v := ?_) rfl (by kernel_rfl) (by kernel_rfl) (by kernel_rfl) (fun _ _ _ h => h) (Or.inl ⟨by rfl, ?_⟩) ?_
        rotate_left 1
        · intro w; go_simp; try with_reducible rfl
        refine wpAny_take (i := 7) (v := ?_) rfl (by kernel_rfl) (by kernel_rfl) (by kernel_rfl) (fun _ _ _ h => h) (Or.inl ⟨by rfl, ?_⟩) ?_
        rotate_left 1
        · intro w; go_simp; try with_reducible rfl
        refine wpAny_take (i := 8) (v := ?_) rfl (by kernel_rfl) (by kernel_rfl) (by kernel_rfl) (fun _ _ _ h => h) (Or.inl ⟨by rfl, ?_⟩) ?_
        rotate_left 1
        · intro w; go_simp; try with_reducible rfl
        refine wpAny_ready (rs := [10]) (by kernel_rfl) (by simp) ?_
        refine AllReady.cons rfl (fun KK hKK => ?_) AllReady.nil
        go_simp
        refine hKK _ _ ?_
        clear hKK KK
        refine wpAny_ready (rs := [11]) (by kernel_rfl) (by simp) ?_
        refine AllReady.cons rfl (fun KK hKK => ?_) AllReady.nil
        go_simp
        have c0 := CV12.out.c0
        have c1 := CV12.out.c1
        have f0 := CV12.out.f 0
        have f1 := CV12.out.f 1
        have hl5 : v5 < V12.heap.size := by have := World.block_lt_of_cell? _ _ c0; simpa using this
        go_simp
        obtain ⟨V13, hX⟩ : ∃ yw, (V12.setCell ⟨v5, 0, none⟩ (.string ⟨(verbL k).1.toArray⟩)).setCell ⟨v5, 1, none⟩ (.string ⟨(verbL k).2.toArray⟩) = yw := ⟨_, rfl⟩
        rw [hX]
        obtain ⟨hc, hg⟩ := CV12.out.store hX
        clear hX c0 c1 f0 f1 hl5
        refine hKK _ _ ?_
        clear hKK KK
        refine wpAny_done (by kernel_rfl) ?_ _
        exact hJ v5 V13 _ _ _ _ _ _ _ _ _ _ _ _ _ _ (RG.last HPI.out GV12.out CV12.out hg) hc CV12.out.lt.1
    refine AllReady.cons rfl (fun KK hKK => ?_) AllReady.nil
    · go_simp
      obtain ⟨v5, h5⟩ : ∃ v5, V0.heap.size = v5 := ⟨_, rfl⟩
      obtain ⟨V2, hX⟩ : ∃ yw, V0.alloc (.cells #[.string ⟨#[]⟩, .string ⟨#[]⟩] 79) = yw := ⟨_, rfl⟩
      rw [hX, h5]
      have CV2 := Lib.hid (Cell5.made G0.out h5 hX)
      have GV2 := Lib.hid (G0.out.newer (hX ▸ Newer.alloc _ _))
      clear hX h5
      refine hKK _ _ ?_
      clear hKK KK
      refine wpAny_ready (rs := [0]) (by kernel_rfl) (by simp) ?_
      refine AllReady.cons rfl (fun KK hKK => ?_) AllReady.nil
      go_simp
      obtain ⟨B, hB⟩ : ∃ B, V2.heap.size = B := ⟨_, rfl⟩
      refine (verbs_any _).mono ?_
      rintro e V14 ⟨rfl, hm, hbl⟩
      rw [hB] at hm ⊢
      have MV14 := Lib.hid (And.intro hm (RG.pos GV2.out hB))
      have GV14 := Lib.hid (GV2.out.newer (Newer.of hbl))
      have CV14 := Lib.hid (CV2.out.newer (Newer.of hbl))
      clear hm hbl hB
      refine hKK _ _ ?_
      clear hKK KK
      refine wpAny_ready (rs := [4]) (by kernel_rfl) (by simp) ?_
      refine AllReady.cons rfl (fun KK hKK => ?_) AllReady.nil
      go_simp
      refine (take_some _ _ _ _ _ GV14.out.words).mono ?_
      rintro e V15 ⟨rfl, hw, u, hu⟩
      have GV15 := Lib.hid (GV14.out.took hw hu)
      have MV15 := Lib.hid (And.intro (own_took MV14.out.1 MV14.out.2 hu) MV14.out.2)
      have CV15 := Lib.hid (CV14.out.took hu)
      clear hw hu
      refine hKK _ _ ?_
      clear hKK KK
      refine wpAny_ready (rs := [5]) (by kernel_rfl) (by simp) ?_
      refine AllReady.cons rfl (fun KK hKK => ?_) AllReady.nil
      go_simp
      refine (kindA_any s0 B _ MV15.out.1).mono ?_
      rintro e V16 ⟨hh, hn⟩
      rcases hh with ⟨k', hk, rfl⟩ | ⟨hk, rfl⟩
      rotate_left 1
      · rw [HK.out] at hk; cases hk
      rw [HK.out] at hk
      injection hk with hk
      subst hk
      unfold verb
      have GV16 := Lib.hid (GV15.out.newer hn)
      have CV16 := Lib.hid (CV15.out.newer hn)
      clear hn
      refine hKK _ _ ?_
      clear hKK KK
      refine wpAny_take (i := 6) (v := ?_) rfl (by kernel_rfl) (by kernel_rfl) (by kernel_rfl) (fun _ _ _ h => h) (Or.inl ⟨by rfl, ?_⟩) ?_
      rotate_left 1
      · intro w; go_simp; try with_reducible rfl
      refine wpAny_take (i := 7) (v := ?_) rfl (by kernel_rfl) (by kernel_rfl) (by kernel_rfl) (fun _ _ _ h => h) (Or.inl ⟨by rfl, ?_⟩) ?_
      rotate_left 1
      · intro w; go_simp; try with_reducible rfl
      refine wpAny_take (i := 8) (v := ?_) rfl (by kernel_rfl) (by kernel_rfl) (by kernel_rfl) (fun _ _ _ h => h) (Or.inl ⟨by rfl, ?_⟩) ?_
      rotate_left 1
      · intro w; go_simp; try with_reducible rfl
      refine wpAny_ready (rs := [10]) (by kernel_rfl) (by simp) ?_
      refine AllReady.cons rfl (fun KK hKK => ?_) AllReady.nil
      go_simp
      refine hKK _ _ ?_
      clear hKK KK
      refine wpAny_ready (rs := [11]) (by kernel_rfl) (by simp) ?_
      refine AllReady.cons rfl (fun KK hKK => ?_) AllReady.nil
      go_simp
      have c0 := CV16.out.c0
      have c1 := CV16.out.c1
      have f0 := CV16.out.f 0
      have f1 := CV16.out.f 1
      have hl5 : v5 < V16.heap.size := by have := World.block_lt_of_cell? _ _ c0; simpa using this
      go_simp
      obtain ⟨V17, hX⟩ : ∃ yw, (V16.setCell ⟨v5, 0, none⟩ (.string ⟨(verbL k).1.toArray⟩)).setCell ⟨v5, 1, none⟩ (.string ⟨(verbL k).2.toArray⟩) = yw := ⟨_, rfl⟩
      rw [hX]
      obtain ⟨hc, hg⟩ := CV16.out.store hX
      clear hX c0 c1 f0 f1 hl5
      refine hKK _ _ ?_
      clear hKK KK
      refine wpAny_done (by kernel_rfl) ?_ _
      exact hJ v5 V17 _ _ _ _ _ _ _ _ _ _ _ _ _ _ (RG.last HPI.out GV16.out CV16.out hg) hc CV16.out.lt.1


end Go.Proofs.YtgdaaafejfjilaaGreatDoor
