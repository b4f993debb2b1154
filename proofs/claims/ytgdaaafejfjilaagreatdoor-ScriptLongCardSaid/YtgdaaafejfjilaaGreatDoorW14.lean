/- contracts of package script: laid's closure -/
import Derived.Test.YtgdaaafejfjilaaGreatDoorW11
import Derived.Lib.ItoaLen
namespace Go.Proofs.YtgdaaafejfjilaaGreatDoor
open Go.RowKit Go.Maps
attribute [local go_sem] Oper.semAt_some undef

/-- the act's cells -/
structure ActC (w : World) (b : Nat) (a : ActL) (v8 v9 : Value) : Prop where
  c0 : w.cell? ⟨b, 0, none⟩ = some (.int .i64 a.kind)
  c1 : w.cell? ⟨b, 1, none⟩ = some (.int .i64 a.thread)
  c2 : w.cell? ⟨b, 2, none⟩ = some (.int .i64 a.n)
  c3 : w.cell? ⟨b, 3, none⟩ = some (.int .i64 a.okind)
  c4 : w.cell? ⟨b, 4, none⟩ = some (.string ⟨(a.path).toArray⟩)
  c5 : w.cell? ⟨b, 5, none⟩ = some (.string ⟨(a.dest).toArray⟩)
  c6 : w.cell? ⟨b, 6, none⟩ = some (.int .i64 a.at_)
  c7 : w.cell? ⟨b, 7, none⟩ = some (.int .i64 a.on)
  c8 : w.cell? ⟨b, 8, none⟩ = some v8
  c9 : w.cell? ⟨b, 9, none⟩ = some v9
theorem ActC.grow {own : Nat → Prop} {w W : World} {b : Nat} {a : ActL} {v8 v9 : Value} (h : ActC w b a v8 v9) (g : Grow own w W) (hb : ¬ own b) : ActC W b a v8 v9 := by
  have hl : b < w.heap.size := by have := World.block_lt_of_cell? _ _ h.c0; simpa using this
  have e : ∀ j, W.cell? ⟨b, j, none⟩ = w.cell? ⟨b, j, none⟩ := fun j => g.cell (p := ⟨b, j, none⟩) hl hb
  exact ⟨(e 0).trans h.c0, (e 1).trans h.c1, (e 2).trans h.c2, (e 3).trans h.c3, (e 4).trans h.c4, (e 5).trans h.c5, (e 6).trans h.c6, (e 7).trans h.c7, (e 8).trans h.c8, (e 9).trans h.c9⟩

theorem cat_str (a b : Bs) : (⟨a.toArray⟩ : ByteArray) ++ ⟨b.toArray⟩ = ⟨(a ++ b).toArray⟩ := by
  apply ByteArray.ext
  simp
theorem itoa_len (n : Int) (h : I64 n) : (Lib.itoa n).length ≤ 30 := by
  have := Lib.itoa_length_le n h.1 h.2
  omega
theorem show_len (c : UInt8) (a : ActL) (h : Shown a) (hp : a.path.length ≤ 1000000 ∧ a.dest.length ≤ 1000000) : (showL c a).length ≤ 2000001 := by
  have hex : (hexL a.bytes).length ≤ 2000001 := by
    unfold hexL
    split
    · simp
    · have : (a.bytes.flatMap fun c => [hexD (c.toNat / 16), hexD (c.toNat % 16)]).length = 2 * a.bytes.length := by
        induction a.bytes with
        | nil => rfl
        | cons x l ih => simp [ih]; omega
      have := h.b
      omega
  have dots : (dotsL a.marks).length ≤ 1000001 := by
    unfold dotsL
    split
    · simp
    · have := h.m
      simp; omega
  have := itoa_len _ h.t
  have := itoa_len _ h.n
  have := itoa_len _ h.at_
  have := itoa_len _ h.on
  unfold showL
  repeat' split
  all_goals first | omega | simp
theorem add_len (needs : Bs) (a : ActL) (h : Shown a) (hp : a.path.length ≤ 1000000 ∧ a.dest.length ≤ 1000000) : (addL needs a).length ≤ 2000002 * needs.length := by
  induction needs with
  | nil => simp [addL]
  | cons c l ih =>
    have := show_len c a h hp
    have e : addL (c :: l) a = (32 :: showL c a) ++ addL l a := by simp [addL]
    rw [e, List.length_append, List.length_cons, List.length_cons]
    omega

/-- on the way of the closure: the line's variable, the act's -/
structure LayI (wb : World) (c b : Nat) (w wr : World) (a : ActL) (v8 v9 : Value) (cur : Bs) : Prop where
  cell : wr.cell? ⟨c, 0, none⟩ = some (.string ⟨cur.toArray⟩)
  fro : wr.frozen? ⟨c, 0, none⟩ = false
  act : ActC wr b a v8 v9
  env : Env wr
  new : Newer wb wr
  g : Grow (fun k => k = c ∨ w.heap.size ≤ k) w wr
  geo : wb.heap.size ≤ c ∧ b ≠ c ∧ 5 < c ∧ c < w.heap.size
theorem LayI.lt {wb : World} {c b : Nat} {w wr : World} {a : ActL} {v8 v9 : Value} {cur : Bs} (h : LayI wb c b w wr a v8 v9 cur) : c < wr.heap.size := by have := World.block_lt_of_cell? _ _ h.cell; simpa using this
theorem LayI.newer {wb : World} {c b : Nat} {w wr W : World} {a : ActL} {v8 v9 : Value} {cur : Bs} (h : LayI wb c b w wr a v8 v9 cur) (n : Newer wr W) : LayI wb c b w W a v8 v9 cur := by
  have hl := h.lt
  have hlb : b < wr.heap.size := by have := World.block_lt_of_cell? _ _ h.act.c0; simpa using this
  have := h.g.size
  exact ⟨newer_cell h.cell n, (World.frozen?_of_block (n.block hl)).trans h.fro, h.act.grow n (fun hk => by have hk : wr.heap.size ≤ b := hk; omega), h.env.newer n, h.new.trans n, h.g.trans (n.mono (fun k hk => .inr (by have hk : wr.heap.size ≤ k := hk; omega))), h.geo⟩
theorem LayI.put {wb : World} {c b : Nat} {w wr : World} {a : ActL} {v8 v9 : Value} {cur : Bs} (h : LayI wb c b w wr a v8 v9 cur) (x : Bs) : LayI wb c b w (wr.setCell ⟨c, 0, none⟩ (.string ⟨x.toArray⟩)) a v8 v9 x := by
  have hl := h.lt
  have g : Grow (fun k => k = c) wr (wr.setCell ⟨c, 0, none⟩ (.string ⟨x.toArray⟩)) := Grow.setCell (own := fun k => k = c) _ _ _ rfl
  have hg := h.geo
  refine ⟨World.cell?_setCell_same _ _ _ h.cell, by rw [World.frozen?_setCell]; exact h.fro, h.act.grow g hg.2.1, h.env.below (Grow.below g (n := c) (fun k hk => by have hk : k = c := hk; omega) (by omega)) hg.2.2.1, Grow.trans h.new (g.mono (fun k hk => by have hk : k = c := hk; show wb.heap.size ≤ k; omega)), h.g.trans (g.mono (fun k hk => .inl hk)), hg⟩
theorem LayI.slices {wb : World} {c b : Nat} {w wr : World} {a : ActL} {v8 v9 : Value} {cur : Bs} (h : LayI wb c b w wr a v8 v9 cur) (s : SliceB wb v8 a.bytes ∧ SliceM wb v9 a.marks) : SliceB wr v8 a.bytes ∧ SliceM wr v9 a.marks := ⟨s.1.newer h.new, s.2.newer h.new⟩

/-- and the letters -/
structure LayJ (wb : World) (c b q : Nat) (needs : Bs) (w wr : World) (a : ActL) (v8 v9 : Value) (cur : Bs) : Prop where
  I : LayI wb c b w wr a v8 v9 cur
  bytes : ∀ j (h : j < needs.length), wr.cell? ⟨q, j, none⟩ = some (byteV needs[j])
  hq : q < wr.heap.size
  hqc : w.heap.size ≤ q
theorem LayJ.newer {wb : World} {c b q : Nat} {needs : Bs} {w wr W : World} {a : ActL} {v8 v9 : Value} {cur : Bs} (h : LayJ wb c b q needs w wr a v8 v9 cur) (n : Newer wr W) : LayJ wb c b q needs w W a v8 v9 cur :=
  ⟨h.I.newer n, fun j hj => newer_cell (h.bytes j hj) n, Nat.lt_of_lt_of_le h.hq n.size, h.hqc⟩
theorem LayJ.put {wb : World} {c b q : Nat} {needs : Bs} {w wr : World} {a : ActL} {v8 v9 : Value} {cur : Bs} (h : LayJ wb c b q needs w wr a v8 v9 cur) (x : Bs) : LayJ wb c b q needs w (wr.setCell ⟨c, 0, none⟩ (.string ⟨x.toArray⟩)) a v8 v9 x := by
  have g : Grow (fun k => k = c) wr (wr.setCell ⟨c, 0, none⟩ (.string ⟨x.toArray⟩)) := Grow.setCell (own := fun k => k = c) _ _ _ rfl
  have hg := h.I.geo
  have hqc := h.hqc
  exact ⟨h.I.put x, fun j hj => (g.cell (p := ⟨q, j, none⟩) h.hq (by show ¬ q = c; omega)).trans (h.bytes j hj), Nat.lt_of_lt_of_le h.hq g.size, hqc⟩

theorem lay_step (line needs : Bs) (a : ActL) (j : Nat) (h : j < needs.length) : line ++ addL (needs.take (j + 1)) a = line ++ addL (needs.take j) a ++ (32 :: showL needs[j] a) := by
  unfold addL
  rw [List.take_succ_eq_append_getElem h, List.flatMap_append, List.append_assoc]
  simp

set_option maxRecDepth 100000 in
set_option maxHeartbeats 6400000 in
theorem lay_any (wb : World) (c b : Nat) (w : World) (a : ActL) (p8 p9 : Option Addr) (n8 n9 m8 m9 : Nat) (line nm needs : Bs) (hlet : (∀ c ∈ needs, c ∈ letters) ∧ needs.length ≤ 100) (hI : LayI wb c b w w a (.slice p8 n8 m8) (.slice p9 n9 m9) line) (hs : SliceB wb (.slice p8 n8 m8) a.bytes ∧ SliceM wb (.slice p9 n9 m9) a.marks) (hsh : Shown a) (hpd : a.path.length ≤ 1000000 ∧ a.dest.length ≤ 1000000) (hll : line.length ≤ 1000000000) :
    Calls Tryz.prog 42 #[verb nm needs, .pointer (some ⟨c, 0, none⟩), .pointer (some ⟨b, 0, none⟩)] w fun e w' => e = .returned (.tuple #[]) ∧ LayI wb c b w w' a (.slice p8 n8 m8) (.slice p9 n9 m9) (line ++ addL needs a) := by
  obtain ⟨n, hn⟩ : ∃ n, needs.length = n := ⟨_, rfl⟩
  obtain ⟨w0, hw0⟩ : ∃ w0, w.alloc (.cells #[.string ⟨nm.toArray⟩, .string ⟨needs.toArray⟩] 79) = w0 := ⟨_, rfl⟩
  have hcv := Lib.run_convert_string_bytes (P := Tryz.prog) w0 9 24 5 ⟨needs.toArray⟩ Tryz.underlying9 Tryz.underlying24 Tryz.underlying5
  have hsz : (ByteArray.mk needs.toArray).size = n := by show needs.toArray.size = n; simp [hn]
  have hb1 : Newer w0 (Lib.bytesWorld w0 5 ⟨needs.toArray⟩) := Newer.of (Go.Joins.below_bytesWorld _ _ _ _ (Nat.le_refl _))
  have hcell : ∀ j (h : j < needs.length), (Lib.bytesWorld w0 5 ⟨needs.toArray⟩).cell? ⟨w0.heap.size, j, none⟩ = some (byteV needs[j]) := fun j h => by
    rw [Lib.bytesWorld_cell w0 5 ⟨needs.toArray⟩ j (by rw [hsz]; omega)]
    simp [byteV, List.getD, List.getElem?_eq_getElem h]
  have hbs := Lib.bytesWorld_size w0 5 ⟨needs.toArray⟩
  rw [hsz] at hcv
  obtain ⟨q, hq⟩ : ∃ q, w0.heap.size = q := ⟨_, rfl⟩
  obtain ⟨cp, hcp⟩ : ∃ cp, grownCap w0 n 0 5 = cp := ⟨_, rfl⟩
  generalize Lib.bytesWorld w0 5 ⟨needs.toArray⟩ = w1 at *
  rw [hq, hcp] at hcv
  rw [hq] at hbs
  rw [hq] at hcell
  have n0 : Newer w w0 := hw0 ▸ Newer.alloc _ _
  have hqw : w.heap.size ≤ q := hq ▸ n0.size
  have hc1 : w0.cell? ⟨w.heap.size, 1, none⟩ = some (.string ⟨needs.toArray⟩) := by subst hw0; simp [go_sem]
  have HF := Lib.hid (hI.newer (n0.trans hb1))
  have hqz : q < w1.heap.size := by rw [hbs]; omega
  have HQ := Lib.hid (And.intro hcell hqz)
  have HW := Lib.hid hw0
  have HN := Lib.hid hn
  have HLT := Lib.hid hlet
  have HSH := Lib.hid hsh
  have HPD := Lib.hid hpd
  have HLL := Lib.hid hll
  have HS8 := Lib.hid hs
  have hcw : c < w.heap.size := hI.geo.2.2.2
  clear hcell hsz hb1 n0 hI hq hcp hbs hlet hn hs hsh hpd hll hqz
  unfold verb
  go_enter Tryz.func42, Tryz.ntmps42
  go_wp2_with fail
  simp only [undef]
  go_loopw [5, 10] (fun _ i wr => ∃ j : Nat, i = .int .i64 j ∧ j ≤ n ∧ LayJ wb c b q needs w wr a (.slice p8 n8 m8) (.slice p9 n9 m9) (line ++ addL (needs.take j) a)) (fun _ i _ => n - (intOf i).toNat)
  case atStart => exact ⟨0, rfl, Nat.zero_le _, ⟨by simpa [addL] using HF.out, HQ.out.1, HQ.out.2, hqw⟩⟩
  case round =>
    obtain ⟨j, rfl, hj, hI⟩ := hrel
    obtain ⟨cur, hcur⟩ : ∃ cur, line ++ addL (needs.take j) a = cur := ⟨_, rfl⟩
    rw [hcur] at hI
    have hcell := hI.bytes
    have HI := Lib.hid hI
    have HCU := Lib.hid hcur
    clear hI hcur
    by_cases hlt : j < n
    · obtain ⟨cc, hc⟩ : ∃ c, needs[j]'(by rw [HN.out]; exact hlt) = c := ⟨_, rfl⟩
      have HJ := Lib.hid (And.intro hlt (by rw [← HN.out]; exact HLT.out.2 : n ≤ 100))
      have HC := Lib.hid (HLT.out.1 cc (hc ▸ List.getElem_mem _))
      have c0 : wr.cell? ⟨q, j, none⟩ = some (.int .u8 cc.toNat) := by rw [hcell j (by rw [HN.out]; exact hlt), hc]; rfl
      have HNX : Hid (line ++ addL (needs.take (j + 1)) a = cur ++ (32 :: showL cc a)) := Lib.hid (by rw [← HCU.out, ← hc, lay_step])
      have hl1 := show_len cc a HSH.out HPD.out
      have hl2 : cur.length ≤ 1300000000 := by
        have := add_len (needs.take j) a HSH.out HPD.out
        have h4 := HLL.out
        have h3 : (needs.take j).length ≤ 100 := by have := HLT.out.2; simp; omega
        rw [← HCU.out, List.length_append]
        omega
      obtain ⟨sh, hsw⟩ : ∃ sh, showL cc a = sh := ⟨_, rfl⟩
      obtain ⟨sh2, hs2⟩ : ∃ sh2, 32 :: sh = sh2 := ⟨_, rfl⟩
      obtain ⟨cur3, hs3⟩ : ∃ cur3, cur ++ sh2 = cur3 := ⟨_, rfl⟩
      rw [hsw] at hl1
      have hl3 : sh2.length = sh.length + 1 := by rw [← hs2]; rfl
      have ha7 : ¬ 9223372036854775807 < 1 + sh.length := by omega
      have ha8 : ¬ 9223372036854775807 < cur.length + sh2.length := by omega
      have hcat : (⟨#[32]⟩ : ByteArray) ++ ⟨sh.toArray⟩ = ⟨sh2.toArray⟩ := by rw [← hs2]; exact cat_str [32] sh
      have hcat2 : (⟨cur.toArray⟩ : ByteArray) ++ ⟨sh2.toArray⟩ = ⟨cur3.toArray⟩ := by rw [← hs3]; exact cat_str cur sh2
      have HSW := Lib.hid hsw
      have HNX : Hid (line ++ addL (needs.take (j + 1)) a = cur3) := Lib.hid (by rw [← hs3, ← hs2, ← hsw]; exact HNX.out)
      clear hsw hs2 hs3 hl3
      clear hl1 hl2
      clear hc hcell
      go_wp2_with fail
      clear c0
      refine wp_region_any (by kernel_rfl) ?_
      (try (change wpAny _ _ _ _ _ _ _ (World.drew _)))
      obtain ⟨V0, hV0⟩ : ∃ x, World.drew wr = x := ⟨_, rfl⟩
      rw [hV0]
      have G0 := Lib.hid (HI.out.newer (hV0 ▸ Newer.drew wr))
      obtain ⟨B, hV0s⟩ : ∃ B, V0.heap.size = B := ⟨_, rfl⟩
      clear hV0
      refine wpAny_take (i := 2) (v := ?_) rfl (by kernel_rfl) (by kernel_rfl) (by kernel_rfl) (fun _ _ _ h => h) (Or.inl ⟨by rfl, ?_⟩) ?_
      rotate_left 1
      · intro w; go_simp; try with_reducible rfl
      refine wpAny_ready (rs := [0, 1, 5]) (by kernel_rfl) (by simp) ?_
      refine AllReady.cons rfl (fun KK hKK => ?_) ?_
      · go_simp
        have c0 := G0.out.I.cell
        go_simp
        clear c0
        refine hKK _ _ ?_
        clear hKK KK
        refine wpAny_ready (rs := [1, 5]) (by kernel_rfl) (by simp) ?_
        refine AllReady.cons rfl (fun KK hKK => ?_) ?_
        · go_simp
          refine (parts_any _).mono ?_
          rintro e X1 ⟨rfl, np, bt, bm, ba, bn, bp, bq, hp⟩
          obtain ⟨v, hpart, hlk⟩ := parts_part hp cc HC.out
          obtain ⟨fr, capr, fs, caps, rfl, e1, e2, -, -, hshow⟩ := hpart
          have hl1 := hlk X1 (Held.newer _ (Newer.refl _))
          rw [hV0s] at hl1 ⊢
          have ef : ∀ w, (Instr.field 84 (.agg #[.func (.func fr) #[] capr, .func (.func fs) #[] caps]) 1).run Tryz.prog w = .ok (.func (.func fs) #[] caps) w := fun _ => rfl
          have HP := Lib.hid hshow
          have G1 := Lib.hid ((G0).out.newer np)
          clear np hp hlk hshow e1
          refine hKK _ _ ?_
          clear hKK KK
          refine wpAny_ready (rs := [3, 5]) (by kernel_rfl) (by simp) ?_
          refine AllReady.cons rfl (fun KK hKK => ?_) ?_
          · go_simp
            refine hKK _ _ ?_
            clear hKK KK
            refine wpAny_take (i := 4) (v := ?_) rfl (by kernel_rfl) (by kernel_rfl) (by kernel_rfl) (fun _ _ _ h => h) (Or.inl ⟨by rfl, ?_⟩) ?_
            rotate_left 1
            · intro w; go_simp; try with_reducible rfl
            refine wpAny_ready (rs := [5]) (by kernel_rfl) (by simp) ?_
            refine AllReady.cons rfl (fun KK hKK => ?_) AllReady.nil
            go_simp
            obtain ⟨k0, k1, k2, k3, k4, k5, k6, k7, k8, k9⟩ := G1.out.I.act
            go_simp
            clear k0 k1 k2 k3 k4 k5 k6 k7 k8 k9
            refine hKK _ _ ?_
            clear hKK KK
            refine wpAny_ready (rs := [6]) (by kernel_rfl) (by simp) ?_
            refine AllReady.cons rfl (fun KK hKK => ?_) AllReady.nil
            go_simp
            refine (HP.out X1 (Held.newer _ (Newer.refl _)) G1.out.I.env a _ _ HSH.out (G1.out.I.slices HS8.out).1 (G1.out.I.slices HS8.out).2).mono ?_
            rintro e X2 ⟨he, n2⟩
            rw [HSW.out] at he
            subst he
            have G2 := Lib.hid (G1.out.newer n2)
            clear n2
            refine hKK _ _ ?_
            clear hKK KK
            refine wpAny_take (i := 7) (v := ?_) rfl (by kernel_rfl) (by kernel_rfl) (by kernel_rfl) (fun _ _ _ h => h) (Or.inl ⟨by rfl, ?_⟩) ?_
            rotate_left 1
            · intro w; go_simp; try with_reducible rfl
            refine wpAny_take (i := 8) (v := ?_) rfl (by kernel_rfl) (by kernel_rfl) (by kernel_rfl) (fun _ _ _ h => h) (Or.inl ⟨by rfl, ?_⟩) ?_
            rotate_left 1
            · intro w; go_simp; try with_reducible rfl
            refine wpAny_ready (rs := [9]) (by kernel_rfl) (by simp) ?_
            refine AllReady.cons rfl (fun KK hKK => ?_) AllReady.nil
            go_simp
            have c0 := G2.out.I.cell
            have f0 := G2.out.I.fro
            have hl0 : c < X2.heap.size := G2.out.I.lt
            go_simp
            have G3 := Lib.hid (G2.out.put cur3)
            clear c0 f0 hl0
            refine hKK _ _ ?_
            clear hKK KK
            refine wpAny_done (by kernel_rfl) ?_ _
            obtain ⟨X3, hX3⟩ : ∃ yw, X2.setCell ⟨c, 0, none⟩ (.string ⟨cur3.toArray⟩) = yw := ⟨_, rfl⟩
            rw [hX3] at G3 ⊢
            clear hX3
            have hjn := HJ.out
            go_wp2_with fail
            refine ⟨⟨j + 1, rfl, by omega, ?_⟩, ?_⟩
            · rw [HNX.out]
              exact G3.out
            · simp [intOf]
              omega
          refine AllReady.cons rfl (fun KK hKK => ?_) AllReady.nil
          · go_simp
            obtain ⟨k0, k1, k2, k3, k4, k5, k6, k7, k8, k9⟩ := G1.out.I.act
            go_simp
            clear k0 k1 k2 k3 k4 k5 k6 k7 k8 k9
            refine hKK _ _ ?_
            clear hKK KK
            refine wpAny_ready (rs := [3]) (by kernel_rfl) (by simp) ?_
            refine AllReady.cons rfl (fun KK hKK => ?_) AllReady.nil
            go_simp
            refine hKK _ _ ?_
            clear hKK KK
            refine wpAny_take (i := 4) (v := ?_) rfl (by kernel_rfl) (by kernel_rfl) (by kernel_rfl) (fun _ _ _ h => h) (Or.inl ⟨by rfl, ?_⟩) ?_
            rotate_left 1
            · intro w; go_simp; try with_reducible rfl
            refine wpAny_ready (rs := [6]) (by kernel_rfl) (by simp) ?_
            refine AllReady.cons rfl (fun KK hKK => ?_) AllReady.nil
            go_simp
            refine (HP.out X1 (Held.newer _ (Newer.refl _)) G1.out.I.env a _ _ HSH.out (G1.out.I.slices HS8.out).1 (G1.out.I.slices HS8.out).2).mono ?_
            rintro e X2 ⟨he, n2⟩
            rw [HSW.out] at he
            subst he
            have G2 := Lib.hid (G1.out.newer n2)
            clear n2
            refine hKK _ _ ?_
            clear hKK KK
            refine wpAny_take (i := 7) (v := ?_) rfl (by kernel_rfl) (by kernel_rfl) (by kernel_rfl) (fun _ _ _ h => h) (Or.inl ⟨by rfl, ?_⟩) ?_
            rotate_left 1
            · intro w; go_simp; try with_reducible rfl
            refine wpAny_take (i := 8) (v := ?_) rfl (by kernel_rfl) (by kernel_rfl) (by kernel_rfl) (fun _ _ _ h => h) (Or.inl ⟨by rfl, ?_⟩) ?_
            rotate_left 1
            · intro w; go_simp; try with_reducible rfl
            refine wpAny_ready (rs := [9]) (by kernel_rfl) (by simp) ?_
            refine AllReady.cons rfl (fun KK hKK => ?_) AllReady.nil
            go_simp
            have c0 := G2.out.I.cell
            have f0 := G2.out.I.fro
            have hl0 : c < X2.heap.size := G2.out.I.lt
            go_simp
            have G3 := Lib.hid (G2.out.put cur3)
            clear c0 f0 hl0
            refine hKK _ _ ?_
            clear hKK KK
            refine wpAny_done (by kernel_rfl) ?_ _
            obtain ⟨X3, hX3⟩ : ∃ yw, X2.setCell ⟨c, 0, none⟩ (.string ⟨cur3.toArray⟩) = yw := ⟨_, rfl⟩
            rw [hX3] at G3 ⊢
            clear hX3
            have hjn := HJ.out
            go_wp2_with fail
            refine ⟨⟨j + 1, rfl, by omega, ?_⟩, ?_⟩
            · rw [HNX.out]
              exact G3.out
            · simp [intOf]
              omega
        refine AllReady.cons rfl (fun KK hKK => ?_) AllReady.nil
        · go_simp
          obtain ⟨k0, k1, k2, k3, k4, k5, k6, k7, k8, k9⟩ := G0.out.I.act
          go_simp
          clear k0 k1 k2 k3 k4 k5 k6 k7 k8 k9
          refine hKK _ _ ?_
          clear hKK KK
          refine wpAny_ready (rs := [1]) (by kernel_rfl) (by simp) ?_
          refine AllReady.cons rfl (fun KK hKK => ?_) AllReady.nil
          go_simp
          refine (parts_any _).mono ?_
          rintro e X1 ⟨rfl, np, bt, bm, ba, bn, bp, bq, hp⟩
          obtain ⟨v, hpart, hlk⟩ := parts_part hp cc HC.out
          obtain ⟨fr, capr, fs, caps, rfl, e1, e2, -, -, hshow⟩ := hpart
          have hl1 := hlk X1 (Held.newer _ (Newer.refl _))
          rw [hV0s] at hl1 ⊢
          have ef : ∀ w, (Instr.field 84 (.agg #[.func (.func fr) #[] capr, .func (.func fs) #[] caps]) 1).run Tryz.prog w = .ok (.func (.func fs) #[] caps) w := fun _ => rfl
          have HP := Lib.hid hshow
          have G1 := Lib.hid ((G0).out.newer np)
          clear np hp hlk hshow e1
          refine hKK _ _ ?_
          clear hKK KK
          refine wpAny_ready (rs := [3]) (by kernel_rfl) (by simp) ?_
          refine AllReady.cons rfl (fun KK hKK => ?_) AllReady.nil
          go_simp
          refine hKK _ _ ?_
          clear hKK KK
          refine wpAny_take (i := 4) (v := ?_) rfl (by kernel_rfl) (by kernel_rfl) (by kernel_rfl) (fun _ _ _ h => h) (Or.inl ⟨by rfl, ?_⟩) ?_
          rotate_left 1
          · intro w; go_simp; try with_reducible rfl
          refine wpAny_ready (rs := [6]) (by kernel_rfl) (by simp) ?_
          refine AllReady.cons rfl (fun KK hKK => ?_) AllReady.nil
          go_simp
          refine (HP.out X1 (Held.newer _ (Newer.refl _)) G1.out.I.env a _ _ HSH.out (G1.out.I.slices HS8.out).1 (G1.out.I.slices HS8.out).2).mono ?_
          rintro e X2 ⟨he, n2⟩
          rw [HSW.out] at he
          subst he
          have G2 := Lib.hid (G1.out.newer n2)
          clear n2
          refine hKK _ _ ?_
          clear hKK KK
          refine wpAny_take (i := 7) (v := ?_) rfl (by kernel_rfl) (by kernel_rfl) (by kernel_rfl) (fun _ _ _ h => h) (Or.inl ⟨by rfl, ?_⟩) ?_
          rotate_left 1
          · intro w; go_simp; try with_reducible rfl
          refine wpAny_take (i := 8) (v := ?_) rfl (by kernel_rfl) (by kernel_rfl) (by kernel_rfl) (fun _ _ _ h => h) (Or.inl ⟨by rfl, ?_⟩) ?_
          rotate_left 1
          · intro w; go_simp; try with_reducible rfl
          refine wpAny_ready (rs := [9]) (by kernel_rfl) (by simp) ?_
          refine AllReady.cons rfl (fun KK hKK => ?_) AllReady.nil
          go_simp
          have c0 := G2.out.I.cell
          have f0 := G2.out.I.fro
          have hl0 : c < X2.heap.size := G2.out.I.lt
          go_simp
          have G3 := Lib.hid (G2.out.put cur3)
          clear c0 f0 hl0
          refine hKK _ _ ?_
          clear hKK KK
          refine wpAny_done (by kernel_rfl) ?_ _
          obtain ⟨X3, hX3⟩ : ∃ yw, X2.setCell ⟨c, 0, none⟩ (.string ⟨cur3.toArray⟩) = yw := ⟨_, rfl⟩
          rw [hX3] at G3 ⊢
          clear hX3
          have hjn := HJ.out
          go_wp2_with fail
          refine ⟨⟨j + 1, rfl, by omega, ?_⟩, ?_⟩
          · rw [HNX.out]
            exact G3.out
          · simp [intOf]
            omega
      refine AllReady.cons rfl (fun KK hKK => ?_) ?_
      · go_simp
        refine (parts_any _).mono ?_
        rintro e X1 ⟨rfl, np, bt, bm, ba, bn, bp, bq, hp⟩
        obtain ⟨v, hpart, hlk⟩ := parts_part hp cc HC.out
        obtain ⟨fr, capr, fs, caps, rfl, e1, e2, -, -, hshow⟩ := hpart
        have hl1 := hlk X1 (Held.newer _ (Newer.refl _))
        rw [hV0s] at hl1 ⊢
        have ef : ∀ w, (Instr.field 84 (.agg #[.func (.func fr) #[] capr, .func (.func fs) #[] caps]) 1).run Tryz.prog w = .ok (.func (.func fs) #[] caps) w := fun _ => rfl
        have HP := Lib.hid hshow
        have G1 := Lib.hid ((G0).out.newer np)
        clear np hp hlk hshow e1
        refine hKK _ _ ?_
        clear hKK KK
        refine wpAny_ready (rs := [0, 3, 5]) (by kernel_rfl) (by simp) ?_
        refine AllReady.cons rfl (fun KK hKK => ?_) ?_
        · go_simp
          have c0 := G1.out.I.cell
          go_simp
          clear c0
          refine hKK _ _ ?_
          clear hKK KK
          refine wpAny_ready (rs := [3, 5]) (by kernel_rfl) (by simp) ?_
          refine AllReady.cons rfl (fun KK hKK => ?_) ?_
          · go_simp
            refine hKK _ _ ?_
            clear hKK KK
            refine wpAny_take (i := 4) (v := ?_) rfl (by kernel_rfl) (by kernel_rfl) (by kernel_rfl) (fun _ _ _ h => h) (Or.inl ⟨by rfl, ?_⟩) ?_
            rotate_left 1
            · intro w; go_simp; try with_reducible rfl
            refine wpAny_ready (rs := [5]) (by kernel_rfl) (by simp) ?_
            refine AllReady.cons rfl (fun KK hKK => ?_) AllReady.nil
            go_simp
            obtain ⟨k0, k1, k2, k3, k4, k5, k6, k7, k8, k9⟩ := G1.out.I.act
            go_simp
            clear k0 k1 k2 k3 k4 k5 k6 k7 k8 k9
            refine hKK _ _ ?_
            clear hKK KK
            refine wpAny_ready (rs := [6]) (by kernel_rfl) (by simp) ?_
            refine AllReady.cons rfl (fun KK hKK => ?_) AllReady.nil
            go_simp
            refine (HP.out X1 (Held.newer _ (Newer.refl _)) G1.out.I.env a _ _ HSH.out (G1.out.I.slices HS8.out).1 (G1.out.I.slices HS8.out).2).mono ?_
            rintro e X2 ⟨he, n2⟩
            rw [HSW.out] at he
            subst he
            have G2 := Lib.hid (G1.out.newer n2)
            clear n2
            refine hKK _ _ ?_
            clear hKK KK
            refine wpAny_take (i := 7) (v := ?_) rfl (by kernel_rfl) (by kernel_rfl) (by kernel_rfl) (fun _ _ _ h => h) (Or.inl ⟨by rfl, ?_⟩) ?_
            rotate_left 1
            · intro w; go_simp; try with_reducible rfl
            refine wpAny_take (i := 8) (v := ?_) rfl (by kernel_rfl) (by kernel_rfl) (by kernel_rfl) (fun _ _ _ h => h) (Or.inl ⟨by rfl, ?_⟩) ?_
            rotate_left 1
            · intro w; go_simp; try with_reducible rfl
            refine wpAny_ready (rs := [9]) (by kernel_rfl) (by simp) ?_
            refine AllReady.cons rfl (fun KK hKK => ?_) AllReady.nil
            go_simp
            have c0 := G2.out.I.cell
            have f0 := G2.out.I.fro
            have hl0 : c < X2.heap.size := G2.out.I.lt
            go_simp
            have G3 := Lib.hid (G2.out.put cur3)
            clear c0 f0 hl0
            refine hKK _ _ ?_
            clear hKK KK
            refine wpAny_done (by kernel_rfl) ?_ _
            obtain ⟨X3, hX3⟩ : ∃ yw, X2.setCell ⟨c, 0, none⟩ (.string ⟨cur3.toArray⟩) = yw := ⟨_, rfl⟩
            rw [hX3] at G3 ⊢
            clear hX3
            have hjn := HJ.out
            go_wp2_with fail
            refine ⟨⟨j + 1, rfl, by omega, ?_⟩, ?_⟩
            · rw [HNX.out]
              exact G3.out
            · simp [intOf]
              omega
          refine AllReady.cons rfl (fun KK hKK => ?_) AllReady.nil
          · go_simp
            obtain ⟨k0, k1, k2, k3, k4, k5, k6, k7, k8, k9⟩ := G1.out.I.act
            go_simp
            clear k0 k1 k2 k3 k4 k5 k6 k7 k8 k9
            refine hKK _ _ ?_
            clear hKK KK
            refine wpAny_ready (rs := [3]) (by kernel_rfl) (by simp) ?_
            refine AllReady.cons rfl (fun KK hKK => ?_) AllReady.nil
            go_simp
            refine hKK _ _ ?_
            clear hKK KK
            refine wpAny_take (i := 4) (v := ?_) rfl (by kernel_rfl) (by kernel_rfl) (by kernel_rfl) (fun _ _ _ h => h) (Or.inl ⟨by rfl, ?_⟩) ?_
            rotate_left 1
            · intro w; go_simp; try with_reducible rfl
            refine wpAny_ready (rs := [6]) (by kernel_rfl) (by simp) ?_
            refine AllReady.cons rfl (fun KK hKK => ?_) AllReady.nil
            go_simp
            refine (HP.out X1 (Held.newer _ (Newer.refl _)) G1.out.I.env a _ _ HSH.out (G1.out.I.slices HS8.out).1 (G1.out.I.slices HS8.out).2).mono ?_
            rintro e X2 ⟨he, n2⟩
            rw [HSW.out] at he
            subst he
            have G2 := Lib.hid (G1.out.newer n2)
            clear n2
            refine hKK _ _ ?_
            clear hKK KK
            refine wpAny_take (i := 7) (v := ?_) rfl (by kernel_rfl) (by kernel_rfl) (by kernel_rfl) (fun _ _ _ h => h) (Or.inl ⟨by rfl, ?_⟩) ?_
            rotate_left 1
            · intro w; go_simp; try with_reducible rfl
            refine wpAny_take (i := 8) (v := ?_) rfl (by kernel_rfl) (by kernel_rfl) (by kernel_rfl) (fun _ _ _ h => h) (Or.inl ⟨by rfl, ?_⟩) ?_
            rotate_left 1
            · intro w; go_simp; try with_reducible rfl
            refine wpAny_ready (rs := [9]) (by kernel_rfl) (by simp) ?_
            refine AllReady.cons rfl (fun KK hKK => ?_) AllReady.nil
            go_simp
            have c0 := G2.out.I.cell
            have f0 := G2.out.I.fro
            have hl0 : c < X2.heap.size := G2.out.I.lt
            go_simp
            have G3 := Lib.hid (G2.out.put cur3)
            clear c0 f0 hl0
            refine hKK _ _ ?_
            clear hKK KK
            refine wpAny_done (by kernel_rfl) ?_ _
            obtain ⟨X3, hX3⟩ : ∃ yw, X2.setCell ⟨c, 0, none⟩ (.string ⟨cur3.toArray⟩) = yw := ⟨_, rfl⟩
            rw [hX3] at G3 ⊢
            clear hX3
            have hjn := HJ.out
            go_wp2_with fail
            refine ⟨⟨j + 1, rfl, by omega, ?_⟩, ?_⟩
            · rw [HNX.out]
              exact G3.out
            · simp [intOf]
              omega
        refine AllReady.cons rfl (fun KK hKK => ?_) ?_
        · go_simp
          refine hKK _ _ ?_
          clear hKK KK
          refine wpAny_take (i := 4) (v := ?_) rfl (by kernel_rfl) (by kernel_rfl) (by kernel_rfl) (fun _ _ _ h => h) (Or.inl ⟨by rfl, ?_⟩) ?_
          rotate_left 1
          · intro w; go_simp; try with_reducible rfl
          refine wpAny_ready (rs := [0, 5]) (by kernel_rfl) (by simp) ?_
          refine AllReady.cons rfl (fun KK hKK => ?_) ?_
          · go_simp
            have c0 := G1.out.I.cell
            go_simp
            clear c0
            refine hKK _ _ ?_
            clear hKK KK
            refine wpAny_ready (rs := [5]) (by kernel_rfl) (by simp) ?_
            refine AllReady.cons rfl (fun KK hKK => ?_) AllReady.nil
            go_simp
            obtain ⟨k0, k1, k2, k3, k4, k5, k6, k7, k8, k9⟩ := G1.out.I.act
            go_simp
            clear k0 k1 k2 k3 k4 k5 k6 k7 k8 k9
            refine hKK _ _ ?_
            clear hKK KK
            refine wpAny_ready (rs := [6]) (by kernel_rfl) (by simp) ?_
            refine AllReady.cons rfl (fun KK hKK => ?_) AllReady.nil
            go_simp
            refine (HP.out X1 (Held.newer _ (Newer.refl _)) G1.out.I.env a _ _ HSH.out (G1.out.I.slices HS8.out).1 (G1.out.I.slices HS8.out).2).mono ?_
            rintro e X2 ⟨he, n2⟩
            rw [HSW.out] at he
            subst he
            have G2 := Lib.hid (G1.out.newer n2)
            clear n2
            refine hKK _ _ ?_
            clear hKK KK
            refine wpAny_take (i := 7) (v := ?_) rfl (by kernel_rfl) (by kernel_rfl) (by kernel_rfl) (fun _ _ _ h => h) (Or.inl ⟨by rfl, ?_⟩) ?_
            rotate_left 1
            · intro w; go_simp; try with_reducible rfl
            refine wpAny_take (i := 8) (v := ?_) rfl (by kernel_rfl) (by kernel_rfl) (by kernel_rfl) (fun _ _ _ h => h) (Or.inl ⟨by rfl, ?_⟩) ?_
            rotate_left 1
            · intro w; go_simp; try with_reducible rfl
            refine wpAny_ready (rs := [9]) (by kernel_rfl) (by simp) ?_
            refine AllReady.cons rfl (fun KK hKK => ?_) AllReady.nil
            go_simp
            have c0 := G2.out.I.cell
            have f0 := G2.out.I.fro
            have hl0 : c < X2.heap.size := G2.out.I.lt
            go_simp
            have G3 := Lib.hid (G2.out.put cur3)
            clear c0 f0 hl0
            refine hKK _ _ ?_
            clear hKK KK
            refine wpAny_done (by kernel_rfl) ?_ _
            obtain ⟨X3, hX3⟩ : ∃ yw, X2.setCell ⟨c, 0, none⟩ (.string ⟨cur3.toArray⟩) = yw := ⟨_, rfl⟩
            rw [hX3] at G3 ⊢
            clear hX3
            have hjn := HJ.out
            go_wp2_with fail
            refine ⟨⟨j + 1, rfl, by omega, ?_⟩, ?_⟩
            · rw [HNX.out]
              exact G3.out
            · simp [intOf]
              omega
          refine AllReady.cons rfl (fun KK hKK => ?_) AllReady.nil
          · go_simp
            obtain ⟨k0, k1, k2, k3, k4, k5, k6, k7, k8, k9⟩ := G1.out.I.act
            go_simp
            clear k0 k1 k2 k3 k4 k5 k6 k7 k8 k9
            refine hKK _ _ ?_
            clear hKK KK
            refine wpAny_ready (rs := [0, 6]) (by kernel_rfl) (by simp) ?_
            refine AllReady.cons rfl (fun KK hKK => ?_) ?_
            · go_simp
              have c0 := G1.out.I.cell
              go_simp
              clear c0
              refine hKK _ _ ?_
              clear hKK KK
              refine wpAny_ready (rs := [6]) (by kernel_rfl) (by simp) ?_
              refine AllReady.cons rfl (fun KK hKK => ?_) AllReady.nil
              go_simp
              refine (HP.out X1 (Held.newer _ (Newer.refl _)) G1.out.I.env a _ _ HSH.out (G1.out.I.slices HS8.out).1 (G1.out.I.slices HS8.out).2).mono ?_
              rintro e X2 ⟨he, n2⟩
              rw [HSW.out] at he
              subst he
              have G2 := Lib.hid (G1.out.newer n2)
              clear n2
              refine hKK _ _ ?_
              clear hKK KK
              refine wpAny_take (i := 7) (v := ?_) rfl (by kernel_rfl) (by kernel_rfl) (by kernel_rfl) (fun _ _ _ h => h) (Or.inl ⟨by rfl, ?_⟩) ?_
              rotate_left 1
              · intro w; go_simp; try with_reducible rfl
              refine wpAny_take (i := 8) (v := ?_) rfl (by kernel_rfl) (by kernel_rfl) (by kernel_rfl) (fun _ _ _ h => h) (Or.inl ⟨by rfl, ?_⟩) ?_
              rotate_left 1
              · intro w; go_simp; try with_reducible rfl
              refine wpAny_ready (rs := [9]) (by kernel_rfl) (by simp) ?_
              refine AllReady.cons rfl (fun KK hKK => ?_) AllReady.nil
              go_simp
              have c0 := G2.out.I.cell
              have f0 := G2.out.I.fro
              have hl0 : c < X2.heap.size := G2.out.I.lt
              go_simp
              have G3 := Lib.hid (G2.out.put cur3)
              clear c0 f0 hl0
              refine hKK _ _ ?_
              clear hKK KK
              refine wpAny_done (by kernel_rfl) ?_ _
              obtain ⟨X3, hX3⟩ : ∃ yw, X2.setCell ⟨c, 0, none⟩ (.string ⟨cur3.toArray⟩) = yw := ⟨_, rfl⟩
              rw [hX3] at G3 ⊢
              clear hX3
              have hjn := HJ.out
              go_wp2_with fail
              refine ⟨⟨j + 1, rfl, by omega, ?_⟩, ?_⟩
              · rw [HNX.out]
                exact G3.out
              · simp [intOf]
                omega
            refine AllReady.cons rfl (fun KK hKK => ?_) AllReady.nil
            · go_simp
              refine (HP.out X1 (Held.newer _ (Newer.refl _)) G1.out.I.env a _ _ HSH.out (G1.out.I.slices HS8.out).1 (G1.out.I.slices HS8.out).2).mono ?_
              rintro e X2 ⟨he, n2⟩
              rw [HSW.out] at he
              subst he
              have G2 := Lib.hid (G1.out.newer n2)
              clear n2
              refine hKK _ _ ?_
              clear hKK KK
              refine wpAny_take (i := 7) (v := ?_) rfl (by kernel_rfl) (by kernel_rfl) (by kernel_rfl) (fun _ _ _ h => h) (Or.inl ⟨by rfl, ?_⟩) ?_
              rotate_left 1
              · intro w; go_simp; try with_reducible rfl
              refine wpAny_ready (rs := [0]) (by kernel_rfl) (by simp) ?_
              refine AllReady.cons rfl (fun KK hKK => ?_) AllReady.nil
              go_simp
              have c0 := G2.out.I.cell
              go_simp
              clear c0
              refine hKK _ _ ?_
              clear hKK KK
              refine wpAny_take (i := 8) (v := ?_) rfl (by kernel_rfl) (by kernel_rfl) (by kernel_rfl) (fun _ _ _ h => h) (Or.inl ⟨by rfl, ?_⟩) ?_
              rotate_left 1
              · intro w; go_simp; try with_reducible rfl
              refine wpAny_ready (rs := [9]) (by kernel_rfl) (by simp) ?_
              refine AllReady.cons rfl (fun KK hKK => ?_) AllReady.nil
              go_simp
              have c0 := G2.out.I.cell
              have f0 := G2.out.I.fro
              have hl0 : c < X2.heap.size := G2.out.I.lt
              go_simp
              have G3 := Lib.hid (G2.out.put cur3)
              clear c0 f0 hl0
              refine hKK _ _ ?_
              clear hKK KK
              refine wpAny_done (by kernel_rfl) ?_ _
              obtain ⟨X3, hX3⟩ : ∃ yw, X2.setCell ⟨c, 0, none⟩ (.string ⟨cur3.toArray⟩) = yw := ⟨_, rfl⟩
              rw [hX3] at G3 ⊢
              clear hX3
              have hjn := HJ.out
              go_wp2_with fail
              refine ⟨⟨j + 1, rfl, by omega, ?_⟩, ?_⟩
              · rw [HNX.out]
                exact G3.out
              · simp [intOf]
                omega
        refine AllReady.cons rfl (fun KK hKK => ?_) AllReady.nil
        · go_simp
          obtain ⟨k0, k1, k2, k3, k4, k5, k6, k7, k8, k9⟩ := G1.out.I.act
          go_simp
          clear k0 k1 k2 k3 k4 k5 k6 k7 k8 k9
          refine hKK _ _ ?_
          clear hKK KK
          refine wpAny_ready (rs := [0, 3]) (by kernel_rfl) (by simp) ?_
          refine AllReady.cons rfl (fun KK hKK => ?_) ?_
          · go_simp
            have c0 := G1.out.I.cell
            go_simp
            clear c0
            refine hKK _ _ ?_
            clear hKK KK
            refine wpAny_ready (rs := [3]) (by kernel_rfl) (by simp) ?_
            refine AllReady.cons rfl (fun KK hKK => ?_) AllReady.nil
            go_simp
            refine hKK _ _ ?_
            clear hKK KK
            refine wpAny_take (i := 4) (v := ?_) rfl (by kernel_rfl) (by kernel_rfl) (by kernel_rfl) (fun _ _ _ h => h) (Or.inl ⟨by rfl, ?_⟩) ?_
            rotate_left 1
            · intro w; go_simp; try with_reducible rfl
            refine wpAny_ready (rs := [6]) (by kernel_rfl) (by simp) ?_
            refine AllReady.cons rfl (fun KK hKK => ?_) AllReady.nil
            go_simp
            refine (HP.out X1 (Held.newer _ (Newer.refl _)) G1.out.I.env a _ _ HSH.out (G1.out.I.slices HS8.out).1 (G1.out.I.slices HS8.out).2).mono ?_
            rintro e X2 ⟨he, n2⟩
            rw [HSW.out] at he
            subst he
            have G2 := Lib.hid (G1.out.newer n2)
            clear n2
            refine hKK _ _ ?_
            clear hKK KK
            refine wpAny_take (i := 7) (v := ?_) rfl (by kernel_rfl) (by kernel_rfl) (by kernel_rfl) (fun _ _ _ h => h) (Or.inl ⟨by rfl, ?_⟩) ?_
            rotate_left 1
            · intro w; go_simp; try with_reducible rfl
            refine wpAny_take (i := 8) (v := ?_) rfl (by kernel_rfl) (by kernel_rfl) (by kernel_rfl) (fun _ _ _ h => h) (Or.inl ⟨by rfl, ?_⟩) ?_
            rotate_left 1
            · intro w; go_simp; try with_reducible rfl
            refine wpAny_ready (rs := [9]) (by kernel_rfl) (by simp) ?_
            refine AllReady.cons rfl (fun KK hKK => ?_) AllReady.nil
            go_simp
            have c0 := G2.out.I.cell
            have f0 := G2.out.I.fro
            have hl0 : c < X2.heap.size := G2.out.I.lt
            go_simp
            have G3 := Lib.hid (G2.out.put cur3)
            clear c0 f0 hl0
            refine hKK _ _ ?_
            clear hKK KK
            refine wpAny_done (by kernel_rfl) ?_ _
            obtain ⟨X3, hX3⟩ : ∃ yw, X2.setCell ⟨c, 0, none⟩ (.string ⟨cur3.toArray⟩) = yw := ⟨_, rfl⟩
            rw [hX3] at G3 ⊢
            clear hX3
            have hjn := HJ.out
            go_wp2_with fail
            refine ⟨⟨j + 1, rfl, by omega, ?_⟩, ?_⟩
            · rw [HNX.out]
              exact G3.out
            · simp [intOf]
              omega
          refine AllReady.cons rfl (fun KK hKK => ?_) AllReady.nil
          · go_simp
            refine hKK _ _ ?_
            clear hKK KK
            refine wpAny_take (i := 4) (v := ?_) rfl (by kernel_rfl) (by kernel_rfl) (by kernel_rfl) (fun _ _ _ h => h) (Or.inl ⟨by rfl, ?_⟩) ?_
            rotate_left 1
            · intro w; go_simp; try with_reducible rfl
            refine wpAny_ready (rs := [0, 6]) (by kernel_rfl) (by simp) ?_
            refine AllReady.cons rfl (fun KK hKK => ?_) ?_
            · go_simp
              have c0 := G1.out.I.cell
              go_simp
              clear c0
              refine hKK _ _ ?_
              clear hKK KK
              refine wpAny_ready (rs := [6]) (by kernel_rfl) (by simp) ?_
              refine AllReady.cons rfl (fun KK hKK => ?_) AllReady.nil
              go_simp
              refine (HP.out X1 (Held.newer _ (Newer.refl _)) G1.out.I.env a _ _ HSH.out (G1.out.I.slices HS8.out).1 (G1.out.I.slices HS8.out).2).mono ?_
              rintro e X2 ⟨he, n2⟩
              rw [HSW.out] at he
              subst he
              have G2 := Lib.hid (G1.out.newer n2)
              clear n2
              refine hKK _ _ ?_
              clear hKK KK
              refine wpAny_take (i := 7) (v := ?_) rfl (by kernel_rfl) (by kernel_rfl) (by kernel_rfl) (fun _ _ _ h => h) (Or.inl ⟨by rfl, ?_⟩) ?_
              rotate_left 1
              · intro w; go_simp; try with_reducible rfl
              refine wpAny_take (i := 8) (v := ?_) rfl (by kernel_rfl) (by kernel_rfl) (by kernel_rfl) (fun _ _ _ h => h) (Or.inl ⟨by rfl, ?_⟩) ?_
              rotate_left 1
              · intro w; go_simp; try with_reducible rfl
              refine wpAny_ready (rs := [9]) (by kernel_rfl) (by simp) ?_
              refine AllReady.cons rfl (fun KK hKK => ?_) AllReady.nil
              go_simp
              have c0 := G2.out.I.cell
              have f0 := G2.out.I.fro
              have hl0 : c < X2.heap.size := G2.out.I.lt
              go_simp
              have G3 := Lib.hid (G2.out.put cur3)
              clear c0 f0 hl0
              refine hKK _ _ ?_
              clear hKK KK
              refine wpAny_done (by kernel_rfl) ?_ _
              obtain ⟨X3, hX3⟩ : ∃ yw, X2.setCell ⟨c, 0, none⟩ (.string ⟨cur3.toArray⟩) = yw := ⟨_, rfl⟩
              rw [hX3] at G3 ⊢
              clear hX3
              have hjn := HJ.out
              go_wp2_with fail
              refine ⟨⟨j + 1, rfl, by omega, ?_⟩, ?_⟩
              · rw [HNX.out]
                exact G3.out
              · simp [intOf]
                omega
            refine AllReady.cons rfl (fun KK hKK => ?_) AllReady.nil
            · go_simp
              refine (HP.out X1 (Held.newer _ (Newer.refl _)) G1.out.I.env a _ _ HSH.out (G1.out.I.slices HS8.out).1 (G1.out.I.slices HS8.out).2).mono ?_
              rintro e X2 ⟨he, n2⟩
              rw [HSW.out] at he
              subst he
              have G2 := Lib.hid (G1.out.newer n2)
              clear n2
              refine hKK _ _ ?_
              clear hKK KK
              refine wpAny_take (i := 7) (v := ?_) rfl (by kernel_rfl) (by kernel_rfl) (by kernel_rfl) (fun _ _ _ h => h) (Or.inl ⟨by rfl, ?_⟩) ?_
              rotate_left 1
              · intro w; go_simp; try with_reducible rfl
              refine wpAny_ready (rs := [0]) (by kernel_rfl) (by simp) ?_
              refine AllReady.cons rfl (fun KK hKK => ?_) AllReady.nil
              go_simp
              have c0 := G2.out.I.cell
              go_simp
              clear c0
              refine hKK _ _ ?_
              clear hKK KK
              refine wpAny_take (i := 8) (v := ?_) rfl (by kernel_rfl) (by kernel_rfl) (by kernel_rfl) (fun _ _ _ h => h) (Or.inl ⟨by rfl, ?_⟩) ?_
              rotate_left 1
              · intro w; go_simp; try with_reducible rfl
              refine wpAny_ready (rs := [9]) (by kernel_rfl) (by simp) ?_
              refine AllReady.cons rfl (fun KK hKK => ?_) AllReady.nil
              go_simp
              have c0 := G2.out.I.cell
              have f0 := G2.out.I.fro
              have hl0 : c < X2.heap.size := G2.out.I.lt
              go_simp
              have G3 := Lib.hid (G2.out.put cur3)
              clear c0 f0 hl0
              refine hKK _ _ ?_
              clear hKK KK
              refine wpAny_done (by kernel_rfl) ?_ _
              obtain ⟨X3, hX3⟩ : ∃ yw, X2.setCell ⟨c, 0, none⟩ (.string ⟨cur3.toArray⟩) = yw := ⟨_, rfl⟩
              rw [hX3] at G3 ⊢
              clear hX3
              have hjn := HJ.out
              go_wp2_with fail
              refine ⟨⟨j + 1, rfl, by omega, ?_⟩, ?_⟩
              · rw [HNX.out]
                exact G3.out
              · simp [intOf]
                omega
      refine AllReady.cons rfl (fun KK hKK => ?_) AllReady.nil
      · go_simp
        obtain ⟨k0, k1, k2, k3, k4, k5, k6, k7, k8, k9⟩ := G0.out.I.act
        go_simp
        clear k0 k1 k2 k3 k4 k5 k6 k7 k8 k9
        refine hKK _ _ ?_
        clear hKK KK
        refine wpAny_ready (rs := [0, 1]) (by kernel_rfl) (by simp) ?_
        refine AllReady.cons rfl (fun KK hKK => ?_) ?_
        · go_simp
          have c0 := G0.out.I.cell
          go_simp
          clear c0
          refine hKK _ _ ?_
          clear hKK KK
          refine wpAny_ready (rs := [1]) (by kernel_rfl) (by simp) ?_
          refine AllReady.cons rfl (fun KK hKK => ?_) AllReady.nil
          go_simp
          refine (parts_any _).mono ?_
          rintro e X1 ⟨rfl, np, bt, bm, ba, bn, bp, bq, hp⟩
          obtain ⟨v, hpart, hlk⟩ := parts_part hp cc HC.out
          obtain ⟨fr, capr, fs, caps, rfl, e1, e2, -, -, hshow⟩ := hpart
          have hl1 := hlk X1 (Held.newer _ (Newer.refl _))
          rw [hV0s] at hl1 ⊢
          have ef : ∀ w, (Instr.field 84 (.agg #[.func (.func fr) #[] capr, .func (.func fs) #[] caps]) 1).run Tryz.prog w = .ok (.func (.func fs) #[] caps) w := fun _ => rfl
          have HP := Lib.hid hshow
          have G1 := Lib.hid ((G0).out.newer np)
          clear np hp hlk hshow e1
          refine hKK _ _ ?_
          clear hKK KK
          refine wpAny_ready (rs := [3]) (by kernel_rfl) (by simp) ?_
          refine AllReady.cons rfl (fun KK hKK => ?_) AllReady.nil
          go_simp
          refine hKK _ _ ?_
          clear hKK KK
          refine wpAny_take (i := 4) (v := ?_) rfl (by kernel_rfl) (by kernel_rfl) (by kernel_rfl) (fun _ _ _ h => h) (Or.inl ⟨by rfl, ?_⟩) ?_
          rotate_left 1
          · intro w; go_simp; try with_reducible rfl
          refine wpAny_ready (rs := [6]) (by kernel_rfl) (by simp) ?_
          refine AllReady.cons rfl (fun KK hKK => ?_) AllReady.nil
          go_simp
          refine (HP.out X1 (Held.newer _ (Newer.refl _)) G1.out.I.env a _ _ HSH.out (G1.out.I.slices HS8.out).1 (G1.out.I.slices HS8.out).2).mono ?_
          rintro e X2 ⟨he, n2⟩
          rw [HSW.out] at he
          subst he
          have G2 := Lib.hid (G1.out.newer n2)
          clear n2
          refine hKK _ _ ?_
          clear hKK KK
          refine wpAny_take (i := 7) (v := ?_) rfl (by kernel_rfl) (by kernel_rfl) (by kernel_rfl) (fun _ _ _ h => h) (Or.inl ⟨by rfl, ?_⟩) ?_
          rotate_left 1
          · intro w; go_simp; try with_reducible rfl
          refine wpAny_take (i := 8) (v := ?_) rfl (by kernel_rfl) (by kernel_rfl) (by kernel_rfl) (fun _ _ _ h => h) (Or.inl ⟨by rfl, ?_⟩) ?_
          rotate_left 1
          · intro w; go_simp; try with_reducible rfl
          refine wpAny_ready (rs := [9]) (by kernel_rfl) (by simp) ?_
          refine AllReady.cons rfl (fun KK hKK => ?_) AllReady.nil
          go_simp
          have c0 := G2.out.I.cell
          have f0 := G2.out.I.fro
          have hl0 : c < X2.heap.size := G2.out.I.lt
          go_simp
          have G3 := Lib.hid (G2.out.put cur3)
          clear c0 f0 hl0
          refine hKK _ _ ?_
          clear hKK KK
          refine wpAny_done (by kernel_rfl) ?_ _
          obtain ⟨X3, hX3⟩ : ∃ yw, X2.setCell ⟨c, 0, none⟩ (.string ⟨cur3.toArray⟩) = yw := ⟨_, rfl⟩
          rw [hX3] at G3 ⊢
          clear hX3
          have hjn := HJ.out
          go_wp2_with fail
          refine ⟨⟨j + 1, rfl, by omega, ?_⟩, ?_⟩
          · rw [HNX.out]
            exact G3.out
          · simp [intOf]
            omega
        refine AllReady.cons rfl (fun KK hKK => ?_) AllReady.nil
        · go_simp
          refine (parts_any _).mono ?_
          rintro e X1 ⟨rfl, np, bt, bm, ba, bn, bp, bq, hp⟩
          obtain ⟨v, hpart, hlk⟩ := parts_part hp cc HC.out
          obtain ⟨fr, capr, fs, caps, rfl, e1, e2, -, -, hshow⟩ := hpart
          have hl1 := hlk X1 (Held.newer _ (Newer.refl _))
          rw [hV0s] at hl1 ⊢
          have ef : ∀ w, (Instr.field 84 (.agg #[.func (.func fr) #[] capr, .func (.func fs) #[] caps]) 1).run Tryz.prog w = .ok (.func (.func fs) #[] caps) w := fun _ => rfl
          have HP := Lib.hid hshow
          have G1 := Lib.hid ((G0).out.newer np)
          clear np hp hlk hshow e1
          refine hKK _ _ ?_
          clear hKK KK
          refine wpAny_ready (rs := [0, 3]) (by kernel_rfl) (by simp) ?_
          refine AllReady.cons rfl (fun KK hKK => ?_) ?_
          · go_simp
            have c0 := G1.out.I.cell
            go_simp
            clear c0
            refine hKK _ _ ?_
            clear hKK KK
            refine wpAny_ready (rs := [3]) (by kernel_rfl) (by simp) ?_
            refine AllReady.cons rfl (fun KK hKK => ?_) AllReady.nil
            go_simp
            refine hKK _ _ ?_
            clear hKK KK
            refine wpAny_take (i := 4) (v := ?_) rfl (by kernel_rfl) (by kernel_rfl) (by kernel_rfl) (fun _ _ _ h => h) (Or.inl ⟨by rfl, ?_⟩) ?_
            rotate_left 1
            · intro w; go_simp; try with_reducible rfl
            refine wpAny_ready (rs := [6]) (by kernel_rfl) (by simp) ?_
            refine AllReady.cons rfl (fun KK hKK => ?_) AllReady.nil
            go_simp
            refine (HP.out X1 (Held.newer _ (Newer.refl _)) G1.out.I.env a _ _ HSH.out (G1.out.I.slices HS8.out).1 (G1.out.I.slices HS8.out).2).mono ?_
            rintro e X2 ⟨he, n2⟩
            rw [HSW.out] at he
            subst he
            have G2 := Lib.hid (G1.out.newer n2)
            clear n2
            refine hKK _ _ ?_
            clear hKK KK
            refine wpAny_take (i := 7) (v := ?_) rfl (by kernel_rfl) (by kernel_rfl) (by kernel_rfl) (fun _ _ _ h => h) (Or.inl ⟨by rfl, ?_⟩) ?_
            rotate_left 1
            · intro w; go_simp; try with_reducible rfl
            refine wpAny_take (i := 8) (v := ?_) rfl (by kernel_rfl) (by kernel_rfl) (by kernel_rfl) (fun _ _ _ h => h) (Or.inl ⟨by rfl, ?_⟩) ?_
            rotate_left 1
            · intro w; go_simp; try with_reducible rfl
            refine wpAny_ready (rs := [9]) (by kernel_rfl) (by simp) ?_
            refine AllReady.cons rfl (fun KK hKK => ?_) AllReady.nil
            go_simp
            have c0 := G2.out.I.cell
            have f0 := G2.out.I.fro
            have hl0 : c < X2.heap.size := G2.out.I.lt
            go_simp
            have G3 := Lib.hid (G2.out.put cur3)
            clear c0 f0 hl0
            refine hKK _ _ ?_
            clear hKK KK
            refine wpAny_done (by kernel_rfl) ?_ _
            obtain ⟨X3, hX3⟩ : ∃ yw, X2.setCell ⟨c, 0, none⟩ (.string ⟨cur3.toArray⟩) = yw := ⟨_, rfl⟩
            rw [hX3] at G3 ⊢
            clear hX3
            have hjn := HJ.out
            go_wp2_with fail
            refine ⟨⟨j + 1, rfl, by omega, ?_⟩, ?_⟩
            · rw [HNX.out]
              exact G3.out
            · simp [intOf]
              omega
          refine AllReady.cons rfl (fun KK hKK => ?_) AllReady.nil
          · go_simp
            refine hKK _ _ ?_
            clear hKK KK
            refine wpAny_take (i := 4) (v := ?_) rfl (by kernel_rfl) (by kernel_rfl) (by kernel_rfl) (fun _ _ _ h => h) (Or.inl ⟨by rfl, ?_⟩) ?_
            rotate_left 1
            · intro w; go_simp; try with_reducible rfl
            refine wpAny_ready (rs := [0, 6]) (by kernel_rfl) (by simp) ?_
            refine AllReady.cons rfl (fun KK hKK => ?_) ?_
            · go_simp
              have c0 := G1.out.I.cell
              go_simp
              clear c0
              refine hKK _ _ ?_
              clear hKK KK
              refine wpAny_ready (rs := [6]) (by kernel_rfl) (by simp) ?_
              refine AllReady.cons rfl (fun KK hKK => ?_) AllReady.nil
              go_simp
              refine (HP.out X1 (Held.newer _ (Newer.refl _)) G1.out.I.env a _ _ HSH.out (G1.out.I.slices HS8.out).1 (G1.out.I.slices HS8.out).2).mono ?_
              rintro e X2 ⟨he, n2⟩
              rw [HSW.out] at he
              subst he
              have G2 := Lib.hid (G1.out.newer n2)
              clear n2
              refine hKK _ _ ?_
              clear hKK KK
              refine wpAny_take (i := 7) (v := ?_) rfl (by kernel_rfl) (by kernel_rfl) (by kernel_rfl) (fun _ _ _ h => h) (Or.inl ⟨by rfl, ?_⟩) ?_
              rotate_left 1
              · intro w; go_simp; try with_reducible rfl
              refine wpAny_take (i := 8) (v := ?_) rfl (by kernel_rfl) (by kernel_rfl) (by kernel_rfl) (fun _ _ _ h => h) (Or.inl ⟨by rfl, ?_⟩) ?_
              rotate_left 1
              · intro w; go_simp; try with_reducible rfl
              refine wpAny_ready (rs := [9]) (by kernel_rfl) (by simp) ?_
              refine AllReady.cons rfl (fun KK hKK => ?_) AllReady.nil
              go_simp
              have c0 := G2.out.I.cell
              have f0 := G2.out.I.fro
              have hl0 : c < X2.heap.size := G2.out.I.lt
              go_simp
              have G3 := Lib.hid (G2.out.put cur3)
              clear c0 f0 hl0
              refine hKK _ _ ?_
              clear hKK KK
              refine wpAny_done (by kernel_rfl) ?_ _
              obtain ⟨X3, hX3⟩ : ∃ yw, X2.setCell ⟨c, 0, none⟩ (.string ⟨cur3.toArray⟩) = yw := ⟨_, rfl⟩
              rw [hX3] at G3 ⊢
              clear hX3
              have hjn := HJ.out
              go_wp2_with fail
              refine ⟨⟨j + 1, rfl, by omega, ?_⟩, ?_⟩
              · rw [HNX.out]
                exact G3.out
              · simp [intOf]
                omega
            refine AllReady.cons rfl (fun KK hKK => ?_) AllReady.nil
            · go_simp
              refine (HP.out X1 (Held.newer _ (Newer.refl _)) G1.out.I.env a _ _ HSH.out (G1.out.I.slices HS8.out).1 (G1.out.I.slices HS8.out).2).mono ?_
              rintro e X2 ⟨he, n2⟩
              rw [HSW.out] at he
              subst he
              have G2 := Lib.hid (G1.out.newer n2)
              clear n2
              refine hKK _ _ ?_
              clear hKK KK
              refine wpAny_take (i := 7) (v := ?_) rfl (by kernel_rfl) (by kernel_rfl) (by kernel_rfl) (fun _ _ _ h => h) (Or.inl ⟨by rfl, ?_⟩) ?_
              rotate_left 1
              · intro w; go_simp; try with_reducible rfl
              refine wpAny_ready (rs := [0]) (by kernel_rfl) (by simp) ?_
              refine AllReady.cons rfl (fun KK hKK => ?_) AllReady.nil
              go_simp
              have c0 := G2.out.I.cell
              go_simp
              clear c0
              refine hKK _ _ ?_
              clear hKK KK
              refine wpAny_take (i := 8) (v := ?_) rfl (by kernel_rfl) (by kernel_rfl) (by kernel_rfl) (fun _ _ _ h => h) (Or.inl ⟨by rfl, ?_⟩) ?_
              rotate_left 1
              · intro w; go_simp; try with_reducible rfl
              refine wpAny_ready (rs := [9]) (by kernel_rfl) (by simp) ?_
              refine AllReady.cons rfl (fun KK hKK => ?_) AllReady.nil
              go_simp
              have c0 := G2.out.I.cell
              have f0 := G2.out.I.fro
              have hl0 : c < X2.heap.size := G2.out.I.lt
              go_simp
              have G3 := Lib.hid (G2.out.put cur3)
              clear c0 f0 hl0
              refine hKK _ _ ?_
              clear hKK KK
              refine wpAny_done (by kernel_rfl) ?_ _
              obtain ⟨X3, hX3⟩ : ∃ yw, X2.setCell ⟨c, 0, none⟩ (.string ⟨cur3.toArray⟩) = yw := ⟨_, rfl⟩
              rw [hX3] at G3 ⊢
              clear hX3
              have hjn := HJ.out
              go_wp2_with fail
              refine ⟨⟨j + 1, rfl, by omega, ?_⟩, ?_⟩
              · rw [HNX.out]
                exact G3.out
              · simp [intOf]
                omega

    · have hjn : j = n := by omega
      subst hjn
      have he : needs.take j = needs := List.take_of_length_le (by rw [HN.out]; omega)
      have HEND := Lib.hid (HCU.out.symm.trans (by rw [he]))
      clear he hcell
      go_wp2_with fail
      go_end0
      exact ⟨rfl, HEND.out ▸ HI.out.I⟩

end Go.Proofs.YtgdaaafejfjilaaGreatDoor

/- contracts of package script: laid -/
namespace Go.Proofs.YtgdaaafejfjilaaGreatDoor
open Go.RowKit Go.Maps
attribute [local go_sem] Oper.semAt_some undef

/-- the act's variable, ahead of the line's -/
structure BoxI (w : World) (b : Nat) (wr : World) (a : ActL) (v8 v9 : Value) : Prop where
  act : ActC wr b a v8 v9
  env : Env wr
  new : Newer w wr
  hb : w.heap.size = b
theorem BoxI.newer {w : World} {b : Nat} {wr W : World} {a : ActL} {v8 v9 : Value} (h : BoxI w b wr a v8 v9) (n : Newer wr W) : BoxI w b W a v8 v9 := by
  have hlb : b < wr.heap.size := by have := World.block_lt_of_cell? _ _ h.act.c0; simpa using this
  exact ⟨h.act.grow n (fun hk => by have hk : wr.heap.size ≤ b := hk; omega), h.env.newer n, h.new.trans n, h.hb⟩
structure StrAt (w : World) (b c : Nat) (W : World) (x : Bs) : Prop where
  cell : W.cell? ⟨c, 0, none⟩ = some (.string ⟨x.toArray⟩)
  fro : W.frozen? ⟨c, 0, none⟩ = false
  geo : w.heap.size ≤ c ∧ b ≠ c
theorem StrAt.lt {w : World} {b c : Nat} {W : World} {x : Bs} (h : StrAt w b c W x) : c < W.heap.size := by have := World.block_lt_of_cell? _ _ h.cell; simpa using this
theorem StrAt.newer {w : World} {b c : Nat} {W W' : World} {x : Bs} (h : StrAt w b c W x) (n : Newer W W') : StrAt w b c W' x :=
  ⟨newer_cell h.cell n, (World.frozen?_of_block (n.block h.lt)).trans h.fro, h.geo⟩
theorem StrAt.made {w : World} {b c : Nat} {W W' : World} {a : ActL} {v8 v9 : Value} (h : BoxI w b W a v8 v9) (hc : W.heap.size = c) (hW : W.alloc (.cells #[.string ⟨#[]⟩] 9) = W') : StrAt w b c W' [] := by
  have hlb : b < W.heap.size := by have := World.block_lt_of_cell? _ _ h.act.c0; simpa using this
  have := h.new.size
  subst hc hW
  exact ⟨by simp [go_sem], by simp [go_sem], by omega, by omega⟩

theorem LayI.rebase {wb : World} {c b : Nat} {w wr : World} {a : ActL} {v8 v9 : Value} {cur : Bs} (h : LayI wb c b w wr a v8 v9 cur) : LayI wb c b wr wr a v8 v9 cur :=
  ⟨h.cell, h.fro, h.act, h.env, h.new, Grow.refl _ _, h.geo.1, h.geo.2.1, h.geo.2.2.1, h.lt⟩
theorem verb_len (k : Int) : (verbL k).1.length ≤ 1000000000 := by
  unfold verbL
  repeat' split
  all_goals decide

theorem verb_len2 (k : Int) : (verbL k).1.length ≤ 100 := by
  unfold verbL
  repeat' split
  all_goals decide
theorem op_len (k : Int) : (opL k).1.length ≤ 100 := by
  by_cases h : 1 ≤ k ∧ k ≤ 11
  · have : k = 1 ∨ k = 2 ∨ k = 3 ∨ k = 4 ∨ k = 5 ∨ k = 6 ∨ k = 7 ∨ k = 8 ∨ k = 9 ∨ k = 10 ∨ k = 11 := by omega
    rcases this with rfl | rfl | rfl | rfl | rfl | rfl | rfl | rfl | rfl | rfl | rfl <;> decide
  · have e : opL k = ([], []) := by
      unfold opL
      repeat rw [if_neg (by omega)]
    rw [e]; decide
theorem lay_start {w : World} {b c : Nat} {W X : World} {a : ActL} {v8 v9 : Value} {x y : Bs} (h : BoxI w b W a v8 v9) (hc : StrAt w b c W x) (h5 : 5 < w.heap.size) (hX : W.setCell ⟨c, 0, none⟩ (.string ⟨y.toArray⟩) = X) : LayI w c b X X a v8 v9 y := by
  subst hX
  have hl := hc.lt
  have hg := hc.geo
  have g : Grow (fun k => k = c) W (W.setCell ⟨c, 0, none⟩ (.string ⟨y.toArray⟩)) := Grow.setCell (own := fun k => k = c) _ _ _ rfl
  exact ⟨World.cell?_setCell_same _ _ _ hc.cell, by rw [World.frozen?_setCell]; exact hc.fro, h.act.grow g hg.2, h.env.below (Grow.below g (n := c) (fun k hk => by have hk : k = c := hk; omega) (by omega)) (by omega), Grow.trans h.new (g.mono (fun k hk => by have hk : k = c := hk; show w.heap.size ≤ k; omega)), Grow.refl _ _, hg.1, hg.2, by omega, Nat.lt_of_lt_of_le hl g.size⟩

set_option maxRecDepth 100000 in
set_option maxHeartbeats 6400000 in
theorem laid_any (w : World) (E : Env w) (a : ActL) (p8 p9 : Option Addr) (n8 n9 m8 m9 : Nat) (hk : I64 a.kind ∧ I64 a.okind) (hs : SliceB w (.slice p8 n8 m8) a.bytes ∧ SliceM w (.slice p9 n9 m9) a.marks) (hsh : Shown a) (hpd : a.path.length ≤ 1000000 ∧ a.dest.length ≤ 1000000) :
    Calls Tryz.prog 26 #[actV a (.slice p8 n8 m8) (.slice p9 n9 m9)] w fun e w' => e = .returned (.string ⟨(laidL a).toArray⟩) ∧ Newer w w' := by
  obtain ⟨b, hb⟩ : ∃ b, w.heap.size = b := ⟨_, rfl⟩
  have HK := Lib.hid hk
  have hvf : ∀ (x y : Bs) (w : World), (Instr.field 79 (verb x y) 0).run Tryz.prog w = .ok (.string ⟨x.toArray⟩) w := fun _ _ _ => rfl
  unfold actV
  go_enter Tryz.func26, Tryz.ntmps26
  go_wp2_with fail
  obtain ⟨w0, hw0⟩ : ∃ w0, w.alloc (.cells #[.int .i64 a.kind, .int .i64 a.thread, .int .i64 a.n, .int .i64 a.okind, .string ⟨a.path.toArray⟩, .string ⟨a.dest.toArray⟩, .int .i64 a.at_, .int .i64 a.on, .slice p8 n8 m8, .slice p9 n9 m9] 29) = w0 := ⟨_, rfl⟩
  rw [hw0]
  have nw0 : Newer w w0 := hw0 ▸ Newer.alloc _ _
  have hA : ActC w0 b a (.slice p8 n8 m8) (.slice p9 n9 m9) := by
    subst hw0 hb
    constructor <;> simp [go_sem]
  have H5 := Lib.hid E.lt
  have HS := Lib.hid hs
  have HSH := Lib.hid hsh
  have HPD := Lib.hid hpd
  have HLN := Lib.hid (verb_len a.kind)
  have H0 := Lib.hid (BoxI.mk hA (E.newer nw0) nw0 hb)
  clear hA nw0 hw0 E hk hs hsh hpd
  rename_i KK hKK
  have hJ : ∀ (c : Nat) (X : World) (u5 u6 u7 u8 u9 : Value), LayI w c b X X a (.slice p8 n8 m8) (.slice p9 n9 m9) (verbL a.kind).1 → KK { tmps := #[.agg #[.int .i64 a.kind, .int .i64 a.thread, .int .i64 a.n, .int .i64 a.okind, .string ⟨a.path.toArray⟩, .string ⟨a.dest.toArray⟩, .int .i64 a.at_, .int .i64 a.on, .slice p8 n8 m8, .slice p9 n9 m9], .pointer (some ⟨b, 0, none⟩), .string ⟨#[]⟩, .pointer (some ⟨c, 0, none⟩), .tuple #[], u5, u6, u7, u8, u9, .tuple #[], .tuple #[], .tuple #[], .tuple #[], .tuple #[], .tuple #[], .tuple #[], .tuple #[], .tuple #[], .tuple #[], .tuple #[], .tuple #[], .tuple #[], .tuple #[], .tuple #[], .tuple #[], .tuple #[], .tuple #[], .tuple #[], .tuple #[], .tuple #[], .tuple #[], .tuple #[], .tuple #[], .tuple #[], .tuple #[], .tuple #[]], defers := [] } X := by
    intro c X u5 u6 u7 u8 u9 hI
    apply hKK
    clear hKK KK H0
    have HI := Lib.hid hI
    clear hI
    go_wp2_with fail
    rename_i KK hKK
    have hJ3 : ∀ (Y : World) (v11 v12 v13 v14 v15 v16 : Value), LayI w c b Y Y a (.slice p8 n8 m8) (.slice p9 n9 m9) ((verbL a.kind).1 ++ addL (verbL a.kind).2 a) → KK { tmps := #[.agg #[.int .i64 a.kind, .int .i64 a.thread, .int .i64 a.n, .int .i64 a.okind, .string ⟨a.path.toArray⟩, .string ⟨a.dest.toArray⟩, .int .i64 a.at_, .int .i64 a.on, .slice p8 n8 m8, .slice p9 n9 m9], .pointer (some ⟨b, 0, none⟩), .string ⟨#[]⟩, .pointer (some ⟨c, 0, none⟩), .func (.func 42) #[] #[.pointer (some ⟨c, 0, none⟩), .pointer (some ⟨b, 0, none⟩)], u5, u6, u7, u8, u9, .func (.func 42) #[] #[.pointer (some ⟨c, 0, none⟩), .pointer (some ⟨b, 0, none⟩)], v11, v12, v13, v14, v15, v16, .tuple #[], .tuple #[], .tuple #[], .tuple #[], .tuple #[], .tuple #[], .tuple #[], .tuple #[], .tuple #[], .tuple #[], .tuple #[], .tuple #[], .tuple #[], .tuple #[], .tuple #[], .tuple #[], .tuple #[], .tuple #[], .tuple #[], .tuple #[]], defers := [] } Y := by
      intro Y v11 v12 v13 v14 v15 v16 hI
      apply hKK
      clear hKK KK HI
      have HI := Lib.hid hI
      clear hI
      have kk := HI.out.act.c0
      by_cases hk1 : a.kind = 1
      · have HK1 := Lib.hid hk1
        have hk2 : (a.kind == 1) = true := by simp [hk1]
        clear hk1
        obtain ⟨cur, hcur⟩ : ∃ cur, (verbL a.kind).1 ++ addL (verbL a.kind).2 a = cur := ⟨_, rfl⟩
        obtain ⟨nm, hnm⟩ : ∃ nm, (opL a.okind).1 = nm := ⟨_, rfl⟩
        have hcl : cur.length ≤ 300000000 := by
          have h1 := verb_len2 a.kind
          have h2 := add_len (verbL a.kind).2 a HSH.out HPD.out
          have h3 := (needs_verb a.kind).2
          rw [← hcur, List.length_append]
          omega
        have hnl : nm.length ≤ 100 := by rw [← hnm]; exact op_len a.okind
        rw [hcur] at HI
        have HCU := Lib.hid hcur
        have HNM := Lib.hid hnm
        clear hcur hnm
        obtain ⟨sh2, hs2⟩ : ∃ sh2, 32 :: nm = sh2 := ⟨_, rfl⟩
        obtain ⟨cur3, hs3⟩ : ∃ cur3, cur ++ sh2 = cur3 := ⟨_, rfl⟩
        have hl3 : sh2.length = nm.length + 1 := by rw [← hs2]; rfl
        have HL3 : Hid (cur3.length ≤ 1000000000) := Lib.hid (by rw [← hs3, List.length_append]; omega)
        have ha7 : ¬ 9223372036854775807 < 1 + nm.length := by omega
        have ha8 : ¬ 9223372036854775807 < cur.length + sh2.length := by omega
        have hcat : (⟨#[32]⟩ : ByteArray) ++ ⟨nm.toArray⟩ = ⟨sh2.toArray⟩ := by rw [← hs2]; exact cat_str [32] nm
        have hcat2 : (⟨cur.toArray⟩ : ByteArray) ++ ⟨sh2.toArray⟩ = ⟨cur3.toArray⟩ := by rw [← hs3]; exact cat_str cur sh2
        have HE3 : Hid (cur3 = cur ++ (32 :: nm)) := Lib.hid (by rw [← hs3, ← hs2])
        clear hs2 hs3 hl3 hcl hnl
        go_wp2_with fail
        clear kk hk2
        rename_i KK hKK
        have hJ5 : ∀ (Z : World) (u17 u18 u19 u20 u21 u22 u23 u24 u25 u26 u27 u28 : Value), LayI w c b Z Z a (.slice p8 n8 m8) (.slice p9 n9 m9) cur3 → KK { tmps := #[.agg #[.int .i64 a.kind, .int .i64 a.thread, .int .i64 a.n, .int .i64 a.okind, .string ⟨a.path.toArray⟩, .string ⟨a.dest.toArray⟩, .int .i64 a.at_, .int .i64 a.on, .slice p8 n8 m8, .slice p9 n9 m9], .pointer (some ⟨b, 0, none⟩), .string ⟨#[]⟩, .pointer (some ⟨c, 0, none⟩), .func (.func 42) #[] #[.pointer (some ⟨c, 0, none⟩), .pointer (some ⟨b, 0, none⟩)], u5, u6, u7, u8, u9, .func (.func 42) #[] #[.pointer (some ⟨c, 0, none⟩), .pointer (some ⟨b, 0, none⟩)], v11, v12, v13, v14, v15, v16, u17, u18, u19, u20, u21, u22, u23, u24, u25, u26, u27, u28, .tuple #[], .tuple #[], .tuple #[], .tuple #[], .tuple #[], .tuple #[], .tuple #[], .tuple #[]], defers := [] } Z := by
          intro Z u17 u18 u19 u20 u21 u22 u23 u24 u25 u26 u27 u28 hI
          apply hKK
          clear hKK KK HI hcat hcat2 ha7 ha8
          have HI := Lib.hid hI
          clear hI
          go_wp2_with fail
          rename_i KK hKK
          have hJ6 : ∀ (U : World) (u29 u30 u31 u32 u33 u34 u35 : Value), LayI w c b U U a (.slice p8 n8 m8) (.slice p9 n9 m9) (cur3 ++ addL (opL a.okind).2 a) → KK { tmps := #[.agg #[.int .i64 a.kind, .int .i64 a.thread, .int .i64 a.n, .int .i64 a.okind, .string ⟨a.path.toArray⟩, .string ⟨a.dest.toArray⟩, .int .i64 a.at_, .int .i64 a.on, .slice p8 n8 m8, .slice p9 n9 m9], .pointer (some ⟨b, 0, none⟩), .string ⟨#[]⟩, .pointer (some ⟨c, 0, none⟩), .func (.func 42) #[] #[.pointer (some ⟨c, 0, none⟩), .pointer (some ⟨b, 0, none⟩)], u5, u6, u7, u8, u9, .func (.func 42) #[] #[.pointer (some ⟨c, 0, none⟩), .pointer (some ⟨b, 0, none⟩)], v11, v12, v13, v14, v15, v16, u17, u18, u19, u20, u21, u22, u23, u24, u25, u26, u27, u28, u29, u30, u31, u32, u33, u34, u35, .tuple #[]], defers := [] } U := by
            intro U u29 u30 u31 u32 u33 u34 u35 hI
            apply hKK
            clear hKK KK HI
            have d0 := hI.cell
            have HI := Lib.hid hI
            clear hI
            go_wp2_with fail
            go_ret
            have e : laidL a = cur3 ++ addL (opL a.okind).2 a := by rw [laidL, if_pos HK1.out, HCU.out, HNM.out, HE3.out]; simp
            rw [e]
            exact ⟨rfl, HI.out.new⟩
          clear hKK
          refine wp_region_any (by kernel_rfl) ?_
          (try (change wpAny _ _ _ _ _ _ _ (World.drew _)))
          obtain ⟨V0, hV0⟩ : ∃ x, World.drew Z = x := ⟨_, rfl⟩
          rw [hV0]
          have G0 := Lib.hid (HI.out.newer (hV0 ▸ Newer.drew Z))
          clear hV0
          refine wpAny_take (i := 0) (v := ?_) rfl (by kernel_rfl) (by kernel_rfl) (by kernel_rfl) (fun _ _ _ h => h) (Or.inl ⟨by rfl, ?_⟩) ?_
          rotate_left 1
          · intro w; go_simp; try with_reducible rfl
          refine wpAny_take (i := 2) (v := ?_) rfl (by kernel_rfl) (by kernel_rfl) (by kernel_rfl) (fun _ _ _ h => h) (Or.inl ⟨by rfl, ?_⟩) ?_
          rotate_left 1
          · intro w; go_simp; try with_reducible rfl
          refine wpAny_take (i := 3) (v := ?_) rfl (by kernel_rfl) (by kernel_rfl) (by kernel_rfl) (fun _ _ _ h => h) (Or.inl ⟨by rfl, ?_⟩) ?_
          rotate_left 1
          · intro w; go_simp; try with_reducible rfl
          refine wpAny_ready (rs := [1, 4]) (by kernel_rfl) (by simp) ?_
          refine AllReady.cons rfl (fun KK hKK => ?_) ?_
          · go_simp
            obtain ⟨B, hB⟩ : ∃ B, V0.heap.size = B := ⟨_, rfl⟩
            refine (ops_any _).mono ?_
            rintro e X1 ⟨rfl, hm, hbl⟩
            rw [hB] at hm ⊢
            have G1 := Lib.hid (G0.out.newer (Newer.of hbl))
            have M1 := Lib.hid hm
            clear hm hbl hB
            refine hKK _ _ ?_
            clear hKK KK
            refine wpAny_ready (rs := [4]) (by kernel_rfl) (by simp) ?_
            refine AllReady.cons rfl (fun KK hKK => ?_) AllReady.nil
            go_simp
            have k0 := G1.out.act.c3
            go_simp
            clear k0
            refine hKK _ _ ?_
            clear hKK KK
            refine wpAny_ready (rs := [5]) (by kernel_rfl) (by simp) ?_
            refine AllReady.cons rfl (fun KK hKK => ?_) AllReady.nil
            go_simp
            have hl1 := ops_look M1.out a.okind HK.out.2
            go_simp
            clear hl1
            refine hKK _ _ ?_
            clear hKK KK
            refine wpAny_ready (rs := [6]) (by kernel_rfl) (by simp) ?_
            refine AllReady.cons rfl (fun KK hKK => ?_) AllReady.nil
            go_simp
            refine (lay_any w c b _ a p8 p9 n8 n9 m8 m9 _ _ _ (needs_op a.okind) G1.out.rebase HS.out HSH.out HPD.out HL3.out).mono ?_
            rintro e X4 ⟨rfl, hlay⟩
            have G9 := Lib.hid hlay.rebase
            clear hlay
            refine hKK _ _ ?_
            clear hKK KK
            refine wpAny_done (by kernel_rfl) ?_ _
            exact hJ6 X4 _ _ _ _ _ _ _ G9.out
          refine AllReady.cons rfl (fun KK hKK => ?_) AllReady.nil
          · go_simp
            have k0 := G0.out.act.c3
            go_simp
            clear k0
            refine hKK _ _ ?_
            clear hKK KK
            refine wpAny_ready (rs := [1]) (by kernel_rfl) (by simp) ?_
            refine AllReady.cons rfl (fun KK hKK => ?_) AllReady.nil
            go_simp
            obtain ⟨B, hB⟩ : ∃ B, V0.heap.size = B := ⟨_, rfl⟩
            refine (ops_any _).mono ?_
            rintro e X1 ⟨rfl, hm, hbl⟩
            rw [hB] at hm ⊢
            have G1 := Lib.hid (G0.out.newer (Newer.of hbl))
            have M1 := Lib.hid hm
            clear hm hbl hB
            refine hKK _ _ ?_
            clear hKK KK
            refine wpAny_ready (rs := [5]) (by kernel_rfl) (by simp) ?_
            refine AllReady.cons rfl (fun KK hKK => ?_) AllReady.nil
            go_simp
            have hl1 := ops_look M1.out a.okind HK.out.2
            go_simp
            clear hl1
            refine hKK _ _ ?_
            clear hKK KK
            refine wpAny_ready (rs := [6]) (by kernel_rfl) (by simp) ?_
            refine AllReady.cons rfl (fun KK hKK => ?_) AllReady.nil
            go_simp
            refine (lay_any w c b _ a p8 p9 n8 n9 m8 m9 _ _ _ (needs_op a.okind) G1.out.rebase HS.out HSH.out HPD.out HL3.out).mono ?_
            rintro e X4 ⟨rfl, hlay⟩
            have G9 := Lib.hid hlay.rebase
            clear hlay
            refine hKK _ _ ?_
            clear hKK KK
            refine wpAny_done (by kernel_rfl) ?_ _
            exact hJ6 X4 _ _ _ _ _ _ _ G9.out

        clear hKK
        refine wp_region_any (by kernel_rfl) ?_
        (try (change wpAny _ _ _ _ _ _ _ (World.drew _)))
        obtain ⟨V0, hV0⟩ : ∃ x, World.drew Y = x := ⟨_, rfl⟩
        rw [hV0]
        have G0 := Lib.hid (HI.out.newer (hV0 ▸ Newer.drew Y))
        clear hV0
        refine wpAny_take (i := 2) (v := ?_) rfl (by kernel_rfl) (by kernel_rfl) (by kernel_rfl) (fun _ _ _ h => h) (Or.inl ⟨by rfl, ?_⟩) ?_
        rotate_left 1
        · intro w; go_simp; try with_reducible rfl
        refine wpAny_take (i := 3) (v := ?_) rfl (by kernel_rfl) (by kernel_rfl) (by kernel_rfl) (fun _ _ _ h => h) (Or.inl ⟨by rfl, ?_⟩) ?_
        rotate_left 1
        · intro w; go_simp; try with_reducible rfl
        refine wpAny_ready (rs := [0, 1, 4]) (by kernel_rfl) (by simp) ?_
        refine AllReady.cons rfl (fun KK hKK => ?_) ?_
        · go_simp
          have c0 := G0.out.cell
          go_simp
          clear c0
          refine hKK _ _ ?_
          clear hKK KK
          refine wpAny_ready (rs := [1, 4]) (by kernel_rfl) (by simp) ?_
          refine AllReady.cons rfl (fun KK hKK => ?_) ?_
          · go_simp
            obtain ⟨B, hB⟩ : ∃ B, V0.heap.size = B := ⟨_, rfl⟩
            refine (ops_any _).mono ?_
            rintro e X1 ⟨rfl, hm, hbl⟩
            rw [hB] at hm ⊢
            have G1 := Lib.hid (G0.out.newer (Newer.of hbl))
            have M1 := Lib.hid hm
            clear hm hbl hB
            refine hKK _ _ ?_
            clear hKK KK
            refine wpAny_ready (rs := [4]) (by kernel_rfl) (by simp) ?_
            refine AllReady.cons rfl (fun KK hKK => ?_) AllReady.nil
            go_simp
            have k0 := G1.out.act.c3
            go_simp
            clear k0
            refine hKK _ _ ?_
            clear hKK KK
            refine wpAny_ready (rs := [5]) (by kernel_rfl) (by simp) ?_
            refine AllReady.cons rfl (fun KK hKK => ?_) AllReady.nil
            go_simp
            have hl1 := ops_look M1.out a.okind HK.out.2
            rw [HNM.out] at hl1
            go_simp
            clear hl1
            refine hKK _ _ ?_
            clear hKK KK
            refine wpAny_take (i := 6) (v := ?_) rfl (by kernel_rfl) (by kernel_rfl) (by kernel_rfl) (fun _ _ _ h => h) (Or.inl ⟨by rfl, ?_⟩) ?_
            rotate_left 1
            · intro w; go_simp; try with_reducible rfl
            refine wpAny_take (i := 7) (v := ?_) rfl (by kernel_rfl) (by kernel_rfl) (by kernel_rfl) (fun _ _ _ h => h) (Or.inl ⟨by rfl, ?_⟩) ?_
            rotate_left 1
            · intro w; go_simp; try with_reducible rfl
            refine wpAny_take (i := 8) (v := ?_) rfl (by kernel_rfl) (by kernel_rfl) (by kernel_rfl) (fun _ _ _ h => h) (Or.inl ⟨by rfl, ?_⟩) ?_
            rotate_left 1
            · intro w; go_simp; try with_reducible rfl
            refine wpAny_ready (rs := [9]) (by kernel_rfl) (by simp) ?_
            refine AllReady.cons rfl (fun KK hKK => ?_) AllReady.nil
            go_simp
            have c0 := G1.out.cell
            have f0 := G1.out.fro
            have hl0 : c < X1.heap.size := G1.out.lt
            go_simp
            have G9 := Lib.hid (G1.out.put cur3)
            clear c0 f0 hl0
            refine hKK _ _ ?_
            clear hKK KK
            refine wpAny_done (by kernel_rfl) ?_ _
            obtain ⟨X3, hX3⟩ : ∃ yw, X1.setCell ⟨c, 0, none⟩ (.string ⟨cur3.toArray⟩) = yw := ⟨_, rfl⟩
            rw [hX3] at G9 ⊢
            exact hJ5 X3 _ _ _ _ _ _ _ _ _ _ _ _ G9.out.rebase
          refine AllReady.cons rfl (fun KK hKK => ?_) AllReady.nil
          · go_simp
            have k0 := G0.out.act.c3
            go_simp
            clear k0
            refine hKK _ _ ?_
            clear hKK KK
            refine wpAny_ready (rs := [1]) (by kernel_rfl) (by simp) ?_
            refine AllReady.cons rfl (fun KK hKK => ?_) AllReady.nil
            go_simp
            obtain ⟨B, hB⟩ : ∃ B, V0.heap.size = B := ⟨_, rfl⟩
            refine (ops_any _).mono ?_
            rintro e X1 ⟨rfl, hm, hbl⟩
            rw [hB] at hm ⊢
            have G1 := Lib.hid (G0.out.newer (Newer.of hbl))
            have M1 := Lib.hid hm
            clear hm hbl hB
            refine hKK _ _ ?_
            clear hKK KK
            refine wpAny_ready (rs := [5]) (by kernel_rfl) (by simp) ?_
            refine AllReady.cons rfl (fun KK hKK => ?_) AllReady.nil
            go_simp
            have hl1 := ops_look M1.out a.okind HK.out.2
            rw [HNM.out] at hl1
            go_simp
            clear hl1
            refine hKK _ _ ?_
            clear hKK KK
            refine wpAny_take (i := 6) (v := ?_) rfl (by kernel_rfl) (by kernel_rfl) (by kernel_rfl) (fun _ _ _ h => h) (Or.inl ⟨by rfl, ?_⟩) ?_
            rotate_left 1
            · intro w; go_simp; try with_reducible rfl
            refine wpAny_take (i := 7) (v := ?_) rfl (by kernel_rfl) (by kernel_rfl) (by kernel_rfl) (fun _ _ _ h => h) (Or.inl ⟨by rfl, ?_⟩) ?_
            rotate_left 1
            · intro w; go_simp; try with_reducible rfl
            refine wpAny_take (i := 8) (v := ?_) rfl (by kernel_rfl) (by kernel_rfl) (by kernel_rfl) (fun _ _ _ h => h) (Or.inl ⟨by rfl, ?_⟩) ?_
            rotate_left 1
            · intro w; go_simp; try with_reducible rfl
            refine wpAny_ready (rs := [9]) (by kernel_rfl) (by simp) ?_
            refine AllReady.cons rfl (fun KK hKK => ?_) AllReady.nil
            go_simp
            have c0 := G1.out.cell
            have f0 := G1.out.fro
            have hl0 : c < X1.heap.size := G1.out.lt
            go_simp
            have G9 := Lib.hid (G1.out.put cur3)
            clear c0 f0 hl0
            refine hKK _ _ ?_
            clear hKK KK
            refine wpAny_done (by kernel_rfl) ?_ _
            obtain ⟨X3, hX3⟩ : ∃ yw, X1.setCell ⟨c, 0, none⟩ (.string ⟨cur3.toArray⟩) = yw := ⟨_, rfl⟩
            rw [hX3] at G9 ⊢
            exact hJ5 X3 _ _ _ _ _ _ _ _ _ _ _ _ G9.out.rebase
        refine AllReady.cons rfl (fun KK hKK => ?_) ?_
        · go_simp
          obtain ⟨B, hB⟩ : ∃ B, V0.heap.size = B := ⟨_, rfl⟩
          refine (ops_any _).mono ?_
          rintro e X1 ⟨rfl, hm, hbl⟩
          rw [hB] at hm ⊢
          have G1 := Lib.hid (G0.out.newer (Newer.of hbl))
          have M1 := Lib.hid hm
          clear hm hbl hB
          refine hKK _ _ ?_
          clear hKK KK
          refine wpAny_ready (rs := [0, 4]) (by kernel_rfl) (by simp) ?_
          refine AllReady.cons rfl (fun KK hKK => ?_) ?_
          · go_simp
            have c0 := G1.out.cell
            go_simp
            clear c0
            refine hKK _ _ ?_
            clear hKK KK
            refine wpAny_ready (rs := [4]) (by kernel_rfl) (by simp) ?_
            refine AllReady.cons rfl (fun KK hKK => ?_) AllReady.nil
            go_simp
            have k0 := G1.out.act.c3
            go_simp
            clear k0
            refine hKK _ _ ?_
            clear hKK KK
            refine wpAny_ready (rs := [5]) (by kernel_rfl) (by simp) ?_
            refine AllReady.cons rfl (fun KK hKK => ?_) AllReady.nil
            go_simp
            have hl1 := ops_look M1.out a.okind HK.out.2
            rw [HNM.out] at hl1
            go_simp
            clear hl1
            refine hKK _ _ ?_
            clear hKK KK
            refine wpAny_take (i := 6) (v := ?_) rfl (by kernel_rfl) (by kernel_rfl) (by kernel_rfl) (fun _ _ _ h => h) (Or.inl ⟨by rfl, ?_⟩) ?_
            rotate_left 1
            · intro w; go_simp; try with_reducible rfl
            refine wpAny_take (i := 7) (v := ?_) rfl (by kernel_rfl) (by kernel_rfl) (by kernel_rfl) (fun _ _ _ h => h) (Or.inl ⟨by rfl, ?_⟩) ?_
            rotate_left 1
            · intro w; go_simp; try with_reducible rfl
            refine wpAny_take (i := 8) (v := ?_) rfl (by kernel_rfl) (by kernel_rfl) (by kernel_rfl) (fun _ _ _ h => h) (Or.inl ⟨by rfl, ?_⟩) ?_
            rotate_left 1
            · intro w; go_simp; try with_reducible rfl
            refine wpAny_ready (rs := [9]) (by kernel_rfl) (by simp) ?_
            refine AllReady.cons rfl (fun KK hKK => ?_) AllReady.nil
            go_simp
            have c0 := G1.out.cell
            have f0 := G1.out.fro
            have hl0 : c < X1.heap.size := G1.out.lt
            go_simp
            have G9 := Lib.hid (G1.out.put cur3)
            clear c0 f0 hl0
            refine hKK _ _ ?_
            clear hKK KK
            refine wpAny_done (by kernel_rfl) ?_ _
            obtain ⟨X3, hX3⟩ : ∃ yw, X1.setCell ⟨c, 0, none⟩ (.string ⟨cur3.toArray⟩) = yw := ⟨_, rfl⟩
            rw [hX3] at G9 ⊢
            exact hJ5 X3 _ _ _ _ _ _ _ _ _ _ _ _ G9.out.rebase
          refine AllReady.cons rfl (fun KK hKK => ?_) AllReady.nil
          · go_simp
            have k0 := G1.out.act.c3
            go_simp
            clear k0
            refine hKK _ _ ?_
            clear hKK KK
            refine wpAny_ready (rs := [0, 5]) (by kernel_rfl) (by simp) ?_
            refine AllReady.cons rfl (fun KK hKK => ?_) ?_
            · go_simp
              have c0 := G1.out.cell
              go_simp
              clear c0
              refine hKK _ _ ?_
              clear hKK KK
              refine wpAny_ready (rs := [5]) (by kernel_rfl) (by simp) ?_
              refine AllReady.cons rfl (fun KK hKK => ?_) AllReady.nil
              go_simp
              have hl1 := ops_look M1.out a.okind HK.out.2
              rw [HNM.out] at hl1
              go_simp
              clear hl1
              refine hKK _ _ ?_
              clear hKK KK
              refine wpAny_take (i := 6) (v := ?_) rfl (by kernel_rfl) (by kernel_rfl) (by kernel_rfl) (fun _ _ _ h => h) (Or.inl ⟨by rfl, ?_⟩) ?_
              rotate_left 1
              · intro w; go_simp; try with_reducible rfl
              refine wpAny_take (i := 7) (v := ?_) rfl (by kernel_rfl) (by kernel_rfl) (by kernel_rfl) (fun _ _ _ h => h) (Or.inl ⟨by rfl, ?_⟩) ?_
              rotate_left 1
              · intro w; go_simp; try with_reducible rfl
              refine wpAny_take (i := 8) (v := ?_) rfl (by kernel_rfl) (by kernel_rfl) (by kernel_rfl) (fun _ _ _ h => h) (Or.inl ⟨by rfl, ?_⟩) ?_
              rotate_left 1
              · intro w; go_simp; try with_reducible rfl
              refine wpAny_ready (rs := [9]) (by kernel_rfl) (by simp) ?_
              refine AllReady.cons rfl (fun KK hKK => ?_) AllReady.nil
              go_simp
              have c0 := G1.out.cell
              have f0 := G1.out.fro
              have hl0 : c < X1.heap.size := G1.out.lt
              go_simp
              have G9 := Lib.hid (G1.out.put cur3)
              clear c0 f0 hl0
              refine hKK _ _ ?_
              clear hKK KK
              refine wpAny_done (by kernel_rfl) ?_ _
              obtain ⟨X3, hX3⟩ : ∃ yw, X1.setCell ⟨c, 0, none⟩ (.string ⟨cur3.toArray⟩) = yw := ⟨_, rfl⟩
              rw [hX3] at G9 ⊢
              exact hJ5 X3 _ _ _ _ _ _ _ _ _ _ _ _ G9.out.rebase
            refine AllReady.cons rfl (fun KK hKK => ?_) AllReady.nil
            · go_simp
              have hl1 := ops_look M1.out a.okind HK.out.2
              rw [HNM.out] at hl1
              go_simp
              clear hl1
              refine hKK _ _ ?_
              clear hKK KK
              refine wpAny_take (i := 6) (v := ?_) rfl (by kernel_rfl) (by kernel_rfl) (by kernel_rfl) (fun _ _ _ h => h) (Or.inl ⟨by rfl, ?_⟩) ?_
              rotate_left 1
              · intro w; go_simp; try with_reducible rfl
              refine wpAny_take (i := 7) (v := ?_) rfl (by kernel_rfl) (by kernel_rfl) (by kernel_rfl) (fun _ _ _ h => h) (Or.inl ⟨by rfl, ?_⟩) ?_
              rotate_left 1
              · intro w; go_simp; try with_reducible rfl
              refine wpAny_ready (rs := [0]) (by kernel_rfl) (by simp) ?_
              refine AllReady.cons rfl (fun KK hKK => ?_) AllReady.nil
              go_simp
              have c0 := G1.out.cell
              go_simp
              clear c0
              refine hKK _ _ ?_
              clear hKK KK
              refine wpAny_take (i := 8) (v := ?_) rfl (by kernel_rfl) (by kernel_rfl) (by kernel_rfl) (fun _ _ _ h => h) (Or.inl ⟨by rfl, ?_⟩) ?_
              rotate_left 1
              · intro w; go_simp; try with_reducible rfl
              refine wpAny_ready (rs := [9]) (by kernel_rfl) (by simp) ?_
              refine AllReady.cons rfl (fun KK hKK => ?_) AllReady.nil
              go_simp
              have c0 := G1.out.cell
              have f0 := G1.out.fro
              have hl0 : c < X1.heap.size := G1.out.lt
              go_simp
              have G9 := Lib.hid (G1.out.put cur3)
              clear c0 f0 hl0
              refine hKK _ _ ?_
              clear hKK KK
              refine wpAny_done (by kernel_rfl) ?_ _
              obtain ⟨X3, hX3⟩ : ∃ yw, X1.setCell ⟨c, 0, none⟩ (.string ⟨cur3.toArray⟩) = yw := ⟨_, rfl⟩
              rw [hX3] at G9 ⊢
              exact hJ5 X3 _ _ _ _ _ _ _ _ _ _ _ _ G9.out.rebase
        refine AllReady.cons rfl (fun KK hKK => ?_) AllReady.nil
        · go_simp
          have k0 := G0.out.act.c3
          go_simp
          clear k0
          refine hKK _ _ ?_
          clear hKK KK
          refine wpAny_ready (rs := [0, 1]) (by kernel_rfl) (by simp) ?_
          refine AllReady.cons rfl (fun KK hKK => ?_) ?_
          · go_simp
            have c0 := G0.out.cell
            go_simp
            clear c0
            refine hKK _ _ ?_
            clear hKK KK
            refine wpAny_ready (rs := [1]) (by kernel_rfl) (by simp) ?_
            refine AllReady.cons rfl (fun KK hKK => ?_) AllReady.nil
            go_simp
            obtain ⟨B, hB⟩ : ∃ B, V0.heap.size = B := ⟨_, rfl⟩
            refine (ops_any _).mono ?_
            rintro e X1 ⟨rfl, hm, hbl⟩
            rw [hB] at hm ⊢
            have G1 := Lib.hid (G0.out.newer (Newer.of hbl))
            have M1 := Lib.hid hm
            clear hm hbl hB
            refine hKK _ _ ?_
            clear hKK KK
            refine wpAny_ready (rs := [5]) (by kernel_rfl) (by simp) ?_
            refine AllReady.cons rfl (fun KK hKK => ?_) AllReady.nil
            go_simp
            have hl1 := ops_look M1.out a.okind HK.out.2
            rw [HNM.out] at hl1
            go_simp
            clear hl1
            refine hKK _ _ ?_
            clear hKK KK
            refine wpAny_take (i := 6) (v := ?_) rfl (by kernel_rfl) (by kernel_rfl) (by kernel_rfl) (fun _ _ _ h => h) (Or.inl ⟨by rfl, ?_⟩) ?_
            rotate_left 1
            · intro w; go_simp; try with_reducible rfl
            refine wpAny_take (i := 7) (v := ?_) rfl (by kernel_rfl) (by kernel_rfl) (by kernel_rfl) (fun _ _ _ h => h) (Or.inl ⟨by rfl, ?_⟩) ?_
            rotate_left 1
            · intro w; go_simp; try with_reducible rfl
            refine wpAny_take (i := 8) (v := ?_) rfl (by kernel_rfl) (by kernel_rfl) (by kernel_rfl) (fun _ _ _ h => h) (Or.inl ⟨by rfl, ?_⟩) ?_
            rotate_left 1
            · intro w; go_simp; try with_reducible rfl
            refine wpAny_ready (rs := [9]) (by kernel_rfl) (by simp) ?_
            refine AllReady.cons rfl (fun KK hKK => ?_) AllReady.nil
            go_simp
            have c0 := G1.out.cell
            have f0 := G1.out.fro
            have hl0 : c < X1.heap.size := G1.out.lt
            go_simp
            have G9 := Lib.hid (G1.out.put cur3)
            clear c0 f0 hl0
            refine hKK _ _ ?_
            clear hKK KK
            refine wpAny_done (by kernel_rfl) ?_ _
            obtain ⟨X3, hX3⟩ : ∃ yw, X1.setCell ⟨c, 0, none⟩ (.string ⟨cur3.toArray⟩) = yw := ⟨_, rfl⟩
            rw [hX3] at G9 ⊢
            exact hJ5 X3 _ _ _ _ _ _ _ _ _ _ _ _ G9.out.rebase
          refine AllReady.cons rfl (fun KK hKK => ?_) AllReady.nil
          · go_simp
            obtain ⟨B, hB⟩ : ∃ B, V0.heap.size = B := ⟨_, rfl⟩
            refine (ops_any _).mono ?_
            rintro e X1 ⟨rfl, hm, hbl⟩
            rw [hB] at hm ⊢
            have G1 := Lib.hid (G0.out.newer (Newer.of hbl))
            have M1 := Lib.hid hm
            clear hm hbl hB
            refine hKK _ _ ?_
            clear hKK KK
            refine wpAny_ready (rs := [0, 5]) (by kernel_rfl) (by simp) ?_
            refine AllReady.cons rfl (fun KK hKK => ?_) ?_
            · go_simp
              have c0 := G1.out.cell
              go_simp
              clear c0
              refine hKK _ _ ?_
              clear hKK KK
              refine wpAny_ready (rs := [5]) (by kernel_rfl) (by simp) ?_
              refine AllReady.cons rfl (fun KK hKK => ?_) AllReady.nil
              go_simp
              have hl1 := ops_look M1.out a.okind HK.out.2
              rw [HNM.out] at hl1
              go_simp
              clear hl1
              refine hKK _ _ ?_
              clear hKK KK
              refine wpAny_take (i := 6) (v := ?_) rfl (by kernel_rfl) (by kernel_rfl) (by kernel_rfl) (fun _ _ _ h => h) (Or.inl ⟨by rfl, ?_⟩) ?_
              rotate_left 1
              · intro w; go_simp; try with_reducible rfl
              refine wpAny_take (i := 7) (v := ?_) rfl (by kernel_rfl) (by kernel_rfl) (by kernel_rfl) (fun _ _ _ h => h) (Or.inl ⟨by rfl, ?_⟩) ?_
              rotate_left 1
              · intro w; go_simp; try with_reducible rfl
              refine wpAny_take (i := 8) (v := ?_) rfl (by kernel_rfl) (by kernel_rfl) (by kernel_rfl) (fun _ _ _ h => h) (Or.inl ⟨by rfl, ?_⟩) ?_
              rotate_left 1
              · intro w; go_simp; try with_reducible rfl
              refine wpAny_ready (rs := [9]) (by kernel_rfl) (by simp) ?_
              refine AllReady.cons rfl (fun KK hKK => ?_) AllReady.nil
              go_simp
              have c0 := G1.out.cell
              have f0 := G1.out.fro
              have hl0 : c < X1.heap.size := G1.out.lt
              go_simp
              have G9 := Lib.hid (G1.out.put cur3)
              clear c0 f0 hl0
              refine hKK _ _ ?_
              clear hKK KK
              refine wpAny_done (by kernel_rfl) ?_ _
              obtain ⟨X3, hX3⟩ : ∃ yw, X1.setCell ⟨c, 0, none⟩ (.string ⟨cur3.toArray⟩) = yw := ⟨_, rfl⟩
              rw [hX3] at G9 ⊢
              exact hJ5 X3 _ _ _ _ _ _ _ _ _ _ _ _ G9.out.rebase
            refine AllReady.cons rfl (fun KK hKK => ?_) AllReady.nil
            · go_simp
              have hl1 := ops_look M1.out a.okind HK.out.2
              rw [HNM.out] at hl1
              go_simp
              clear hl1
              refine hKK _ _ ?_
              clear hKK KK
              refine wpAny_take (i := 6) (v := ?_) rfl (by kernel_rfl) (by kernel_rfl) (by kernel_rfl) (fun _ _ _ h => h) (Or.inl ⟨by rfl, ?_⟩) ?_
              rotate_left 1
              · intro w; go_simp; try with_reducible rfl
              refine wpAny_take (i := 7) (v := ?_) rfl (by kernel_rfl) (by kernel_rfl) (by kernel_rfl) (fun _ _ _ h => h) (Or.inl ⟨by rfl, ?_⟩) ?_
              rotate_left 1
              · intro w; go_simp; try with_reducible rfl
              refine wpAny_ready (rs := [0]) (by kernel_rfl) (by simp) ?_
              refine AllReady.cons rfl (fun KK hKK => ?_) AllReady.nil
              go_simp
              have c0 := G1.out.cell
              go_simp
              clear c0
              refine hKK _ _ ?_
              clear hKK KK
              refine wpAny_take (i := 8) (v := ?_) rfl (by kernel_rfl) (by kernel_rfl) (by kernel_rfl) (fun _ _ _ h => h) (Or.inl ⟨by rfl, ?_⟩) ?_
              rotate_left 1
              · intro w; go_simp; try with_reducible rfl
              refine wpAny_ready (rs := [9]) (by kernel_rfl) (by simp) ?_
              refine AllReady.cons rfl (fun KK hKK => ?_) AllReady.nil
              go_simp
              have c0 := G1.out.cell
              have f0 := G1.out.fro
              have hl0 : c < X1.heap.size := G1.out.lt
              go_simp
              have G9 := Lib.hid (G1.out.put cur3)
              clear c0 f0 hl0
              refine hKK _ _ ?_
              clear hKK KK
              refine wpAny_done (by kernel_rfl) ?_ _
              obtain ⟨X3, hX3⟩ : ∃ yw, X1.setCell ⟨c, 0, none⟩ (.string ⟨cur3.toArray⟩) = yw := ⟨_, rfl⟩
              rw [hX3] at G9 ⊢
              exact hJ5 X3 _ _ _ _ _ _ _ _ _ _ _ _ G9.out.rebase
      · have d0 := HI.out.cell
        have HK1 := Lib.hid hk1
        go_wp2_with fail
        go_ret
        have e : laidL a = (verbL a.kind).1 ++ addL (verbL a.kind).2 a := by rw [laidL, if_neg HK1.out, List.append_nil]
        rw [e]
        exact ⟨rfl, HI.out.new⟩
    clear hKK
    refine wp_region_any (by kernel_rfl) ?_
    (try (change wpAny _ _ _ _ _ _ _ (World.drew _)))
    obtain ⟨V0, hV0⟩ : ∃ x, World.drew X = x := ⟨_, rfl⟩
    rw [hV0]
    have G0 := Lib.hid (HI.out.newer (hV0 ▸ Newer.drew X))
    clear hV0
    refine wpAny_take (i := 0) (v := ?_) rfl (by kernel_rfl) (by kernel_rfl) (by kernel_rfl) (fun _ _ _ h => h) (Or.inl ⟨by rfl, ?_⟩) ?_
    rotate_left 1
    · intro w; go_simp; try with_reducible rfl
    refine wpAny_take (i := 2) (v := ?_) rfl (by kernel_rfl) (by kernel_rfl) (by kernel_rfl) (fun _ _ _ h => h) (Or.inl ⟨by rfl, ?_⟩) ?_
    rotate_left 1
    · intro w; go_simp; try with_reducible rfl
    refine wpAny_ready (rs := [1, 3]) (by kernel_rfl) (by simp) ?_
    refine AllReady.cons rfl (fun KK hKK => ?_) ?_
    · go_simp
      obtain ⟨B, hB⟩ : ∃ B, V0.heap.size = B := ⟨_, rfl⟩
      refine (verbs_any _).mono ?_
      rintro e X1 ⟨rfl, hm, hbl⟩
      rw [hB] at hm ⊢
      have G1 := Lib.hid (G0.out.newer (Newer.of hbl))
      have M1 := Lib.hid hm
      clear hm hbl hB
      refine hKK _ _ ?_
      clear hKK KK
      refine wpAny_ready (rs := [3]) (by kernel_rfl) (by simp) ?_
      refine AllReady.cons rfl (fun KK hKK => ?_) AllReady.nil
      go_simp
      have k0 := G1.out.act.c0
      go_simp
      clear k0
      refine hKK _ _ ?_
      clear hKK KK
      refine wpAny_ready (rs := [4]) (by kernel_rfl) (by simp) ?_
      refine AllReady.cons rfl (fun KK hKK => ?_) AllReady.nil
      go_simp
      have hl1 := verbs_look M1.out a.kind HK.out.1
      go_simp
      clear hl1
      refine hKK _ _ ?_
      clear hKK KK
      refine wpAny_ready (rs := [5]) (by kernel_rfl) (by simp) ?_
      refine AllReady.cons rfl (fun KK hKK => ?_) AllReady.nil
      go_simp
      refine (lay_any w c b _ a p8 p9 n8 n9 m8 m9 _ _ _ (needs_verb a.kind) G1.out.rebase HS.out HSH.out HPD.out HLN.out).mono ?_
      rintro e X4 ⟨rfl, hlay⟩
      have G9 := Lib.hid hlay.rebase
      clear hlay
      refine hKK _ _ ?_
      clear hKK KK
      refine wpAny_done (by kernel_rfl) ?_ _
      exact hJ3 X4 _ _ _ _ _ _ G9.out
    refine AllReady.cons rfl (fun KK hKK => ?_) AllReady.nil
    · go_simp
      have k0 := G0.out.act.c0
      go_simp
      clear k0
      refine hKK _ _ ?_
      clear hKK KK
      refine wpAny_ready (rs := [1]) (by kernel_rfl) (by simp) ?_
      refine AllReady.cons rfl (fun KK hKK => ?_) AllReady.nil
      go_simp
      obtain ⟨B, hB⟩ : ∃ B, V0.heap.size = B := ⟨_, rfl⟩
      refine (verbs_any _).mono ?_
      rintro e X1 ⟨rfl, hm, hbl⟩
      rw [hB] at hm ⊢
      have G1 := Lib.hid (G0.out.newer (Newer.of hbl))
      have M1 := Lib.hid hm
      clear hm hbl hB
      refine hKK _ _ ?_
      clear hKK KK
      refine wpAny_ready (rs := [4]) (by kernel_rfl) (by simp) ?_
      refine AllReady.cons rfl (fun KK hKK => ?_) AllReady.nil
      go_simp
      have hl1 := verbs_look M1.out a.kind HK.out.1
      go_simp
      clear hl1
      refine hKK _ _ ?_
      clear hKK KK
      refine wpAny_ready (rs := [5]) (by kernel_rfl) (by simp) ?_
      refine AllReady.cons rfl (fun KK hKK => ?_) AllReady.nil
      go_simp
      refine (lay_any w c b _ a p8 p9 n8 n9 m8 m9 _ _ _ (needs_verb a.kind) G1.out.rebase HS.out HSH.out HPD.out HLN.out).mono ?_
      rintro e X4 ⟨rfl, hlay⟩
      have G9 := Lib.hid hlay.rebase
      clear hlay
      refine hKK _ _ ?_
      clear hKK KK
      refine wpAny_done (by kernel_rfl) ?_ _
      exact hJ3 X4 _ _ _ _ _ _ G9.out

  clear hKK
  refine wp_region_any (by kernel_rfl) ?_
  (try (change wpAny _ _ _ _ _ _ _ (World.drew _)))
  obtain ⟨V0, hV0⟩ : ∃ x, World.drew w0 = x := ⟨_, rfl⟩
  rw [hV0]
  have G0 := Lib.hid (H0.out.newer (hV0 ▸ Newer.drew w0))
  clear hV0
  refine wpAny_take (i := 1) (v := ?_) rfl (by kernel_rfl) (by kernel_rfl) (by kernel_rfl) (fun _ _ _ h => h) (Or.inl ⟨by rfl, ?_⟩) ?_
  rotate_left 1
  · intro w; go_simp; try with_reducible rfl
  refine wpAny_ready (rs := [0, 2, 5]) (by kernel_rfl) (by simp) ?_
  refine AllReady.cons rfl (fun KK hKK => ?_) ?_
  · go_simp
    obtain ⟨B, hB⟩ : ∃ B, V0.heap.size = B := ⟨_, rfl⟩
    refine (verbs_any _).mono ?_
    rintro e X1 ⟨rfl, hm, hbl⟩
    rw [hB] at hm ⊢
    have G1 := Lib.hid (G0.out.newer (Newer.of hbl))
    have M1 := Lib.hid hm
    clear hm hbl hB
    refine hKK _ _ ?_
    clear hKK KK
    refine wpAny_ready (rs := [2, 5]) (by kernel_rfl) (by simp) ?_
    refine AllReady.cons rfl (fun KK hKK => ?_) ?_
    · go_simp
      have k0 := G1.out.act.c0
      go_simp
      clear k0
      refine hKK _ _ ?_
      clear hKK KK
      refine wpAny_ready (rs := [3, 5]) (by kernel_rfl) (by simp) ?_
      refine AllReady.cons rfl (fun KK hKK => ?_) ?_
      · go_simp
        have hl1 := verbs_look M1.out a.kind HK.out.1
        go_simp
        clear hl1
        refine hKK _ _ ?_
        clear hKK KK
        refine wpAny_take (i := 4) (v := ?_) rfl (by kernel_rfl) (by kernel_rfl) (by kernel_rfl) (fun _ _ _ h => h) (Or.inl ⟨by rfl, ?_⟩) ?_
        rotate_left 1
        · intro w; go_simp; try with_reducible rfl
        refine wpAny_ready (rs := [5]) (by kernel_rfl) (by simp) ?_
        refine AllReady.cons rfl (fun KK hKK => ?_) AllReady.nil
        go_simp
        obtain ⟨c, hc5⟩ : ∃ c, X1.heap.size = c := ⟨_, rfl⟩
        obtain ⟨X2, hX⟩ : ∃ yw, X1.alloc (.cells #[.string ⟨#[]⟩] 9) = yw := ⟨_, rfl⟩
        rw [hX, hc5]
        have C2 := Lib.hid (StrAt.made G1.out hc5 hX)
        have G2 := Lib.hid (G1.out.newer (hX ▸ Newer.alloc _ _))
        have M1 := Lib.hid (own_grown M1.out (hX ▸ Newer.alloc _ _))
        clear hX hc5
        refine hKK _ _ ?_
        clear hKK KK
        refine wpAny_ready (rs := [6]) (by kernel_rfl) (by simp) ?_
        refine AllReady.cons rfl (fun KK hKK => ?_) AllReady.nil
        go_simp
        have d0 := C2.out.cell
        have d1 := C2.out.fro
        have d2 : c < X2.heap.size := C2.out.lt
        go_simp
        clear d0 d1 d2
        refine hKK _ _ ?_
        clear hKK KK
        refine wpAny_done (by kernel_rfl) ?_ _
        obtain ⟨X3, hX3⟩ : ∃ yw, X2.setCell ⟨c, 0, none⟩ (.string ⟨(verbL a.kind).1.toArray⟩) = yw := ⟨_, rfl⟩
        rw [hX3]
        exact hJ c X3 _ _ _ _ _ (lay_start G2.out C2.out H5.out hX3)
      refine AllReady.cons rfl (fun KK hKK => ?_) AllReady.nil
      · go_simp
        obtain ⟨c, hc5⟩ : ∃ c, X1.heap.size = c := ⟨_, rfl⟩
        obtain ⟨X2, hX⟩ : ∃ yw, X1.alloc (.cells #[.string ⟨#[]⟩] 9) = yw := ⟨_, rfl⟩
        rw [hX, hc5]
        have C2 := Lib.hid (StrAt.made G1.out hc5 hX)
        have G2 := Lib.hid (G1.out.newer (hX ▸ Newer.alloc _ _))
        have M1 := Lib.hid (own_grown M1.out (hX ▸ Newer.alloc _ _))
        clear hX hc5
        refine hKK _ _ ?_
        clear hKK KK
        refine wpAny_ready (rs := [3]) (by kernel_rfl) (by simp) ?_
        refine AllReady.cons rfl (fun KK hKK => ?_) AllReady.nil
        go_simp
        have hl1 := verbs_look M1.out a.kind HK.out.1
        go_simp
        clear hl1
        refine hKK _ _ ?_
        clear hKK KK
        refine wpAny_take (i := 4) (v := ?_) rfl (by kernel_rfl) (by kernel_rfl) (by kernel_rfl) (fun _ _ _ h => h) (Or.inl ⟨by rfl, ?_⟩) ?_
        rotate_left 1
        · intro w; go_simp; try with_reducible rfl
        refine wpAny_ready (rs := [6]) (by kernel_rfl) (by simp) ?_
        refine AllReady.cons rfl (fun KK hKK => ?_) AllReady.nil
        go_simp
        have d0 := C2.out.cell
        have d1 := C2.out.fro
        have d2 : c < X2.heap.size := C2.out.lt
        go_simp
        clear d0 d1 d2
        refine hKK _ _ ?_
        clear hKK KK
        refine wpAny_done (by kernel_rfl) ?_ _
        obtain ⟨X3, hX3⟩ : ∃ yw, X2.setCell ⟨c, 0, none⟩ (.string ⟨(verbL a.kind).1.toArray⟩) = yw := ⟨_, rfl⟩
        rw [hX3]
        exact hJ c X3 _ _ _ _ _ (lay_start G2.out C2.out H5.out hX3)
    refine AllReady.cons rfl (fun KK hKK => ?_) AllReady.nil
    · go_simp
      obtain ⟨c, hc5⟩ : ∃ c, X1.heap.size = c := ⟨_, rfl⟩
      obtain ⟨X2, hX⟩ : ∃ yw, X1.alloc (.cells #[.string ⟨#[]⟩] 9) = yw := ⟨_, rfl⟩
      rw [hX, hc5]
      have C2 := Lib.hid (StrAt.made G1.out hc5 hX)
      have G2 := Lib.hid (G1.out.newer (hX ▸ Newer.alloc _ _))
      have M1 := Lib.hid (own_grown M1.out (hX ▸ Newer.alloc _ _))
      clear hX hc5
      refine hKK _ _ ?_
      clear hKK KK
      refine wpAny_ready (rs := [2]) (by kernel_rfl) (by simp) ?_
      refine AllReady.cons rfl (fun KK hKK => ?_) AllReady.nil
      go_simp
      have k0 := G2.out.act.c0
      go_simp
      clear k0
      refine hKK _ _ ?_
      clear hKK KK
      refine wpAny_ready (rs := [3]) (by kernel_rfl) (by simp) ?_
      refine AllReady.cons rfl (fun KK hKK => ?_) AllReady.nil
      go_simp
      have hl1 := verbs_look M1.out a.kind HK.out.1
      go_simp
      clear hl1
      refine hKK _ _ ?_
      clear hKK KK
      refine wpAny_take (i := 4) (v := ?_) rfl (by kernel_rfl) (by kernel_rfl) (by kernel_rfl) (fun _ _ _ h => h) (Or.inl ⟨by rfl, ?_⟩) ?_
      rotate_left 1
      · intro w; go_simp; try with_reducible rfl
      refine wpAny_ready (rs := [6]) (by kernel_rfl) (by simp) ?_
      refine AllReady.cons rfl (fun KK hKK => ?_) AllReady.nil
      go_simp
      have d0 := C2.out.cell
      have d1 := C2.out.fro
      have d2 : c < X2.heap.size := C2.out.lt
      go_simp
      clear d0 d1 d2
      refine hKK _ _ ?_
      clear hKK KK
      refine wpAny_done (by kernel_rfl) ?_ _
      obtain ⟨X3, hX3⟩ : ∃ yw, X2.setCell ⟨c, 0, none⟩ (.string ⟨(verbL a.kind).1.toArray⟩) = yw := ⟨_, rfl⟩
      rw [hX3]
      exact hJ c X3 _ _ _ _ _ (lay_start G2.out C2.out H5.out hX3)
  refine AllReady.cons rfl (fun KK hKK => ?_) ?_
  · go_simp
    have k0 := G0.out.act.c0
    go_simp
    clear k0
    refine hKK _ _ ?_
    clear hKK KK
    refine wpAny_ready (rs := [0, 5]) (by kernel_rfl) (by simp) ?_
    refine AllReady.cons rfl (fun KK hKK => ?_) ?_
    · go_simp
      obtain ⟨B, hB⟩ : ∃ B, V0.heap.size = B := ⟨_, rfl⟩
      refine (verbs_any _).mono ?_
      rintro e X1 ⟨rfl, hm, hbl⟩
      rw [hB] at hm ⊢
      have G1 := Lib.hid (G0.out.newer (Newer.of hbl))
      have M1 := Lib.hid hm
      clear hm hbl hB
      refine hKK _ _ ?_
      clear hKK KK
      refine wpAny_ready (rs := [3, 5]) (by kernel_rfl) (by simp) ?_
      refine AllReady.cons rfl (fun KK hKK => ?_) ?_
      · go_simp
        have hl1 := verbs_look M1.out a.kind HK.out.1
        go_simp
        clear hl1
        refine hKK _ _ ?_
        clear hKK KK
        refine wpAny_take (i := 4) (v := ?_) rfl (by kernel_rfl) (by kernel_rfl) (by kernel_rfl) (fun _ _ _ h => h) (Or.inl ⟨by rfl, ?_⟩) ?_
        rotate_left 1
        · intro w; go_simp; try with_reducible rfl
        refine wpAny_ready (rs := [5]) (by kernel_rfl) (by simp) ?_
        refine AllReady.cons rfl (fun KK hKK => ?_) AllReady.nil
        go_simp
        obtain ⟨c, hc5⟩ : ∃ c, X1.heap.size = c := ⟨_, rfl⟩
        obtain ⟨X2, hX⟩ : ∃ yw, X1.alloc (.cells #[.string ⟨#[]⟩] 9) = yw := ⟨_, rfl⟩
        rw [hX, hc5]
        have C2 := Lib.hid (StrAt.made G1.out hc5 hX)
        have G2 := Lib.hid (G1.out.newer (hX ▸ Newer.alloc _ _))
        have M1 := Lib.hid (own_grown M1.out (hX ▸ Newer.alloc _ _))
        clear hX hc5
        refine hKK _ _ ?_
        clear hKK KK
        refine wpAny_ready (rs := [6]) (by kernel_rfl) (by simp) ?_
        refine AllReady.cons rfl (fun KK hKK => ?_) AllReady.nil
        go_simp
        have d0 := C2.out.cell
        have d1 := C2.out.fro
        have d2 : c < X2.heap.size := C2.out.lt
        go_simp
        clear d0 d1 d2
        refine hKK _ _ ?_
        clear hKK KK
        refine wpAny_done (by kernel_rfl) ?_ _
        obtain ⟨X3, hX3⟩ : ∃ yw, X2.setCell ⟨c, 0, none⟩ (.string ⟨(verbL a.kind).1.toArray⟩) = yw := ⟨_, rfl⟩
        rw [hX3]
        exact hJ c X3 _ _ _ _ _ (lay_start G2.out C2.out H5.out hX3)
      refine AllReady.cons rfl (fun KK hKK => ?_) AllReady.nil
      · go_simp
        obtain ⟨c, hc5⟩ : ∃ c, X1.heap.size = c := ⟨_, rfl⟩
        obtain ⟨X2, hX⟩ : ∃ yw, X1.alloc (.cells #[.string ⟨#[]⟩] 9) = yw := ⟨_, rfl⟩
        rw [hX, hc5]
        have C2 := Lib.hid (StrAt.made G1.out hc5 hX)
        have G2 := Lib.hid (G1.out.newer (hX ▸ Newer.alloc _ _))
        have M1 := Lib.hid (own_grown M1.out (hX ▸ Newer.alloc _ _))
        clear hX hc5
        refine hKK _ _ ?_
        clear hKK KK
        refine wpAny_ready (rs := [3]) (by kernel_rfl) (by simp) ?_
        refine AllReady.cons rfl (fun KK hKK => ?_) AllReady.nil
        go_simp
        have hl1 := verbs_look M1.out a.kind HK.out.1
        go_simp
        clear hl1
        refine hKK _ _ ?_
        clear hKK KK
        refine wpAny_take (i := 4) (v := ?_) rfl (by kernel_rfl) (by kernel_rfl) (by kernel_rfl) (fun _ _ _ h => h) (Or.inl ⟨by rfl, ?_⟩) ?_
        rotate_left 1
        · intro w; go_simp; try with_reducible rfl
        refine wpAny_ready (rs := [6]) (by kernel_rfl) (by simp) ?_
        refine AllReady.cons rfl (fun KK hKK => ?_) AllReady.nil
        go_simp
        have d0 := C2.out.cell
        have d1 := C2.out.fro
        have d2 : c < X2.heap.size := C2.out.lt
        go_simp
        clear d0 d1 d2
        refine hKK _ _ ?_
        clear hKK KK
        refine wpAny_done (by kernel_rfl) ?_ _
        obtain ⟨X3, hX3⟩ : ∃ yw, X2.setCell ⟨c, 0, none⟩ (.string ⟨(verbL a.kind).1.toArray⟩) = yw := ⟨_, rfl⟩
        rw [hX3]
        exact hJ c X3 _ _ _ _ _ (lay_start G2.out C2.out H5.out hX3)
    refine AllReady.cons rfl (fun KK hKK => ?_) AllReady.nil
    · go_simp
      obtain ⟨c, hc5⟩ : ∃ c, V0.heap.size = c := ⟨_, rfl⟩
      obtain ⟨X2, hX⟩ : ∃ yw, V0.alloc (.cells #[.string ⟨#[]⟩] 9) = yw := ⟨_, rfl⟩
      rw [hX, hc5]
      have C1 := Lib.hid (StrAt.made G0.out hc5 hX)
      have G1 := Lib.hid (G0.out.newer (hX ▸ Newer.alloc _ _))
      clear hX hc5
      refine hKK _ _ ?_
      clear hKK KK
      refine wpAny_ready (rs := [0]) (by kernel_rfl) (by simp) ?_
      refine AllReady.cons rfl (fun KK hKK => ?_) AllReady.nil
      go_simp
      obtain ⟨B, hB⟩ : ∃ B, X2.heap.size = B := ⟨_, rfl⟩
      refine (verbs_any _).mono ?_
      rintro e X1 ⟨rfl, hm, hbl⟩
      rw [hB] at hm ⊢
      have G2 := Lib.hid (G1.out.newer (Newer.of hbl))
      have C2 := Lib.hid (C1.out.newer (Newer.of hbl))
      have M1 := Lib.hid hm
      clear hm hbl hB
      refine hKK _ _ ?_
      clear hKK KK
      refine wpAny_ready (rs := [3]) (by kernel_rfl) (by simp) ?_
      refine AllReady.cons rfl (fun KK hKK => ?_) AllReady.nil
      go_simp
      have hl1 := verbs_look M1.out a.kind HK.out.1
      go_simp
      clear hl1
      refine hKK _ _ ?_
      clear hKK KK
      refine wpAny_take (i := 4) (v := ?_) rfl (by kernel_rfl) (by kernel_rfl) (by kernel_rfl) (fun _ _ _ h => h) (Or.inl ⟨by rfl, ?_⟩) ?_
      rotate_left 1
      · intro w; go_simp; try with_reducible rfl
      refine wpAny_ready (rs := [6]) (by kernel_rfl) (by simp) ?_
      refine AllReady.cons rfl (fun KK hKK => ?_) AllReady.nil
      go_simp
      have d0 := C2.out.cell
      have d1 := C2.out.fro
      have d2 : c < X1.heap.size := C2.out.lt
      go_simp
      clear d0 d1 d2
      refine hKK _ _ ?_
      clear hKK KK
      refine wpAny_done (by kernel_rfl) ?_ _
      obtain ⟨X3, hX3⟩ : ∃ yw, X1.setCell ⟨c, 0, none⟩ (.string ⟨(verbL a.kind).1.toArray⟩) = yw := ⟨_, rfl⟩
      rw [hX3]
      exact hJ c X3 _ _ _ _ _ (lay_start G2.out C2.out H5.out hX3)
  refine AllReady.cons rfl (fun KK hKK => ?_) AllReady.nil
  · go_simp
    obtain ⟨c, hc5⟩ : ∃ c, V0.heap.size = c := ⟨_, rfl⟩
    obtain ⟨X2, hX⟩ : ∃ yw, V0.alloc (.cells #[.string ⟨#[]⟩] 9) = yw := ⟨_, rfl⟩
    rw [hX, hc5]
    have C1 := Lib.hid (StrAt.made G0.out hc5 hX)
    have G1 := Lib.hid (G0.out.newer (hX ▸ Newer.alloc _ _))
    clear hX hc5
    refine hKK _ _ ?_
    clear hKK KK
    refine wpAny_ready (rs := [0, 2]) (by kernel_rfl) (by simp) ?_
    refine AllReady.cons rfl (fun KK hKK => ?_) ?_
    · go_simp
      obtain ⟨B, hB⟩ : ∃ B, X2.heap.size = B := ⟨_, rfl⟩
      refine (verbs_any _).mono ?_
      rintro e X1 ⟨rfl, hm, hbl⟩
      rw [hB] at hm ⊢
      have G2 := Lib.hid (G1.out.newer (Newer.of hbl))
      have C2 := Lib.hid (C1.out.newer (Newer.of hbl))
      have M1 := Lib.hid hm
      clear hm hbl hB
      refine hKK _ _ ?_
      clear hKK KK
      refine wpAny_ready (rs := [2]) (by kernel_rfl) (by simp) ?_
      refine AllReady.cons rfl (fun KK hKK => ?_) AllReady.nil
      go_simp
      have k0 := G2.out.act.c0
      go_simp
      clear k0
      refine hKK _ _ ?_
      clear hKK KK
      refine wpAny_ready (rs := [3]) (by kernel_rfl) (by simp) ?_
      refine AllReady.cons rfl (fun KK hKK => ?_) AllReady.nil
      go_simp
      have hl1 := verbs_look M1.out a.kind HK.out.1
      go_simp
      clear hl1
      refine hKK _ _ ?_
      clear hKK KK
      refine wpAny_take (i := 4) (v := ?_) rfl (by kernel_rfl) (by kernel_rfl) (by kernel_rfl) (fun _ _ _ h => h) (Or.inl ⟨by rfl, ?_⟩) ?_
      rotate_left 1
      · intro w; go_simp; try with_reducible rfl
      refine wpAny_ready (rs := [6]) (by kernel_rfl) (by simp) ?_
      refine AllReady.cons rfl (fun KK hKK => ?_) AllReady.nil
      go_simp
      have d0 := C2.out.cell
      have d1 := C2.out.fro
      have d2 : c < X1.heap.size := C2.out.lt
      go_simp
      clear d0 d1 d2
      refine hKK _ _ ?_
      clear hKK KK
      refine wpAny_done (by kernel_rfl) ?_ _
      obtain ⟨X3, hX3⟩ : ∃ yw, X1.setCell ⟨c, 0, none⟩ (.string ⟨(verbL a.kind).1.toArray⟩) = yw := ⟨_, rfl⟩
      rw [hX3]
      exact hJ c X3 _ _ _ _ _ (lay_start G2.out C2.out H5.out hX3)
    refine AllReady.cons rfl (fun KK hKK => ?_) AllReady.nil
    · go_simp
      have k0 := G1.out.act.c0
      go_simp
      clear k0
      refine hKK _ _ ?_
      clear hKK KK
      refine wpAny_ready (rs := [0]) (by kernel_rfl) (by simp) ?_
      refine AllReady.cons rfl (fun KK hKK => ?_) AllReady.nil
      go_simp
      obtain ⟨B, hB⟩ : ∃ B, X2.heap.size = B := ⟨_, rfl⟩
      refine (verbs_any _).mono ?_
      rintro e X1 ⟨rfl, hm, hbl⟩
      rw [hB] at hm ⊢
      have G2 := Lib.hid (G1.out.newer (Newer.of hbl))
      have C2 := Lib.hid (C1.out.newer (Newer.of hbl))
      have M1 := Lib.hid hm
      clear hm hbl hB
      refine hKK _ _ ?_
      clear hKK KK
      refine wpAny_ready (rs := [3]) (by kernel_rfl) (by simp) ?_
      refine AllReady.cons rfl (fun KK hKK => ?_) AllReady.nil
      go_simp
      have hl1 := verbs_look M1.out a.kind HK.out.1
      go_simp
      clear hl1
      refine hKK _ _ ?_
      clear hKK KK
      refine wpAny_take (i := 4) (v := ?_) rfl (by kernel_rfl) (by kernel_rfl) (by kernel_rfl) (fun _ _ _ h => h) (Or.inl ⟨by rfl, ?_⟩) ?_
      rotate_left 1
      · intro w; go_simp; try with_reducible rfl
      refine wpAny_ready (rs := [6]) (by kernel_rfl) (by simp) ?_
      refine AllReady.cons rfl (fun KK hKK => ?_) AllReady.nil
      go_simp
      have d0 := C2.out.cell
      have d1 := C2.out.fro
      have d2 : c < X1.heap.size := C2.out.lt
      go_simp
      clear d0 d1 d2
      refine hKK _ _ ?_
      clear hKK KK
      refine wpAny_done (by kernel_rfl) ?_ _
      obtain ⟨X3, hX3⟩ : ∃ yw, X1.setCell ⟨c, 0, none⟩ (.string ⟨(verbL a.kind).1.toArray⟩) = yw := ⟨_, rfl⟩
      rw [hX3]
      exact hJ c X3 _ _ _ _ _ (lay_start G2.out C2.out H5.out hX3)


end Go.Proofs.YtgdaaafejfjilaaGreatDoor
