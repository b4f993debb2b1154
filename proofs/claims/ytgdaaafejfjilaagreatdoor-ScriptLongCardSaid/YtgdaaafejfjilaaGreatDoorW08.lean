/- strings.Builder as this program's dump has it; a byte, a mark shown; lists shown -/
import Derived.Test.YtgdaaafejfjilaaGreatDoorW07
import Derived.Shelf.Strings.BuilderF
namespace Go.Proofs.YtgdaaafejfjilaaGreatDoor
open Go.RowKit
attribute [local go_sem] Oper.semAt_some undef

theorem sizeBuilder : (Tryz.prog.info? 134).map (·.size) = some 2 := by kernel_rfl
theorem liesBuilder : liesAt Tryz.prog Tryz.prog.depth 134 (2 / Tryz.prog.cellsOf 134) 0 134 1 = true := by kernel_rfl

set_option maxRecDepth 100000 in
theorem copyCheck_used (b : Nat) (w : World) (h0 : w.cell? ⟨b, 0, none⟩ = some (.pointer (some ⟨b, 0, none⟩))) :
    Calls Tryz.prog 98 #[.pointer (some ⟨b, 0, none⟩)] w fun e w' => e = .returned (.tuple #[]) ∧ w' = w := by
  obtain ⟨j, hj, _⟩ := Option.map_eq_some_iff.1 sizeBuilder
  go_enter Tryz.func98, Tryz.ntmps98
  go_wp2
  rw [Lib.run_neq_ptr_same w _ Tryz.underlying132 hj]
  go_wp2
  go_end0
  exact ⟨rfl, rfl⟩
set_option maxRecDepth 100000 in
theorem copyCheck_fresh (b : Nat) (w : World) (h0 : w.cell? ⟨b, 0, none⟩ = some (.pointer none)) (hsh : w.shape? b = some (134, 2)) (hfz : w.frozen? ⟨b, 0, none⟩ = false) :
    Calls Tryz.prog 98 #[.pointer (some ⟨b, 0, none⟩)] w fun e w' => e = .returned (.tuple #[]) ∧ w' = w.setCell ⟨b, 0, none⟩ (.pointer (some ⟨b, 0, none⟩)) := by
  obtain ⟨j, hj, hjs⟩ := Option.map_eq_some_iff.1 sizeBuilder
  go_enter Tryz.func98, Tryz.ntmps98
  go_wp2
  rw [Lib.run_to_unsafe w ⟨b, 0, none⟩ Tryz.underlying132 Tryz.underlying166 hj (by rw [hjs]; decide) hsh (Nat.zero_lt_succ 1)]
  simp only [Result.andThen]
  rw [Oper.upon_value]
  go_wp2
  rw [run_callFunc_extern Tryz.func116 (by kernel_rfl) (by kernel_rfl) (by kernel_rfl) (e := Extern.AbiNoEscape.same) (by kernel_rfl)]
  rw [Lib.run_noEscape]
  simp only [Result.andThen]
  rw [Oper.upon_value]
  go_wp2
  rw [Lib.run_from_unsafe w ⟨b, 0, none⟩ Tryz.underlying166 Tryz.underlying132 hj hsh liesBuilder]
  simp only [Result.andThen]
  rw [Oper.upon_value]
  go_wp2
  go_end0
  exact ⟨rfl, rfl⟩
theorem copyCheck_any (B b : Nat) (bs : List Value) (w : World) (h : Lib.IsBuilderF 134 5 B b bs w) :
    Calls Tryz.prog 98 #[.pointer (some ⟨b, 0, none⟩)] w fun e w' => e = .returned (.tuple #[]) ∧ (Lib.BuilderAtF 134 5 B b (.pointer (some ⟨b, 0, none⟩)) bs w' ∧ Below B w w') := by
  rcases h with h | h
  · refine (copyCheck_fresh b w h.cell0 h.shape h.frozen0).mono ?_
    rintro e w' ⟨rfl, rfl⟩
    exact ⟨rfl, h.used _, (Below.refl B w).setCell (p := ⟨b, 0, none⟩) h.1 _⟩
  · refine (copyCheck_used b w h.cell0).mono ?_
    rintro e w' ⟨rfl, rfl⟩
    exact ⟨rfl, h, Below.refl B _⟩

set_option maxHeartbeats 2000000 in
set_option maxRecDepth 100000 in
theorem writeString_any (B b : Nat) (bs : List Value) (s : ByteArray) (w : World) (h : Lib.IsBuilderF 134 5 B b bs w) (hlen : bs.length + s.size ≤ 140737488355328) (hBw : B ≤ w.heap.size) :
    Calls Tryz.prog 87 #[.pointer (some ⟨b, 0, none⟩), .string s] w fun e w' => e = .returned (.tuple #[.int .i64 s.size, .nilIface]) ∧ (Lib.BuilderAtF 134 5 B b (.pointer (some ⟨b, 0, none⟩)) (bs ++ Lib.strCells s) w' ∧ Below B w w') := by
  obtain ⟨i0, hi, hz0, hz1, hz2⟩ := info_parts Tryz.info5
  go_enter Tryz.func87, Tryz.ntmps87
  go_wp2_with fail
  refine (copyCheck_any B b bs _ h).mono ?_
  rintro e w1 ⟨rfl, h1, hb1⟩
  obtain ⟨hB, v, hbk, hown, hne⟩ := h1
  have c0 : w1.cell? ⟨b, 0, none⟩ = some (.pointer (some ⟨b, 0, none⟩)) := by rw [Lib.cell_of_heap hbk]; rfl
  have c1 : w1.cell? ⟨b, 1, none⟩ = some v := by rw [Lib.cell_of_heap hbk]; rfl
  go_wp2_with (at_builtin; refine Lib.wpList_append_own_stringF _ rfl _ _ 24 9 rfl B 5 i0 Tryz.underlying24 Tryz.underlying9 hi hz0 hz1 hz2 _ _ _ rfl hown s rfl ?c3 ?c4 ?c5 ?_)
  case c3 => unfold maxLen; omega
  case c4 => omega
  case c5 => have := hb1.size; omega
  intro v' w2 hown' hgrow _
  have hlt : b < w1.heap.size := by
    rcases Nat.lt_or_ge b w1.heap.size with h' | h'
    · exact h'
    · simp [Array.getElem?_eq_none h'] at hbk
  have hb2 : w2.heap[b]? = some (.cells #[.pointer (some ⟨b, 0, none⟩), v] 134 (0, 0)) := by
    rw [hgrow.block b hlt (fun e => hne e.symm)]
    exact hbk
  have d0 : w2.cell? ⟨b, 0, none⟩ = some (.pointer (some ⟨b, 0, none⟩)) := by rw [Lib.cell_of_heap hb2]; rfl
  have d1 : w2.cell? ⟨b, 1, none⟩ = some v := by rw [Lib.cell_of_heap hb2]; rfl
  have f1 : w2.frozen? ⟨b, 1, none⟩ = false := Lib.frozen_of_heap hb2 1
  obtain ⟨ao, n', cap, rfl⟩ : ∃ ao n' cap, v' = .slice ao n' cap := by
    rcases hown'.2 with ⟨hv, _⟩ | ⟨g, cap, cur, fz, hv, _⟩
    · exact ⟨_, _, _, hv⟩
    · exact ⟨_, _, _, hv⟩
  go_wp2
  go_ret2
  refine ⟨rfl, ?_, ?_⟩
  · exact Lib.BuilderAtF.put (T := 134) (e := 5) hB hb2 (bs' := bs ++ Lib.strCells s) (by simpa [Lib.strCells_length] using hown') (by decide)
  · exact (hb1.grown hgrow (by have := hb1.size; omega) (fun k hk => (hown.lt k hk).1)).setCell (p := ⟨b, 1, none⟩) hB _

theorem kept2 {w1 W : World} {a b : Addr} {x y : Value} (n : Newer w1 W) (c0 : w1.cell? a = some x) (c1 : w1.cell? b = some y) : Newer w1 W ∧ W.cell? a = some x ∧ W.cell? b = some y := ⟨n, newer_cell c0 n, newer_cell c1 n⟩

theorem right_0 (w : World) : Calls Tryz.prog 99 #[.agg #[.int .i64 0, .int .i64 4]] w fun e w' => e = .returned (.bool true) ∧ Newer w w' := by
  go_enter Tryz.func99, Tryz.ntmps99
  go_wp2
  go_ret
  exact ⟨rfl, Newer.alloc _ _⟩
set_option maxRecDepth 100000 in
theorem masks_0 (w : World) : Calls Tryz.prog 117 #[.agg #[.int .i64 0, .int .i64 4]] w fun e w' => e = .returned (.agg #[.int .u64 15, .int .u64 15]) ∧ Newer w w' := by
  go_enter Tryz.func117, Tryz.ntmps117
  go_wp2
  go_returns
  exact ⟨rfl, (Newer.alloc _ _).trans (Newer.alloc _ _)⟩
set_option maxRecDepth 100000 in
set_option maxHeartbeats 1600000 in
theorem of_0 (n : Int) (w : World) : Calls Tryz.prog 100 #[.agg #[.int .i64 0, .int .i64 4], .int .u64 n] w fun e w' => e = .returned (.int .u64 (bits .and .u64 n 15)) ∧ Newer w w' := by
  obtain ⟨w1, hw1⟩ : ∃ w1, w.alloc (.cells #[.int .i64 0, .int .i64 4] 153) = w1 := ⟨_, rfl⟩
  have c0 : w1.cell? ⟨w.heap.size, 0, none⟩ = some (.int .i64 0) := by rw [← hw1]; simp [go_sem]
  have c1 : w1.cell? ⟨w.heap.size, 1, none⟩ = some (.int .i64 4) := by rw [← hw1]; simp [go_sem]
  have N1 : Hid (Newer w w1) := Lib.hid (hw1 ▸ Newer.alloc _ _)
  have HW := Lib.hid hw1
  clear hw1
  have ix : ∀ w, (Instr.index 168 (.agg #[.int .u64 15, .int .u64 15]) (.int .i64 0)).run Tryz.prog w = .ok (.int .u64 15) w := fun _ => by kernel_rfl
  go_enter Tryz.func100, Tryz.ntmps100
  go_wp2_with fail
  rw [HW.out]
  go_region_held3 (fun w' => Newer w1 w' ∧ w'.cell? ⟨w.heap.size, 0, none⟩ = some (.int .i64 0) ∧ w'.cell? ⟨w.heap.size, 1, none⟩ = some (.int .i64 4)) (first | exact kept2 (Newer.drew _) c0 c1 | (go_split_ands; exact ⟨by assumption, by assumption, by assumption⟩) | (go_split_ands; exact kept2 (Newer.trans (by assumption) (by assumption)) c0 c1)) (first | (go_at_call 117; refine (masks_0 _).mono ?_; rintro e w' ⟨rfl, n2⟩))
  all_goals
    go_split_ands
    go_wp2
    go_ret
    exact ⟨rfl, N1.out.trans (by assumption)⟩
theorem right_4 (w : World) : Calls Tryz.prog 99 #[.agg #[.int .i64 4, .int .i64 4]] w fun e w' => e = .returned (.bool true) ∧ Newer w w' := by
  go_enter Tryz.func99, Tryz.ntmps99
  go_wp2
  go_ret
  exact ⟨rfl, Newer.alloc _ _⟩
set_option maxRecDepth 100000 in
theorem masks_4 (w : World) : Calls Tryz.prog 117 #[.agg #[.int .i64 4, .int .i64 4]] w fun e w' => e = .returned (.agg #[.int .u64 15, .int .u64 240]) ∧ Newer w w' := by
  go_enter Tryz.func117, Tryz.ntmps117
  go_wp2
  go_returns
  exact ⟨rfl, (Newer.alloc _ _).trans (Newer.alloc _ _)⟩
set_option maxRecDepth 100000 in
set_option maxHeartbeats 1600000 in
theorem of_4 (n : Int) (w : World) : Calls Tryz.prog 100 #[.agg #[.int .i64 4, .int .i64 4], .int .u64 n] w fun e w' => e = .returned (.int .u64 (bits .and .u64 (n / 16) 15)) ∧ Newer w w' := by
  obtain ⟨w1, hw1⟩ : ∃ w1, w.alloc (.cells #[.int .i64 4, .int .i64 4] 153) = w1 := ⟨_, rfl⟩
  have c0 : w1.cell? ⟨w.heap.size, 0, none⟩ = some (.int .i64 4) := by rw [← hw1]; simp [go_sem]
  have c1 : w1.cell? ⟨w.heap.size, 1, none⟩ = some (.int .i64 4) := by rw [← hw1]; simp [go_sem]
  have N1 : Hid (Newer w w1) := Lib.hid (hw1 ▸ Newer.alloc _ _)
  have HW := Lib.hid hw1
  clear hw1
  have ix : ∀ w, (Instr.index 168 (.agg #[.int .u64 15, .int .u64 240]) (.int .i64 0)).run Tryz.prog w = .ok (.int .u64 15) w := fun _ => by kernel_rfl
  go_enter Tryz.func100, Tryz.ntmps100
  go_wp2_with fail
  rw [HW.out]
  go_region_held3 (fun w' => Newer w1 w' ∧ w'.cell? ⟨w.heap.size, 0, none⟩ = some (.int .i64 4) ∧ w'.cell? ⟨w.heap.size, 1, none⟩ = some (.int .i64 4)) (first | exact kept2 (Newer.drew _) c0 c1 | (go_split_ands; exact ⟨by assumption, by assumption, by assumption⟩) | (go_split_ands; exact kept2 (Newer.trans (by assumption) (by assumption)) c0 c1)) (first | (go_at_call 117; refine (masks_4 _).mono ?_; rintro e w' ⟨rfl, n2⟩))
  all_goals
    go_split_ands
    go_wp2
    go_ret
    exact ⟨rfl, N1.out.trans (by assumption)⟩

end Go.Proofs.YtgdaaafejfjilaaGreatDoor

/- a byte, a mark shown; lists shown -/
namespace Go.Proofs.YtgdaaafejfjilaaGreatDoor
open Go.RowKit
attribute [local go_sem] Oper.semAt_some undef

theorem get_0 (n : Int) (w : World) : Calls Tryz.prog 89 #[.int .u64 n, .agg #[.int .i64 0, .int .i64 4]] w fun e w' => e = .returned (.tuple #[.int .u64 (bits .and .u64 n 15), .int .i64 0]) ∧ Newer w w' := by
  go_enter Tryz.func89, Tryz.ntmps89
  go_wp2_with fail
  refine (right_0 _).mono ?_
  rintro e w1 ⟨rfl, n1⟩
  have c0 : w1.cell? ⟨w.heap.size + 1, 0, none⟩ = some (.int .i64 0) := newer_cell (by simp [go_sem]) n1
  have c1 : w1.cell? ⟨w.heap.size + 1, 1, none⟩ = some (.int .i64 4) := newer_cell (by simp [go_sem]) n1
  have N1 := Lib.hid (((Newer.alloc _ _).trans (Newer.alloc _ _)).trans n1)
  clear n1
  go_wp2_with fail
  refine (of_0 n _).mono ?_
  rintro e w2 ⟨rfl, n2⟩
  have N2 := Lib.hid (N1.out.trans n2)
  clear n2 c0 c1
  go_wp2
  go_ret2
  exact ⟨rfl, N2.out⟩
theorem get_4 (n : Int) (w : World) : Calls Tryz.prog 89 #[.int .u64 n, .agg #[.int .i64 4, .int .i64 4]] w fun e w' => e = .returned (.tuple #[.int .u64 (bits .and .u64 (n / 16) 15), .int .i64 0]) ∧ Newer w w' := by
  go_enter Tryz.func89, Tryz.ntmps89
  go_wp2_with fail
  refine (right_4 _).mono ?_
  rintro e w1 ⟨rfl, n1⟩
  have c0 : w1.cell? ⟨w.heap.size + 1, 0, none⟩ = some (.int .i64 4) := newer_cell (by simp [go_sem]) n1
  have c1 : w1.cell? ⟨w.heap.size + 1, 1, none⟩ = some (.int .i64 4) := newer_cell (by simp [go_sem]) n1
  have N1 := Lib.hid (((Newer.alloc _ _).trans (Newer.alloc _ _)).trans n1)
  clear n1
  go_wp2_with fail
  refine (of_4 n _).mono ?_
  rintro e w2 ⟨rfl, n2⟩
  have N2 := Lib.hid (N1.out.trans n2)
  clear n2 c0 c1
  go_wp2
  go_ret2
  exact ⟨rfl, N2.out⟩

theorem hi_lo (c : UInt8) : bits .and .u64 ((c.toNat : Int) / 16) 15 = ((c.toNat / 16 : Nat) : Int) ∧ bits .and .u64 (c.toNat : Int) 15 = ((c.toNat % 16 : Nat) : Int) := by
  have h : ∀ i : Fin 256, bits .and .u64 ((i.val : Int) / 16) 15 = ((i.val / 16 : Nat) : Int) ∧ bits .and .u64 (i.val : Int) 15 = ((i.val % 16 : Nat) : Int) := by decide +kernel
  exact h ⟨c.toNat, c.toNat_lt⟩

theorem digit_at (k : Nat) (hk : k < 16) (w : World) : (Instr.index 9 (.string ⟨digitsL.toArray⟩) (.int .u64 (k : Int))).run Tryz.prog w = .ok (.int .u8 ((hexD k).toNat : Int)) w := by
  rw [run_index_string _ _ _ _ _ Tryz.underlying9]
  have h1 : (ByteArray.mk digitsL.toArray).size = 16 := rfl
  rw [dif_pos (by rw [h1]; omega)]
  match k, hk with
  | 0, _ => rfl
  | 1, _ => rfl
  | 2, _ => rfl
  | 3, _ => rfl
  | 4, _ => rfl
  | 5, _ => rfl
  | 6, _ => rfl
  | 7, _ => rfl
  | 8, _ => rfl
  | 9, _ => rfl
  | 10, _ => rfl
  | 11, _ => rfl
  | 12, _ => rfl
  | 13, _ => rfl
  | 14, _ => rfl
  | 15, _ => rfl
  | k + 16, h => exact absurd h (by omega)

def pairL (c : UInt8) : Bs := [hexD (c.toNat / 16), hexD (c.toNat % 16)]

set_option maxRecDepth 100000 in
set_option maxHeartbeats 800000 in
theorem pair_any (c : UInt8) (w : World) : Calls Tryz.prog 70 #[.int .u8 c.toNat] w fun e w' => e = .returned (.string ⟨(pairL c).toArray⟩) ∧ Newer w w' := by
  obtain ⟨h1, h2⟩ := hi_lo c
  have hlt := c.toNat_lt
  have d1 := digit_at (c.toNat / 16) (by omega)
  have d2 := digit_at (c.toNat % 16) (by omega)
  obtain ⟨p, hp⟩ : ∃ p, hexD (c.toNat / 16) = p := ⟨_, rfl⟩
  obtain ⟨q, hq⟩ : ∃ q, hexD (c.toNat % 16) = q := ⟨_, rfl⟩
  rw [hp] at d1
  rw [hq] at d2
  have HPL : Hid (pairL c = [p, q]) := Lib.hid (by rw [← hp, ← hq]; rfl)
  clear hp hq
  obtain ⟨x, hx⟩ : ∃ x, c.toNat / 16 = x := ⟨_, rfl⟩
  obtain ⟨y, hy⟩ : ∃ y, c.toNat % 16 = y := ⟨_, rfl⟩
  rw [hx] at h1 d1
  rw [hy] at h2 d2
  clear hx hy
  have H1 := Lib.hid h1
  have H2 := Lib.hid h2
  unfold digitsL at d1 d2
  have D := Lib.hid (And.intro d1 d2)
  clear h1 h2 d1 d2
  rw [HPL.out]
  go_enter Tryz.func70, Tryz.ntmps70
  go_wp2_with fail
  refine (get_4 _ _).mono ?_
  rintro e w1 ⟨rfl, n1⟩
  rw [H1.out]
  have N1 := Lib.hid n1
  clear n1
  go_wp2_with fail
  refine (get_0 _ _).mono ?_
  rintro e w2 ⟨rfl, n2⟩
  rw [H2.out]
  have N2 := Lib.hid (N1.out.trans n2)
  clear n2 hlt
  obtain ⟨d1, d2⟩ := D.out
  go_wp2_with fail
  have cv : (convert 24 9 (.slice (some ⟨w2.heap.size, 0, none⟩) 2 2)).run Tryz.prog (w2.alloc (.cells #[.int .u8 p.toNat, .int .u8 q.toNat] 5)).drew = .ok (.string ⟨#[p, q]⟩) (w2.alloc (.cells #[.int .u8 p.toNat, .int .u8 q.toNat] 5)).drew :=
    run_convert_bytes_back _ 24 9 5 ⟨w2.heap.size, 0, none⟩ 2 [p, q] Tryz.underlying24 Tryz.underlying5 Tryz.underlying9 (fun j hj => by
      match j, hj with
      | 0, _ => simp [go_sem]
      | 1, _ => simp [go_sem])
  go_region_with (fail)
  all_goals
    go_wp2
    go_ret
    exact ⟨rfl, (N2.out.trans (Newer.alloc _ _)).trans (Newer.drew _)⟩

def dotL (x : Bool) : Bs := [if x then 49 else 48]
theorem bit_any (x : Bool) (w : World) : Calls Tryz.prog 75 #[.bool x] w fun e w' => e = .returned (.string ⟨(dotL x).toArray⟩) ∧ w = w' := by
  cases x
  all_goals
    go_enter Tryz.func75, Tryz.ntmps75
    go_wp2
    go_ret
    exact ⟨rfl, rfl⟩

end Go.Proofs.YtgdaaafejfjilaaGreatDoor

/- lists shown -/
namespace Go.Proofs.YtgdaaafejfjilaaGreatDoor
open Go.RowKit
attribute [local go_sem] Oper.semAt_some undef

theorem Newer.grownBy {w W : World} (h : Newer w W) : w.grownBy W none := ⟨h.os, h.tape, h.output, h.size, fun _ hk _ => h.block hk⟩
theorem builder_newer {B b : Nat} {bs : List Value} {w W : World} (h : Lib.IsBuilderF 134 5 B b bs w) (g : Newer w W) : Lib.IsBuilderF 134 5 B b bs W := by
  have k : ∀ p, Lib.BuilderAtF 134 5 B b p bs w → Lib.BuilderAtF 134 5 B b p bs W := fun p h => by
    have hl := h.lt
    obtain ⟨hB, v, hb, hown, hne⟩ := h
    refine ⟨hB, v, (g.block hl).trans hb, hown.kept g.grownBy ?_, hne⟩
    cases hv : v.ownBlock with
    | none => exact .inl rfl
    | some x => exact .inr (by simp)
  rcases h with h | h
  · exact .inl (k _ h)
  · exact .inr (k _ h)
theorem Newer.trans2 {A B C : World} (h : Newer A B) {n : Nat} (k : Below n B C) (hn : A.heap.size ≤ n) : Newer A C :=
  Grow.trans h (Grow.mono (Grow.ofBelow k) (fun i hi => by have hi : n ≤ i := hi; show A.heap.size ≤ i; omega))
theorem map_dot (l : List Bool) : (l.map fun x => if x then (49 : UInt8) else 48) = l.flatMap dotL := by
  induction l with
  | nil => rfl
  | cons a l ih => rw [List.map_cons, List.flatMap_cons, ih]; rfl
theorem flat_len {α : Type} (f : α → Bs) (hf : ∀ c, (f c).length ≤ 2) : ∀ (l : List α) (k : Nat), l.length ≤ k → (l.flatMap f).length ≤ 2 * k
  | [], _, _ => by simp
  | a :: l, k, h => by
    have h1 := flat_len f hf l (k - 1) (by simp at h; omega)
    have h2 := hf a
    simp only [List.flatMap_cons, List.length_append]
    simp at h
    omega

set_option maxRecDepth 100000 in
set_option maxHeartbeats 1600000 in
theorem listedB (v : Value) (l : Bs) (hl : l.length ≤ 1000000) (w : World) (hs : SliceB w v l) :
    Calls Tryz.prog 69 #[v, .func (.func 70) #[] #[]] w fun e w' => e = .returned (.string ⟨(hexL l).toArray⟩) ∧ Newer w w' := by
  obtain ⟨p, cap, rfl, hx⟩ := hs
  have HX := Lib.hid hx
  have eg : ∀ args w, (callFunc 70 args).run Tryz.prog w = .ok (.enter 70 args) w := fun _ _ => by kernel_rfl
  obtain ⟨n, hn⟩ : ∃ n, l.length = n := ⟨_, rfl⟩
  have HN := Lib.hid hn
  rw [hn] at hl ⊢
  clear hx hn
  by_cases h0 : n = 0
  · subst h0
    go_enter Tryz.func69, Tryz.ntmps69
    go_wp2_with fail
    go_ret
    have : l = [] := by simpa using HN.out
    subst this
    exact ⟨rfl, Newer.refl _⟩
  · have h0' : ((n : Int) == 0) = false := by simpa using h0
    have hne : hexL l = l.flatMap pairL := by
      unfold hexL
      rw [if_neg (by intro h; rw [h] at HN; have := HN.out; simp at this; omega)]
      rfl
    have HE := Lib.hid hne
    clear hne h0
    go_enter Tryz.func69, Tryz.ntmps69
    go_wp2_with fail
    obtain ⟨b, hb⟩ : ∃ b, w.heap.size = b := ⟨_, rfl⟩
    obtain ⟨w0, hw0⟩ : ∃ w0, w.alloc (.cells #[.pointer none, .slice none 0 0] 134) = w0 := ⟨_, rfl⟩
    have h1 : Lib.IsBuilderF 134 5 b b [] w0 ∧ Newer w w0 ∧ b ≤ w0.heap.size := by
      subst hw0 hb
      exact ⟨.inl ⟨Nat.le_refl _, _, World.alloc_heap_new w _, World.ownsRowF_nil _ _ _ _, by simp [Value.ownBlock]⟩, Newer.alloc _ _, by simp⟩
    have H1 := Lib.hid h1
    have HB := Lib.hid hb
    rw [hw0, hb]
    clear hw0 h1 hb
    simp only [undef]
    go_loopw [13] (fun i wr => ∃ k : Nat, i = .int .i64 k ∧ k ≤ n ∧ Lib.IsBuilderF 134 5 b b (Lib.byteCells ((l.take k).flatMap pairL)) wr ∧ Newer w wr ∧ b ≤ wr.heap.size) (fun i _ => n - (intOf i).toNat)
    case atStart => exact ⟨0, rfl, Nat.zero_le _, H1.out.1, H1.out.2.1, H1.out.2.2⟩
    case round =>
      obtain ⟨k, rfl, hk, hbd, hnw, hz⟩ := hrel
      have HW := Lib.hid (And.intro hbd (And.intro hnw hz))
      clear hbd hnw hz
      by_cases hlt : k < n
      · obtain ⟨A, rfl, hc⟩ := HX.out k (by rw [HN.out]; exact hlt)
        have hc1 : wr.cell? (A.add k) = some (byteV (l[k]'(by rw [HN.out]; exact hlt))) := newer_cell hc HW.out.2.1
        clear hc
        obtain ⟨c, hce⟩ : ∃ c, c = l[k]'(by rw [HN.out]; exact hlt) := ⟨_, rfl⟩
        rw [← hce] at hc1
        have HC := Lib.hid hce
        clear hce
        unfold byteV at hc1
        go_wp2_with fail
        refine (pair_any c _).mono ?_
        rintro e w1 ⟨rfl, n1⟩
        have H2 := Lib.hid (And.intro (builder_newer HW.out.1 n1) (HW.out.2.1.trans n1))
        have hz1 : b ≤ w1.heap.size := Nat.le_trans HW.out.2.2 n1.size
        have hlen : ((l.take k).flatMap pairL).length ≤ 2 * k := flat_len pairL (fun c => by simp [pairL]) _ _ (by simp; omega)
        clear n1 hc1
        go_wp2_with fail
        refine (writeString_any b b _ _ _ H2.out.1 (by rw [Lib.byteCells_length]; have hs2 : (ByteArray.mk (pairL c).toArray).size ≤ 2 := (by show (pairL c).toArray.size ≤ 2; simp [pairL]); omega) hz1).mono ?_
        rintro e w2 ⟨rfl, hb2, hbel⟩
        have H3 : Hid (Lib.IsBuilderF 134 5 b b (Lib.byteCells ((l.take (k + 1)).flatMap pairL)) w2 ∧ Newer w w2 ∧ b ≤ w2.heap.size) := by
          refine Lib.hid ⟨.inr ?_, H2.out.2.trans2 hbel (Nat.le_of_eq HB.out), Nat.le_trans hz1 hbel.size⟩
          have e1 : l.take (k + 1) = l.take k ++ [c] := by rw [List.take_succ_eq_append_getElem (by rw [HN.out]; exact hlt), HC.out]
          rw [e1, List.flatMap_append, Lib.byteCells_append]
          rw [Lib.strCells_eq] at hb2
          simpa using hb2
        clear hb2 hbel hlen
        go_wp2_with fail
        go_roundw
        case rel => exact ⟨k + 1, by go_num, by omega, H3.out⟩
        case measure => simp [intOf]; omega
      · obtain rfl : k = n := by omega
        go_wp2_with fail
        refine (Tryz.Builder_String_any_f b b _ _ HW.out.1 HW.out.2.2).mono ?_
        rintro e w2 ⟨rfl, -, hbel⟩
        have H3 := Lib.hid (HW.out.2.1.trans2 hbel (Nat.le_of_eq HB.out))
        clear hbel
        go_wp2_with fail
        go_ret
        refine ⟨?_, H3.out⟩
        rw [HE.out, List.take_of_length_le (by rw [HN.out]; exact Nat.le_refl _)]
        rfl

set_option maxRecDepth 100000 in
set_option maxHeartbeats 1600000 in
theorem listedM (v : Value) (l : List Bool) (hl : l.length ≤ 1000000) (w : World) (hs : SliceM w v l) :
    Calls Tryz.prog 74 #[v, .func (.func 75) #[] #[]] w fun e w' => e = .returned (.string ⟨(dotsL l).toArray⟩) ∧ Newer w w' := by
  obtain ⟨p, cap, rfl, hx⟩ := hs
  have HX := Lib.hid hx
  have eg : ∀ args w, (callFunc 75 args).run Tryz.prog w = .ok (.enter 75 args) w := fun _ _ => by kernel_rfl
  obtain ⟨n, hn⟩ : ∃ n, l.length = n := ⟨_, rfl⟩
  have HN := Lib.hid hn
  rw [hn] at hl ⊢
  clear hx hn
  by_cases h0 : n = 0
  · subst h0
    go_enter Tryz.func74, Tryz.ntmps74
    go_wp2_with fail
    go_ret
    have : l = [] := by simpa using HN.out
    subst this
    exact ⟨rfl, Newer.refl _⟩
  · have h0' : ((n : Int) == 0) = false := by simpa using h0
    have hne : dotsL l = l.flatMap dotL := by
      unfold dotsL
      rw [if_neg (by intro h; rw [h] at HN; have := HN.out; simp at this; omega)]
      exact map_dot l
    have HE := Lib.hid hne
    clear hne h0
    go_enter Tryz.func74, Tryz.ntmps74
    go_wp2_with fail
    obtain ⟨b, hb⟩ : ∃ b, w.heap.size = b := ⟨_, rfl⟩
    obtain ⟨w0, hw0⟩ : ∃ w0, w.alloc (.cells #[.pointer none, .slice none 0 0] 134) = w0 := ⟨_, rfl⟩
    have h1 : Lib.IsBuilderF 134 5 b b [] w0 ∧ Newer w w0 ∧ b ≤ w0.heap.size := by
      subst hw0 hb
      exact ⟨.inl ⟨Nat.le_refl _, _, World.alloc_heap_new w _, World.ownsRowF_nil _ _ _ _, by simp [Value.ownBlock]⟩, Newer.alloc _ _, by simp⟩
    have H1 := Lib.hid h1
    have HB := Lib.hid hb
    rw [hw0, hb]
    clear hw0 h1 hb
    simp only [undef]
    go_loopw [13] (fun i wr => ∃ k : Nat, i = .int .i64 k ∧ k ≤ n ∧ Lib.IsBuilderF 134 5 b b (Lib.byteCells ((l.take k).flatMap dotL)) wr ∧ Newer w wr ∧ b ≤ wr.heap.size) (fun i _ => n - (intOf i).toNat)
    case atStart => exact ⟨0, rfl, Nat.zero_le _, H1.out.1, H1.out.2.1, H1.out.2.2⟩
    case round =>
      obtain ⟨k, rfl, hk, hbd, hnw, hz⟩ := hrel
      have HW := Lib.hid (And.intro hbd (And.intro hnw hz))
      clear hbd hnw hz
      by_cases hlt : k < n
      · obtain ⟨A, rfl, hc⟩ := HX.out k (by rw [HN.out]; exact hlt)
        have hc1 : wr.cell? (A.add k) = some (boolV (l[k]'(by rw [HN.out]; exact hlt))) := newer_cell hc HW.out.2.1
        clear hc
        obtain ⟨c, hce⟩ : ∃ c, c = l[k]'(by rw [HN.out]; exact hlt) := ⟨_, rfl⟩
        rw [← hce] at hc1
        have HC := Lib.hid hce
        clear hce
        unfold boolV at hc1
        go_wp2_with fail
        refine (bit_any c _).mono ?_
        rintro e w1 ⟨rfl, hw⟩
        have n1 : Newer wr w1 := hw ▸ Newer.refl wr
        clear hw
        have H2 := Lib.hid (And.intro (builder_newer HW.out.1 n1) (HW.out.2.1.trans n1))
        have hz1 : b ≤ w1.heap.size := Nat.le_trans HW.out.2.2 n1.size
        have hlen : ((l.take k).flatMap dotL).length ≤ 2 * k := flat_len dotL (fun c => by simp [dotL]) _ _ (by simp; omega)
        clear n1 hc1
        go_wp2_with fail
        refine (writeString_any b b _ _ _ H2.out.1 (by rw [Lib.byteCells_length]; have hs2 : (ByteArray.mk (dotL c).toArray).size ≤ 2 := (by show (dotL c).toArray.size ≤ 2; simp [dotL]); omega) hz1).mono ?_
        rintro e w2 ⟨rfl, hb2, hbel⟩
        have H3 : Hid (Lib.IsBuilderF 134 5 b b (Lib.byteCells ((l.take (k + 1)).flatMap dotL)) w2 ∧ Newer w w2 ∧ b ≤ w2.heap.size) := by
          refine Lib.hid ⟨.inr ?_, H2.out.2.trans2 hbel (Nat.le_of_eq HB.out), Nat.le_trans hz1 hbel.size⟩
          have e1 : l.take (k + 1) = l.take k ++ [c] := by rw [List.take_succ_eq_append_getElem (by rw [HN.out]; exact hlt), HC.out]
          rw [e1, List.flatMap_append, Lib.byteCells_append]
          rw [Lib.strCells_eq] at hb2
          simpa using hb2
        clear hb2 hbel hlen
        go_wp2_with fail
        go_roundw
        case rel => exact ⟨k + 1, by go_num, by omega, H3.out⟩
        case measure => simp [intOf]; omega
      · obtain rfl : k = n := by omega
        go_wp2_with fail
        refine (Tryz.Builder_String_any_f b b _ _ HW.out.1 HW.out.2.2).mono ?_
        rintro e w2 ⟨rfl, -, hbel⟩
        have H3 := Lib.hid (HW.out.2.1.trans2 hbel (Nat.le_of_eq HB.out))
        clear hbel
        go_wp2_with fail
        go_ret
        refine ⟨?_, H3.out⟩
        rw [HE.out, List.take_of_length_le (by rw [HN.out]; exact Nat.le_refl _)]
        rfl

end Go.Proofs.YtgdaaafejfjilaaGreatDoor
