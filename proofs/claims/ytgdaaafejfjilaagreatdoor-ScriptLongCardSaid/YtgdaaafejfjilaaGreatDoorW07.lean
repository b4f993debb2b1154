/- contracts of package script: marks -/
import Derived.Test.YtgdaaafejfjilaaGreatDoorW06
import Derived.Laws.RangeAny
namespace Go.Proofs.YtgdaaafejfjilaaGreatDoor
open Go.RowKit
attribute [local go_sem] Oper.semAt_some undef

theorem Tryz.info4 : (Tryz.prog.info? 4).map (fun i => (i.zero, i.size, i.bytes)) = some (some (.bool false), 1, 1) := by kernel_rfl
theorem Tryz.info157 : (Tryz.prog.info? 157).map (fun i => (i.zero, i.size)) = some (some (.agg (Array.replicate 256 (.bool false))), 256) := by kernel_rfl

/-- a step of a range over a string, its iterator at r -/
theorem next_at {P : Program} (W : World) (r : Nat) (s : ByteArray) (pos : Nat) (ty : TypeId) (hr : W.heap[r]? = some (.stringIter s pos)) (h : pos < s.size) (ha : (s[pos]'h).toNat < 128) :
    (Instr.next (.pointer (some ⟨r, 0, none⟩)) true ty).run P W = .ok (.tuple #[.bool true, .int .i64 pos, .int .i32 (s[pos]'h).toNat]) (W.putObj r (.stringIter s (pos + 1))) := by
  simp only [Instr.next, getObj, setObj, Sem.run_bind, Sem.run, hr, Result.andThen, h, if_true, decode_ascii s pos h ha]
  simp [goInt, World.putObj]
theorem next_end {P : Program} (W : World) (r : Nat) (s : ByteArray) (pos : Nat) (ty : TypeId) (hr : W.heap[r]? = some (.stringIter s pos)) (h : ¬ pos < s.size) :
    (Instr.next (.pointer (some ⟨r, 0, none⟩)) true ty).run P W = .ok (.tuple #[.bool false]) W := by
  simp [Instr.next, getObj, Sem.run, hr, h]

theorem trimS_nil (s : Bs) : Lib.trimS s [48, 49] = [] ↔ ∀ c ∈ s, c = 48 ∨ c = 49 := by
  have hm : ∀ c : UInt8, ([48, 49] : Bs).contains c = true ↔ c = 48 ∨ c = 49 := fun c => by simp
  have dw : ∀ l : Bs, l.dropWhile (([48, 49] : Bs).contains ·) = [] ↔ ∀ c ∈ l, c = 48 ∨ c = 49 := by
    intro l
    induction l with
    | nil => simp
    | cons a l ih =>
      rw [List.dropWhile_cons]
      by_cases h : ([48, 49] : Bs).contains a = true
      · rw [if_pos h, ih]
        have := (hm a).1 h
        simp [this]
      · rw [if_neg h]
        have h' : ¬ (a = 48 ∨ a = 49) := fun hc => h ((hm a).2 hc)
        simp [h']
  unfold Lib.trimS Lib.trimLeftS Lib.trimRightS
  rw [dw]
  constructor
  · intro h
    have h1 : ∀ c ∈ s.reverse.dropWhile (([48, 49] : Bs).contains ·), c = 48 ∨ c = 49 := fun c hc => h c (by simpa using hc)
    have h2 : s.reverse.dropWhile (([48, 49] : Bs).contains ·) = [] := by
      cases hd : s.reverse.dropWhile (([48, 49] : Bs).contains ·) with
      | nil => rfl
      | cons a l =>
        have := List.head_dropWhile_not (([48, 49] : Bs).contains ·) (l := s.reverse) (by rw [hd]; simp)
        simp only [hd, List.head_cons] at this
        have h3 := h1 a (by rw [hd]; simp)
        rw [(hm a).2 h3] at this
        cases this
    intro c hc
    exact (dw _).1 h2 c (by simpa using hc)
  · intro h c hc
    have h2 : s.reverse.dropWhile (([48, 49] : Bs).contains ·) = [] := (dw _).2 (fun c hc => h c (by simpa using hc))
    rw [h2] at hc
    simp at hc

theorem trim_any (s : Bs) (hs : s.length ≤ 100000) (w : World) :
    Calls Tryz.prog 90 #[.string ⟨s.toArray⟩, .string ⟨([48, 49] : Bs).toArray⟩] w fun e w' => e = .returned (.string ⟨(Lib.trimS s [48, 49]).toArray⟩) ∧ Newer w w' :=
  (Any.strings_Trim_laid Tryz.lays160 Tryz.info157 ⟨s.toArray⟩ ⟨([48, 49] : Bs).toArray⟩ w (by show s.toArray.size ≤ _; simp; omega) (by decide) (by
    intro j b hj
    match j, hj with
    | 0, hj => simp at hj; subst hj; decide
    | 1, hj => simp at hj; subst hj; decide)).mono (by
      rintro e w' ⟨rfl, hb⟩
      exact ⟨by simp, Newer.of hb⟩)

theorem marks_dash (w : World) : Calls Tryz.prog 72 #[.string ⟨([45] : Bs).toArray⟩] w fun e w' => e = .returned (.slice none 0 0) ∧ w = w' := by
  go_enter Tryz.func72, Tryz.ntmps72
  go_wp2
  go_ret
  exact ⟨rfl, rfl⟩

set_option maxRecDepth 100000 in
set_option maxHeartbeats 800000 in
theorem marks_bad (s : Bs) (hs : s.length ≤ 100000) (hd : s ≠ [45]) (h : ¬ (1 ≤ s.length ∧ s.length ≤ 60 ∧ ∀ c ∈ s, c = 48 ∨ c = 49)) (w : World) :
    Calls Tryz.prog 72 #[.string ⟨s.toArray⟩] w fun e w' => e = .panicked (gaveUp 380) ∧ Newer w w' := by
  have hb : (s == [45]) = false := by simpa using hd
  obtain ⟨n, hn⟩ : ∃ n, s.length = n := ⟨_, rfl⟩
  clear hd
  by_cases h0 : 1 ≤ n
  · by_cases h6 : n ≤ 60
    · have ht : (Lib.trimS s [48, 49] == []) = false := by
        have : ¬ Lib.trimS s [48, 49] = [] := fun hc => h ⟨by omega, by omega, (trimS_nil s).1 hc⟩
        simpa using this
      have HS := Lib.hid hs
      have HT := Lib.hid ht
      clear h hs ht
      go_enter Tryz.func72, Tryz.ntmps72
      go_wp2_with fail
      refine (trim_any s HS.out _).mono ?_
      rintro e w1 ⟨rfl, n1⟩
      have ht := HT.out
      generalize Lib.trimS s [48, 49] = t at *
      have N1 := Lib.hid n1
      clear n1 HT
      go_wp2_with fail
      refine (must_f _ _).mono ?_
      rintro e w' ⟨rfl, rfl⟩
      go_wp2
      exact ⟨rfl, rfl, N1.out⟩
    · clear h
      go_enter Tryz.func72, Tryz.ntmps72
      go_wp2_with fail
      refine (must_f _ _).mono ?_
      rintro e w' ⟨rfl, rfl⟩
      go_wp2
      exact ⟨rfl, rfl, Newer.refl _⟩
  · obtain rfl : n = 0 := by omega
    obtain rfl : s = [] := by simpa using hn
    clear h hb hn
    go_enter Tryz.func72, Tryz.ntmps72
    go_wp2_with fail
    refine (must_f _ _).mono ?_
    rintro e w' ⟨rfl, rfl⟩
    go_wp2
    exact ⟨rfl, rfl, Newer.refl _⟩

theorem row_base {w : World} {b b' : Nat} {e : TypeId} {size : Nat} {v : Value} {n : Nat} {xs : List Value} (h : w.ownsRow b e size v n xs) (hb : b' ≤ b) : w.ownsRow b' e size v n xs := by
  refine ⟨h.1, ?_⟩
  rcases h.2 with hh | ⟨g, cap, cur, rfl, h1, rest⟩
  · exact .inl hh
  · exact .inr ⟨g, cap, cur, rfl, by omega, rest⟩

/-- what a mark is -/
def markV (c : UInt8) : Value := .bool (c == 49)

set_option maxRecDepth 100000 in
set_option maxHeartbeats 1600000 in
theorem marks_ok (s : Bs) (h0 : 1 ≤ s.length) (h6 : s.length ≤ 60) (hd : s ≠ [45]) (h : ∀ c ∈ s, c = 48 ∨ c = 49) (w : World) :
    Calls Tryz.prog 72 #[.string ⟨s.toArray⟩] w fun e w' => ∃ v, e = .returned v ∧ w'.ownsRow w.heap.size 4 1 v s.length (s.map markV) ∧ Newer w w' := by
  obtain ⟨i0, hi, hz0, hz1, hz2⟩ := info_parts Tryz.info4
  have hb : (s == [45]) = false := by simpa using hd
  obtain ⟨n, hn⟩ : ∃ n, s.length = n := ⟨_, rfl⟩
  have ht : Lib.trimS s [48, 49] = [] := (trimS_nil s).2 h
  have HT := Lib.hid ht
  have HA := Lib.hid h
  rw [hn] at h0 h6
  have hl1 : decide (1 ≤ (n : Int)) = true := by simp; omega
  have hl2 : decide ((n : Int) ≤ 60) = true := by simp; omega
  clear hd h ht
  go_enter Tryz.func72, Tryz.ntmps72
  go_wp2_with fail
  refine (trim_any s (by omega) _).mono ?_
  rintro e w1 ⟨rfl, n1⟩
  rw [HT.out]
  have N1 := Lib.hid n1
  clear n1 HT
  go_wp2_with fail
  refine (must_t _ _).mono ?_
  rintro e w' ⟨rfl, rfl⟩
  go_wp2_with fail
  have hsz : (ByteArray.mk s.toArray).size = n := by show s.toArray.size = n; simp [hn]
  obtain ⟨r, hr⟩ : ∃ r, w1.heap.size = r := ⟨_, rfl⟩
  have hw : w.heap.size ≤ r := hr ▸ N1.out.size
  have h1 : (w1.iter ⟨s.toArray⟩ 0).heap[r]? = some (.stringIter ⟨s.toArray⟩ 0) ∧ Newer w (w1.iter ⟨s.toArray⟩ 0) ∧ (w1.iter ⟨s.toArray⟩ 0).heap.size = r + 1 := by
    subst hr
    exact ⟨World.iter_heap _ _ _, N1.out.trans (Newer.alloc _ _), by simp [World.iter]⟩
  have H1 := Lib.hid h1
  have HS := Lib.hid hsz
  rw [hr]
  clear h1 hr hsz
  generalize w1.iter ⟨s.toArray⟩ 0 = w2 at *
  go_loopw [2] (fun v wr => ∃ j : Nat, j ≤ n ∧ wr.heap[r]? = some (.stringIter ⟨s.toArray⟩ j) ∧ wr.ownsRow (r + 1) 4 1 v j ((s.take j).map markV) ∧ Newer w wr) (fun _ wr => n - wr.iterPos r)
  case atStart => exact ⟨0, Nat.zero_le _, H1.out.1, World.ownsRow_nil _ _ _ _, H1.out.2.1⟩
  case round =>
    obtain ⟨j, hj, hit, hrow, hnw⟩ := hrel
    obtain ⟨va, vc, rfl⟩ := ownsRow_slice hrow
    have hlr : r < wr.heap.size := (Array.getElem?_eq_some_iff.1 hit).1
    have HI := Lib.hid hit
    have HR := Lib.hid hrow
    have HN := Lib.hid hnw
    clear hrow hnw
    by_cases hlt : j < n
    · obtain ⟨c, hc⟩ : ∃ c, c = s[j]'(by omega) := ⟨_, rfl⟩
      have hcm := HA.out c (by rw [hc]; exact List.getElem_mem _)
      have hlt' : j < (ByteArray.mk s.toArray).size := by rw [HS.out]; exact hlt
      have hget : (ByteArray.mk s.toArray)[j]'hlt' = c := by rw [hc]; rfl
      have hnx : ∀ ty, (Instr.next (.pointer (some ⟨r, 0, none⟩)) true ty).run Tryz.prog wr = .ok (.tuple #[.bool true, .int .i64 j, .int .i32 c.toNat]) (wr.putObj r (.stringIter ⟨s.toArray⟩ (j + 1))) := fun ty => by
        have := next_at (P := Tryz.prog) wr r ⟨s.toArray⟩ j ty hit hlt' (by rw [hget]; rcases hcm with rfl | rfl <;> decide)
        rw [hget] at this
        exact this
      have hbit : ((c.toNat : Int) == 49) = (c == 49) := by rcases hcm with h | h <;> rw [h] <;> decide
      have HB := Lib.hid hbit
      have HC := Lib.hid hc
      obtain ⟨W2, hW2⟩ : ∃ W2, wr.putObj r (.stringIter ⟨s.toArray⟩ (j + 1)) = W2 := ⟨_, rfl⟩
      have hg2 : Grow (fun k => k = r) wr W2 := hW2 ▸ Grow.putObj wr r _ rfl
      have hi2 : W2.heap[r]? = some (.stringIter ⟨s.toArray⟩ (j + 1)) := hW2 ▸ World.putObj_heap_same hlr
      have hr2 := ownsRow_grow HR.out hg2 (fun k hk => by have := (HR.out.lt k hk).1; omega)
      have hz2' : r < W2.heap.size := (Array.getElem?_eq_some_iff.1 hi2).1
      rw [hW2] at hnx
      have G2 := Lib.hid (And.intro hi2 (And.intro hr2 (Grow.trans HN.out (hg2.mono (fun k h => by have h : k = r := h; show w.heap.size ≤ k; omega)))))
      have HIT := HI
      clear hit hc hcm hlt' hget hbit hW2 hg2 hi2 hr2 HI
      go_wp2_with (at_builtin; refine wpList_append_own _ rfl _ _ 27 rfl (r + 1) 4 i0 (.bool false) 1 1 Tryz.underlying27 hi hz0 hz1 hz2 rfl (by decide) _ _ _ rfl (G2.out.2.1.alloc _) ⟨W2.heap.size, 0, none⟩ 1 1 [.bool ((c.toNat : Int) == 49)] rfl rfl (cells_one _ _ _ (by go_simp)) (by intro u hu; simp at hu; subst hu; rfl) (by unfold maxLen; omega) (by omega) (by simp; omega) ?_; intro v' w4 hown' hgrow _)
      rw [HB.out, show Value.bool (c == 49) = markV s[j] by rw [← HC.out]; rfl, take_map markV s j (by omega)] at hown'
      have hg4 : Grow (fun k => r < k) W2 w4 := Grow.trans (Grow.alloc _ _ _) ⟨hgrow.os, hgrow.tape, hgrow.output, hgrow.size, fun k hk hno => hgrow.block k hk (fun h => hno (by have := (G2.out.2.1.lt k h.symm).1; show r < k; omega))⟩
      have H4 := Lib.hid (And.intro ((hg4.block r hz2' (fun h => Nat.lt_irrefl r h)).trans G2.out.1) (And.intro hown' (Grow.trans G2.out.2.2 (hg4.mono (fun k h => by have h : r < k := h; show w.heap.size ≤ k; omega)))))
      have hp1 : w4.iterPos r = j + 1 := by unfold World.iterPos; rw [H4.out.1]
      have hp0 : wr.iterPos r = j := by unfold World.iterPos; rw [HIT.out]
      have HP := Lib.hid (And.intro hp1 hp0)
      clear hown' hgrow hg4 hnx hp1 hp0
      go_wp2_with fail
      go_roundw
      case rel => exact ⟨j + 1, by omega, H4.out⟩
      case measure => rw [HP.out.1, HP.out.2]; omega
    · obtain rfl : j = n := by omega
      have hnx : ∀ ty, (Instr.next (.pointer (some ⟨r, 0, none⟩)) true ty).run Tryz.prog wr = .ok (.tuple #[.bool false]) wr := fun ty => next_end wr r _ j ty hit (by rw [HS.out]; omega)
      clear hit
      go_wp2_with fail
      go_ret
      refine ⟨_, rfl, ?_, HN.out⟩
      have := HR.out
      rw [List.take_of_length_le (by omega)] at this
      rw [hn]
      exact row_base this (by omega)

theorem SliceM.own {w : World} {base : Nat} {v : Value} {n : Nat} {l : List Bool} (hn : l.length = n) (h : w.ownsRow base 4 1 v n (l.map boolV)) : SliceM w v l := by
  obtain ⟨p, cap, rfl⟩ := ownsRow_slice h
  refine ⟨p, cap, by rw [hn], fun j hj => ?_⟩
  rcases h.2 with ⟨_, h0⟩ | ⟨g, cap', cur, hv, _⟩
  · exact absurd hj (by omega)
  · simp only [Value.slice.injEq] at hv
    obtain ⟨rfl, -, -⟩ := hv
    refine ⟨_, rfl, ?_⟩
    have := h.cellAt j (by omega)
    rw [List.getElem?_map, List.getElem?_eq_getElem hj] at this
    rw [show (Addr.mk g 0 none).add j = ⟨g, j, none⟩ by unfold Addr.add; by_cases h0 : j = 0 <;> simp [h0]]
    exact this

/-- what the marks of a word are -/
theorem marksL_ok (s : Bs) (out : List Bool) (h : marksL s = some out) (w : World) :
    Calls Tryz.prog 72 #[.string ⟨s.toArray⟩] w fun e w' => ∃ v, e = .returned v ∧ SliceM w' v out ∧ Off (fun k => k < w.heap.size) v ∧ Newer w w' := by
  unfold marksL at h
  split at h
  · rename_i hd
    subst hd
    simp only [Option.some.injEq] at h
    subst h
    exact (marks_dash w).mono (by rintro e w' ⟨rfl, rfl⟩; exact ⟨_, rfl, SliceM.nil _, Off.nil _, Newer.refl _⟩)
  · rename_i hd
    split at h
    · rename_i hc
      unfold bitsL at h
      split at h
      · rename_i hb
        simp only [Option.some.injEq] at h
        subst h
        refine (marks_ok s hc.1 hc.2 hd hb w).mono ?_
        rintro e w' ⟨v, rfl, hr, hn⟩
        exact ⟨v, rfl, SliceM.own (n := s.length) (by simp) (by rw [List.map_map]; exact hr), Off.own hr, hn⟩
      · cases h
    · cases h
theorem marksL_bad (s : Bs) (hs : s.length ≤ 100000) (h : marksL s = none) (w : World) :
    Calls Tryz.prog 72 #[.string ⟨s.toArray⟩] w fun e w' => e = .panicked (gaveUp 380) ∧ Newer w w' := by
  unfold marksL at h
  split at h
  · cases h
  · rename_i hd
    refine marks_bad s hs hd ?_ w
    rintro ⟨h1, h2, h3⟩
    rw [if_pos ⟨h1, h2⟩] at h
    unfold bitsL at h
    rw [if_pos h3] at h
    cases h

end Go.Proofs.YtgdaaafejfjilaaGreatDoor

/- acts in memory -/
namespace Go.Proofs.YtgdaaafejfjilaaGreatDoor
open Go.RowKit

/-- the act at block b; its slices lie outside K -/
structure ActAt (w : World) (K : Nat → Prop) (b : Nat) (a : ActL) : Prop where
  c0 : w.cell? ⟨b, 0, none⟩ = some (.int .i64 a.kind)
  c1 : w.cell? ⟨b, 1, none⟩ = some (.int .i64 a.thread)
  c2 : w.cell? ⟨b, 2, none⟩ = some (.int .i64 a.n)
  c3 : w.cell? ⟨b, 3, none⟩ = some (.int .i64 a.okind)
  c4 : w.cell? ⟨b, 4, none⟩ = some (.string ⟨(a.path).toArray⟩)
  c5 : w.cell? ⟨b, 5, none⟩ = some (.string ⟨(a.dest).toArray⟩)
  c6 : w.cell? ⟨b, 6, none⟩ = some (.int .i64 a.at_)
  c7 : w.cell? ⟨b, 7, none⟩ = some (.int .i64 a.on)
  c8 : ∃ v, w.cell? ⟨b, 8, none⟩ = some v ∧ SliceB w v a.bytes ∧ Off K v
  c9 : ∃ v, w.cell? ⟨b, 9, none⟩ = some v ∧ SliceM w v a.marks ∧ Off K v
  f : ∀ k, w.frozen? ⟨b, k, none⟩ = false
  kb : K b

theorem SliceB.grow {own : Nat → Prop} {w W : World} {v : Value} {l : Bs} (h : SliceB w v l) (g : Grow own w W) (ho : ∀ A n c, v = .slice (some A) n c → A.block < w.heap.size → ¬ own A.block) : SliceB W v l := by
  obtain ⟨p, cap, rfl, h⟩ := h
  refine ⟨p, cap, rfl, fun j hj => ?_⟩
  obtain ⟨A, rfl, hc⟩ := h j hj
  have hb : (A.add j).block = A.block := by unfold Addr.add; split <;> rfl
  have hl := World.block_lt_of_cell? _ _ hc
  exact ⟨A, rfl, (g.cell hl (by rw [hb]; exact ho A _ _ rfl (by rw [← hb]; exact hl))).trans hc⟩
theorem SliceM.grow {own : Nat → Prop} {w W : World} {v : Value} {l : List Bool} (h : SliceM w v l) (g : Grow own w W) (ho : ∀ A n c, v = .slice (some A) n c → A.block < w.heap.size → ¬ own A.block) : SliceM W v l := by
  obtain ⟨p, cap, rfl, h⟩ := h
  refine ⟨p, cap, rfl, fun j hj => ?_⟩
  obtain ⟨A, rfl, hc⟩ := h j hj
  have hb : (A.add j).block = A.block := by unfold Addr.add; split <;> rfl
  have hl := World.block_lt_of_cell? _ _ hc
  exact ⟨A, rfl, (g.cell hl (by rw [hb]; exact ho A _ _ rfl (by rw [← hb]; exact hl))).trans hc⟩

theorem ActAt.lt {w : World} {K : Nat → Prop} {b : Nat} {a : ActL} (h : ActAt w K b a) : b < w.heap.size := by
  have := World.block_lt_of_cell? _ _ h.c0
  simpa using this

theorem ActAt.grow {own K : Nat → Prop} {w W : World} {b : Nat} {a : ActL} (h : ActAt w K b a) (g : Grow own w W) (hb : ¬ own b) (ho : ∀ k, own k → K k ∨ w.heap.size ≤ k) : ActAt W K b a := by
  have c : ∀ o, W.cell? ⟨b, o, none⟩ = w.cell? ⟨b, o, none⟩ := fun o => g.cell (p := ⟨b, o, none⟩) h.lt hb
  have ho' : ∀ v, Off K v → ∀ A n c, v = .slice (some A) n c → A.block < w.heap.size → ¬ own A.block := fun v hv A n c he hl hw => by
    rcases ho _ hw with h1 | h1
    · exact hv A n c he h1
    · omega
  obtain ⟨v8, e8, s8, o8⟩ := h.c8
  obtain ⟨v9, e9, s9, o9⟩ := h.c9
  exact ⟨(c 0).trans h.c0, (c 1).trans h.c1, (c 2).trans h.c2, (c 3).trans h.c3, (c 4).trans h.c4, (c 5).trans h.c5, (c 6).trans h.c6, (c 7).trans h.c7, ⟨v8, (c 8).trans e8, s8.grow g (ho' _ o8), o8⟩, ⟨v9, (c 9).trans e9, s9.grow g (ho' _ o9), o9⟩,
    fun k => (g.frozen (p := ⟨b, k, none⟩) h.lt hb).trans (h.f k), h.kb⟩
theorem ActAt.newer {K : Nat → Prop} {w W : World} {b : Nat} {a : ActL} (h : ActAt w K b a) (g : Newer w W) : ActAt W K b a :=
  h.grow g (fun h' => by have h' : w.heap.size ≤ b := h'; have := h.lt; omega) (fun _ h => .inr h)

/-- a store into another cell of the act's own block -/
theorem cell_put {w : World} {b o o' : Nat} {x v : Value} (h : w.cell? ⟨b, o, none⟩ = some v) (hne : o' ≠ o) : (w.setCell ⟨b, o', none⟩ x).cell? ⟨b, o, none⟩ = some v := by
  rw [World.cell?_setCell_other]
  · exact h
  · intro e; injection e with _ e; exact hne e
theorem SliceB.put {w : World} {K : Nat → Prop} {b o : Nat} {x v : Value} {l : Bs} (h : SliceB w v l) (hk : K b) (ho : Off K v) : SliceB (w.setCell ⟨b, o, none⟩ x) v l :=
  h.grow (Grow.setCell (own := fun k => k = b) w _ x rfl) (fun A n c e _ h' => ho A n c e (by have h' : A.block = b := h'; rw [h']; exact hk))
theorem SliceM.put {w : World} {K : Nat → Prop} {b o : Nat} {x v : Value} {l : List Bool} (h : SliceM w v l) (hk : K b) (ho : Off K v) : SliceM (w.setCell ⟨b, o, none⟩ x) v l :=
  h.grow (Grow.setCell (own := fun k => k = b) w _ x rfl) (fun A n c e _ h' => ho A n c e (by have h' : A.block = b := h'; rw [h']; exact hk))
theorem ActAt.set_kind {w : World} {K : Nat → Prop} {b : Nat} {a : ActL} (h : ActAt w K b a) (x : Int) : ActAt (w.setCell ⟨b, 0, none⟩ (.int .i64 x)) K b { a with kind := x } :=
  ⟨World.cell?_setCell_same _ _ _ h.c0, cell_put h.c1 (by decide), cell_put h.c2 (by decide), cell_put h.c3 (by decide), cell_put h.c4 (by decide), cell_put h.c5 (by decide), cell_put h.c6 (by decide), cell_put h.c7 (by decide), (let ⟨v, e, s, t⟩ := h.c8; ⟨v, cell_put e (by decide), s.put h.kb t, t⟩), (let ⟨v, e, s, t⟩ := h.c9; ⟨v, cell_put e (by decide), s.put h.kb t, t⟩), fun k => (World.frozen?_setCell _ _ _ _).trans (h.f k), h.kb⟩
theorem ActAt.set_thread {w : World} {K : Nat → Prop} {b : Nat} {a : ActL} (h : ActAt w K b a) (x : Int) : ActAt (w.setCell ⟨b, 1, none⟩ (.int .i64 x)) K b { a with thread := x } :=
  ⟨cell_put h.c0 (by decide), World.cell?_setCell_same _ _ _ h.c1, cell_put h.c2 (by decide), cell_put h.c3 (by decide), cell_put h.c4 (by decide), cell_put h.c5 (by decide), cell_put h.c6 (by decide), cell_put h.c7 (by decide), (let ⟨v, e, s, t⟩ := h.c8; ⟨v, cell_put e (by decide), s.put h.kb t, t⟩), (let ⟨v, e, s, t⟩ := h.c9; ⟨v, cell_put e (by decide), s.put h.kb t, t⟩), fun k => (World.frozen?_setCell _ _ _ _).trans (h.f k), h.kb⟩
theorem ActAt.set_n {w : World} {K : Nat → Prop} {b : Nat} {a : ActL} (h : ActAt w K b a) (x : Int) : ActAt (w.setCell ⟨b, 2, none⟩ (.int .i64 x)) K b { a with n := x } :=
  ⟨cell_put h.c0 (by decide), cell_put h.c1 (by decide), World.cell?_setCell_same _ _ _ h.c2, cell_put h.c3 (by decide), cell_put h.c4 (by decide), cell_put h.c5 (by decide), cell_put h.c6 (by decide), cell_put h.c7 (by decide), (let ⟨v, e, s, t⟩ := h.c8; ⟨v, cell_put e (by decide), s.put h.kb t, t⟩), (let ⟨v, e, s, t⟩ := h.c9; ⟨v, cell_put e (by decide), s.put h.kb t, t⟩), fun k => (World.frozen?_setCell _ _ _ _).trans (h.f k), h.kb⟩
theorem ActAt.set_okind {w : World} {K : Nat → Prop} {b : Nat} {a : ActL} (h : ActAt w K b a) (x : Int) : ActAt (w.setCell ⟨b, 3, none⟩ (.int .i64 x)) K b { a with okind := x } :=
  ⟨cell_put h.c0 (by decide), cell_put h.c1 (by decide), cell_put h.c2 (by decide), World.cell?_setCell_same _ _ _ h.c3, cell_put h.c4 (by decide), cell_put h.c5 (by decide), cell_put h.c6 (by decide), cell_put h.c7 (by decide), (let ⟨v, e, s, t⟩ := h.c8; ⟨v, cell_put e (by decide), s.put h.kb t, t⟩), (let ⟨v, e, s, t⟩ := h.c9; ⟨v, cell_put e (by decide), s.put h.kb t, t⟩), fun k => (World.frozen?_setCell _ _ _ _).trans (h.f k), h.kb⟩
theorem ActAt.set_path {w : World} {K : Nat → Prop} {b : Nat} {a : ActL} (h : ActAt w K b a) (x : Bs) : ActAt (w.setCell ⟨b, 4, none⟩ (.string ⟨(x).toArray⟩)) K b { a with path := x } :=
  ⟨cell_put h.c0 (by decide), cell_put h.c1 (by decide), cell_put h.c2 (by decide), cell_put h.c3 (by decide), World.cell?_setCell_same _ _ _ h.c4, cell_put h.c5 (by decide), cell_put h.c6 (by decide), cell_put h.c7 (by decide), (let ⟨v, e, s, t⟩ := h.c8; ⟨v, cell_put e (by decide), s.put h.kb t, t⟩), (let ⟨v, e, s, t⟩ := h.c9; ⟨v, cell_put e (by decide), s.put h.kb t, t⟩), fun k => (World.frozen?_setCell _ _ _ _).trans (h.f k), h.kb⟩
theorem ActAt.set_dest {w : World} {K : Nat → Prop} {b : Nat} {a : ActL} (h : ActAt w K b a) (x : Bs) : ActAt (w.setCell ⟨b, 5, none⟩ (.string ⟨(x).toArray⟩)) K b { a with dest := x } :=
  ⟨cell_put h.c0 (by decide), cell_put h.c1 (by decide), cell_put h.c2 (by decide), cell_put h.c3 (by decide), cell_put h.c4 (by decide), World.cell?_setCell_same _ _ _ h.c5, cell_put h.c6 (by decide), cell_put h.c7 (by decide), (let ⟨v, e, s, t⟩ := h.c8; ⟨v, cell_put e (by decide), s.put h.kb t, t⟩), (let ⟨v, e, s, t⟩ := h.c9; ⟨v, cell_put e (by decide), s.put h.kb t, t⟩), fun k => (World.frozen?_setCell _ _ _ _).trans (h.f k), h.kb⟩
theorem ActAt.set_at_ {w : World} {K : Nat → Prop} {b : Nat} {a : ActL} (h : ActAt w K b a) (x : Int) : ActAt (w.setCell ⟨b, 6, none⟩ (.int .i64 x)) K b { a with at_ := x } :=
  ⟨cell_put h.c0 (by decide), cell_put h.c1 (by decide), cell_put h.c2 (by decide), cell_put h.c3 (by decide), cell_put h.c4 (by decide), cell_put h.c5 (by decide), World.cell?_setCell_same _ _ _ h.c6, cell_put h.c7 (by decide), (let ⟨v, e, s, t⟩ := h.c8; ⟨v, cell_put e (by decide), s.put h.kb t, t⟩), (let ⟨v, e, s, t⟩ := h.c9; ⟨v, cell_put e (by decide), s.put h.kb t, t⟩), fun k => (World.frozen?_setCell _ _ _ _).trans (h.f k), h.kb⟩
theorem ActAt.set_on {w : World} {K : Nat → Prop} {b : Nat} {a : ActL} (h : ActAt w K b a) (x : Int) : ActAt (w.setCell ⟨b, 7, none⟩ (.int .i64 x)) K b { a with on := x } :=
  ⟨cell_put h.c0 (by decide), cell_put h.c1 (by decide), cell_put h.c2 (by decide), cell_put h.c3 (by decide), cell_put h.c4 (by decide), cell_put h.c5 (by decide), cell_put h.c6 (by decide), World.cell?_setCell_same _ _ _ h.c7, (let ⟨v, e, s, t⟩ := h.c8; ⟨v, cell_put e (by decide), s.put h.kb t, t⟩), (let ⟨v, e, s, t⟩ := h.c9; ⟨v, cell_put e (by decide), s.put h.kb t, t⟩), fun k => (World.frozen?_setCell _ _ _ _).trans (h.f k), h.kb⟩
theorem ActAt.set_bytes {w : World} {K : Nat → Prop} {b : Nat} {a : ActL} (h : ActAt w K b a) (x : Bs) {u : Value} (hu : SliceB w u x) (hu' : Off K u) : ActAt (w.setCell ⟨b, 8, none⟩ (u)) K b { a with bytes := x } :=
  ⟨cell_put h.c0 (by decide), cell_put h.c1 (by decide), cell_put h.c2 (by decide), cell_put h.c3 (by decide), cell_put h.c4 (by decide), cell_put h.c5 (by decide), cell_put h.c6 (by decide), cell_put h.c7 (by decide), (let ⟨_, e, _, _⟩ := h.c8; ⟨u, World.cell?_setCell_same _ _ _ e, hu.put h.kb hu', hu'⟩), (let ⟨v, e, s, t⟩ := h.c9; ⟨v, cell_put e (by decide), s.put h.kb t, t⟩), fun k => (World.frozen?_setCell _ _ _ _).trans (h.f k), h.kb⟩
theorem ActAt.set_marks {w : World} {K : Nat → Prop} {b : Nat} {a : ActL} (h : ActAt w K b a) (x : List Bool) {u : Value} (hu : SliceM w u x) (hu' : Off K u) : ActAt (w.setCell ⟨b, 9, none⟩ (u)) K b { a with marks := x } :=
  ⟨cell_put h.c0 (by decide), cell_put h.c1 (by decide), cell_put h.c2 (by decide), cell_put h.c3 (by decide), cell_put h.c4 (by decide), cell_put h.c5 (by decide), cell_put h.c6 (by decide), cell_put h.c7 (by decide), (let ⟨v, e, s, t⟩ := h.c8; ⟨v, cell_put e (by decide), s.put h.kb t, t⟩), (let ⟨_, e, _, _⟩ := h.c9; ⟨u, World.cell?_setCell_same _ _ _ e, hu.put h.kb hu', hu'⟩), fun k => (World.frozen?_setCell _ _ _ _).trans (h.f k), h.kb⟩

end Go.Proofs.YtgdaaafejfjilaaGreatDoor

/- contracts of package script: the closures of the parts -/
namespace Go.Proofs.YtgdaaafejfjilaaGreatDoor
open Go.RowKit
attribute [local go_sem] Oper.semAt_some undef

/-- a function that tells the address of a field -/
def Field (g off : Nat) : Prop := (∀ args w, (callFunc g args).run Tryz.prog w = .ok (.enter g args) w) ∧ ∀ W b, Calls Tryz.prog g #[.pointer (some ⟨b, 0, none⟩)] W fun e W' => e = .returned (.pointer (some ⟨b, off, none⟩)) ∧ W = W'
theorem field59 : Field 59 1 := ⟨fun _ _ => by kernel_rfl, fun W b => by
  go_enter Tryz.func59, Tryz.ntmps59
  go_wp2
  go_ret
  exact ⟨rfl, rfl⟩⟩
theorem field60 : Field 60 2 := ⟨fun _ _ => by kernel_rfl, fun W b => by
  go_enter Tryz.func60, Tryz.ntmps60
  go_wp2
  go_ret
  exact ⟨rfl, rfl⟩⟩
theorem field61 : Field 61 6 := ⟨fun _ _ => by kernel_rfl, fun W b => by
  go_enter Tryz.func61, Tryz.ntmps61
  go_wp2
  go_ret
  exact ⟨rfl, rfl⟩⟩
theorem field62 : Field 62 7 := ⟨fun _ _ => by kernel_rfl, fun W b => by
  go_enter Tryz.func62, Tryz.ntmps62
  go_wp2
  go_ret
  exact ⟨rfl, rfl⟩⟩
theorem field64 : Field 64 4 := ⟨fun _ _ => by kernel_rfl, fun W b => by
  go_enter Tryz.func64, Tryz.ntmps64
  go_wp2
  go_ret
  exact ⟨rfl, rfl⟩⟩
theorem field65 : Field 65 5 := ⟨fun _ _ => by kernel_rfl, fun W b => by
  go_enter Tryz.func65, Tryz.ntmps65
  go_wp2
  go_ret
  exact ⟨rfl, rfl⟩⟩

section
variable (g off : Nat) (hg : Field g off) (bc b : Nat) (s : Bs) (w : World) (hc : w.cell? ⟨bc, 0, none⟩ = some (.func (.func g) #[] #[]))
include hg hc

theorem numRead_ok (v old : Int) (h : numL s = some v) (E : Env w) (ho : w.cell? ⟨b, off, none⟩ = some (.int .i64 old)) (hf : w.frozen? ⟨b, off, none⟩ = false) :
    Calls Tryz.prog 79 #[.pointer (some ⟨b, 0, none⟩), .string ⟨s.toArray⟩, .pointer (some ⟨bc, 0, none⟩)] w fun e w' => e = .returned (.tuple #[]) ∧ ∃ W1, Newer w W1 ∧ w' = W1.setCell ⟨b, off, none⟩ (.int .i64 v) := by
  have eg := hg.1
  have HG := Lib.hid hg
  have H := Lib.hid h
  have HE := Lib.hid E
  have hbl := World.block_lt_of_cell? _ _ ho
  have HB := Lib.hid hbl
  have HO := Lib.hid (And.intro ho hf)
  clear hg h E hbl ho hf
  go_enter Tryz.func79, Tryz.ntmps79
  go_wp2_with fail
  refine (HG.out.2 _ _).mono ?_
  rintro e w' ⟨rfl, rfl⟩
  go_wp2_with fail
  refine (number_ok s v H.out _ HE.out).mono ?_
  rintro e w1 ⟨rfl, n1⟩
  have ho1 := newer_cell HO.out.1 n1
  have hf1 : w1.frozen? ⟨b, off, none⟩ = false := (World.frozen?_of_block (Newer.block n1 HB.out)).trans HO.out.2
  have N1 := Lib.hid n1
  clear n1
  go_wp2
  go_end0
  exact ⟨rfl, _, N1.out, rfl⟩
theorem numRead_bad (hs : s.length ≤ 100000) (h : numL s = none) (E : Env w) :
    Calls Tryz.prog 79 #[.pointer (some ⟨b, 0, none⟩), .string ⟨s.toArray⟩, .pointer (some ⟨bc, 0, none⟩)] w fun e w' => e = .panicked (gaveUp 380) ∧ Newer w w' := by
  have eg := hg.1
  have HG := Lib.hid hg
  have H := Lib.hid h
  have HE := Lib.hid E
  clear hg h E
  go_enter Tryz.func79, Tryz.ntmps79
  go_wp2_with fail
  refine (HG.out.2 _ _).mono ?_
  rintro e w' ⟨rfl, rfl⟩
  go_wp2_with fail
  refine (number_bad s hs H.out _ HE.out).mono ?_
  rintro e w1 ⟨rfl, n1⟩
  have N1 := Lib.hid n1
  clear n1
  go_wp2
  exact ⟨rfl, rfl, N1.out⟩
theorem wayRead_ok (p old : Bs) (h : pathL s = some p) (ho : w.cell? ⟨b, off, none⟩ = some (.string ⟨old.toArray⟩)) (hf : w.frozen? ⟨b, off, none⟩ = false) :
    Calls Tryz.prog 83 #[.pointer (some ⟨b, 0, none⟩), .string ⟨s.toArray⟩, .pointer (some ⟨bc, 0, none⟩)] w fun e w' => e = .returned (.tuple #[]) ∧ w' = w.setCell ⟨b, off, none⟩ (.string ⟨p.toArray⟩) := by
  have eg := hg.1
  have HG := Lib.hid hg
  have H := Lib.hid h
  clear hg h
  go_enter Tryz.func83, Tryz.ntmps83
  go_wp2_with fail
  refine (HG.out.2 _ _).mono ?_
  rintro e w' ⟨rfl, rfl⟩
  go_wp2_with fail
  refine (path_ok s p H.out _).mono ?_
  rintro e w' ⟨rfl, rfl⟩
  go_wp2
  go_end0
  exact ⟨rfl, rfl⟩
theorem wayRead_bad (hs : s.length ≤ 100000) (h : pathL s = none) :
    Calls Tryz.prog 83 #[.pointer (some ⟨b, 0, none⟩), .string ⟨s.toArray⟩, .pointer (some ⟨bc, 0, none⟩)] w fun e w' => e = .panicked (gaveUp 380) ∧ w = w' := by
  have eg := hg.1
  have HG := Lib.hid hg
  have H := Lib.hid h
  clear hg h
  go_enter Tryz.func83, Tryz.ntmps83
  go_wp2_with fail
  refine (HG.out.2 _ _).mono ?_
  rintro e w' ⟨rfl, rfl⟩
  go_wp2_with fail
  refine (path_bad s hs H.out _).mono ?_
  rintro e w' ⟨rfl, rfl⟩
  go_wp2
  exact ⟨rfl, rfl, rfl⟩
end

section
variable (b : Nat) (s : Bs) (w : World)
theorem bytesRead_ok (l : Bs) (old : Value) (h : bytesL s = some l) (ho : w.cell? ⟨b, 8, none⟩ = some old) (hf : w.frozen? ⟨b, 8, none⟩ = false) :
    Calls Tryz.prog 66 #[.pointer (some ⟨b, 0, none⟩), .string ⟨s.toArray⟩] w fun e w' => e = .returned (.tuple #[]) ∧ ∃ W1 v, Newer w W1 ∧ SliceB W1 v l ∧ Off (fun k => k < w.heap.size) v ∧ w' = W1.setCell ⟨b, 8, none⟩ v := by
  have H := Lib.hid h
  have hbl := World.block_lt_of_cell? _ _ ho
  have HB := Lib.hid hbl
  have HO := Lib.hid (And.intro ho hf)
  clear h hbl ho hf
  go_enter Tryz.func66, Tryz.ntmps66
  go_wp2_with fail
  refine (bytesL_ok s l H.out _).mono ?_
  rintro e w1 ⟨v, rfl, hs, hoff, n1⟩
  have ho1 := newer_cell HO.out.1 n1
  have hf1 : w1.frozen? ⟨b, 8, none⟩ = false := (World.frozen?_of_block (Newer.block n1 HB.out)).trans HO.out.2
  have N1 := Lib.hid (And.intro n1 (And.intro hs hoff))
  obtain ⟨p, cap, hv, -⟩ := hs
  generalize l.length = m at hv
  subst hv
  clear n1 hoff
  go_wp2
  go_end0
  exact ⟨rfl, _, _, N1.out.1, N1.out.2.1, N1.out.2.2, rfl⟩
theorem bytesRead_bad (hs : s.length ≤ 100000) (h : bytesL s = none) :
    Calls Tryz.prog 66 #[.pointer (some ⟨b, 0, none⟩), .string ⟨s.toArray⟩] w fun e w' => e = .panicked (gaveUp 380) ∧ Newer w w' := by
  have H := Lib.hid h
  clear h
  go_enter Tryz.func66, Tryz.ntmps66
  go_wp2_with fail
  refine (bytesL_bad s hs H.out _).mono ?_
  rintro e w1 ⟨rfl, n1⟩
  have N1 := Lib.hid n1
  clear n1
  go_wp2
  exact ⟨rfl, rfl, N1.out⟩
theorem marksRead_ok (l : List Bool) (old : Value) (h : marksL s = some l) (ho : w.cell? ⟨b, 9, none⟩ = some old) (hf : w.frozen? ⟨b, 9, none⟩ = false) :
    Calls Tryz.prog 71 #[.pointer (some ⟨b, 0, none⟩), .string ⟨s.toArray⟩] w fun e w' => e = .returned (.tuple #[]) ∧ ∃ W1 v, Newer w W1 ∧ SliceM W1 v l ∧ Off (fun k => k < w.heap.size) v ∧ w' = W1.setCell ⟨b, 9, none⟩ v := by
  have H := Lib.hid h
  have hbl := World.block_lt_of_cell? _ _ ho
  have HB := Lib.hid hbl
  have HO := Lib.hid (And.intro ho hf)
  clear h hbl ho hf
  go_enter Tryz.func71, Tryz.ntmps71
  go_wp2_with fail
  refine (marksL_ok s l H.out _).mono ?_
  rintro e w1 ⟨v, rfl, hs, hoff, n1⟩
  have ho1 := newer_cell HO.out.1 n1
  have hf1 : w1.frozen? ⟨b, 9, none⟩ = false := (World.frozen?_of_block (Newer.block n1 HB.out)).trans HO.out.2
  have N1 := Lib.hid (And.intro n1 (And.intro hs hoff))
  obtain ⟨p, cap, hv, -⟩ := hs
  generalize l.length = m at hv
  subst hv
  clear n1 hoff
  go_wp2
  go_end0
  exact ⟨rfl, _, _, N1.out.1, N1.out.2.1, N1.out.2.2, rfl⟩
theorem marksRead_bad (hs : s.length ≤ 100000) (h : marksL s = none) :
    Calls Tryz.prog 71 #[.pointer (some ⟨b, 0, none⟩), .string ⟨s.toArray⟩] w fun e w' => e = .panicked (gaveUp 380) ∧ Newer w w' := by
  have H := Lib.hid h
  clear h
  go_enter Tryz.func71, Tryz.ntmps71
  go_wp2_with fail
  refine (marksL_bad s hs H.out _).mono ?_
  rintro e w1 ⟨rfl, n1⟩
  have N1 := Lib.hid n1
  clear n1
  go_wp2
  exact ⟨rfl, rfl, N1.out⟩
end

end Go.Proofs.YtgdaaafejfjilaaGreatDoor
