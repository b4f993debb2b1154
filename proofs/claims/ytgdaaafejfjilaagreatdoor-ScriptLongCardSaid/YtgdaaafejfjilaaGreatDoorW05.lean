/- contracts of package script: words read -/
import Derived.Test.YtgdaaafejfjilaaGreatDoorW01
import Derived.Test.YtgdaaafejfjilaaGreatDoorW02
import Derived.Test.YtgdaaafejfjilaaGreatDoorW03
import Derived.Test.YtgdaaafejfjilaaGreatDoorW04
import Derived.Shelf.Strings.SlTrimAscii
import Derived.Lib.SmallJoins
import Derived.Laws.StructEq
namespace Go.Proofs.YtgdaaafejfjilaaGreatDoor
open Go.RowKit
attribute [local go_sem] Oper.semAt_some undef

/-- nothing that lay in w has turned -/
def Newer (w W : World) : Prop := Grow (fun k => w.heap.size ≤ k) w W
theorem Newer.refl (w : World) : Newer w w := Grow.refl _ _
theorem Newer.trans {A B C : World} (h : Newer A B) (k : Newer B C) : Newer A C := Grow.trans h (Grow.mono k (fun i hi => by have hi : B.heap.size ≤ i := hi; have := h.size; show A.heap.size ≤ i; omega))
theorem Newer.ofGrow {w W W' : World} (h : Newer w W) (g : Grow (fun _ => False) W W') : Newer w W' := Grow.trans h (g.mono (fun _ h => h.elim))
theorem Newer.below {w W : World} (h : Newer w W) : Below w.heap.size w W := Grow.below h (fun _ h => h) (Nat.le_refl _)
theorem Newer.of {w W : World} (h : Below w.heap.size w W) : Newer w W := Grow.ofBelow h
theorem Newer.alloc (w : World) (o : Obj) : Newer w (w.alloc o) := Grow.alloc _ _ _
theorem Newer.drew (w : World) : Newer w w.drew := Grow.drew _ _
theorem newer_cell {w W : World} {a : Addr} {v : Value} (hc : w.cell? a = some v) (g : Newer w W) : W.cell? a = some v := by
  have hlt := World.block_lt_of_cell? _ _ hc
  exact (World.cell?_of_block (Grow.block g _ hlt (fun h' => by have h' : w.heap.size ≤ a.block := h'; omega))).trans hc
theorem Newer.block {w W : World} (g : Newer w W) {k : Nat} (h : k < w.heap.size) : W.heap[k]? = w.heap[k]? := Grow.block g k h (fun h' => by have h' : w.heap.size ≤ k := h'; omega)
theorem Newer.drewN (w : World) (k : Nat) : Newer w (w.drewN k) := ⟨rfl, rfl, rfl, Nat.le_refl _, fun _ _ _ => rfl⟩
theorem Newer.grown (w : World) (os : Array Obj) : Newer w (Go.Sort.grow w os) := ⟨rfl, rfl, rfl, by simp [Go.Sort.grow], fun k hk _ => by simp [Go.Sort.grow, Array.getElem?_append_left hk]⟩

theorem tabNamed : Tryz.prog.globalNamed "internal/strconv.uint64pow10" = some 5 := by kernel_rfl

/-- what of the package-level variables is leaned on -/
structure Env (w : World) : Prop where
  ml : ∃ m, w.cell? ⟨0, 0, none⟩ = some (.int .i64 m)
  es : ∃ te pe, w.cell? ⟨3, 0, none⟩ = some (.iface te pe)
  er : ∃ te pe, w.cell? ⟨4, 0, none⟩ = some (.iface te pe)
  tab : Lib.TabIs Tryz.prog w "internal/strconv.uint64pow10" .u64 Lib.pow10Tab
theorem Env.lt {w : World} (h : Env w) : 5 < w.heap.size := by
  have := h.tab
  unfold Lib.TabIs World.var? at this
  rw [tabNamed] at this
  simp only [Option.bind_some] at this
  rcases Nat.lt_or_ge 5 w.heap.size with h | h
  · exact h
  · rw [Array.getElem?_eq_none h] at this; cases this
theorem Env.below {w W : World} (h : Env w) {n : Nat} (g : Below n w W) (hn : 5 < n) : Env W := by
  have e : ∀ k, k < 6 → W.heap[k]? = w.heap[k]? := fun k hk => g.block k (by omega)
  obtain ⟨m, hm⟩ := h.ml
  obtain ⟨a, b, hs⟩ := h.es
  obtain ⟨a', b', hr⟩ := h.er
  refine ⟨⟨m, ?_⟩, ⟨a, b, ?_⟩, ⟨a', b', ?_⟩, ?_⟩
  · rw [← hm]; exact World.cell?_of_block (e 0 (by omega))
  · rw [← hs]; exact World.cell?_of_block (e 3 (by omega))
  · rw [← hr]; exact World.cell?_of_block (e 4 (by omega))
  · have := h.tab
    unfold Lib.TabIs World.var? at this ⊢
    rw [tabNamed] at this ⊢
    simp only [Option.bind_some] at this ⊢
    rw [e 5 (by omega)]
    exact this
theorem Env.newer {w W : World} (h : Env w) (g : Newer w W) : Env W := h.below g.below h.lt

theorem itoa_any (n : Int) (h0 : -9223372036854775808 ≤ n) (h1 : n ≤ 9223372036854775807) (w : World) (E : Env w) :
    Calls Tryz.prog 82 #[.int .i64 n] w fun e w' => e = .returned (.string ⟨(Lib.itoa n).toArray⟩) ∧ Newer w w' :=
  (Tryz.strconv_Itoa n h0 h1 w E.tab).mono (by
    rintro e w' ⟨rfl, k, os, rfl⟩
    exact ⟨rfl, (Newer.drewN w k).trans (Newer.grown _ _)⟩)

theorem atoi_range (s : Bs) (v : Int) (h : Lib.atoiAll s = .ok v) : -9223372036854775808 ≤ v ∧ v ≤ 9223372036854775807 := by
  unfold Lib.atoiAll at h
  split at h
  · cases h
  · simp only at h
    split at h
    · cases h
    · cases h
    · split at h
      · cases h
      · split at h
        · cases h
        · rename_i c r u hu hn1 hn2
          injection h with h
          subst h
          split <;> omega

theorem atoi_ok (s : Bs) (hs : s.length ≤ 100000) (v : Int) (h : Lib.atoiAll s = .ok v) (w : World) :
    Calls Tryz.prog 94 #[.string ⟨s.toArray⟩] w fun e w' => e = .returned (.tuple #[.int .i64 v, .nilIface]) ∧ Newer w w' :=
  (Tryz.strconv_Atoi_ok ⟨s.toArray⟩ (by show s.toArray.size ≤ _; simp; omega) v (by simpa using h) w).mono (by
    rintro e w' ⟨rfl, (rfl | ⟨t, rfl⟩)⟩
    · exact ⟨rfl, Newer.refl _⟩
    · refine ⟨rfl, ?_⟩
      exact Newer.of (Go.Joins.below_bytesWorld _ _ _ _ (Nat.le_refl _)))
theorem atoi_bad (s : Bs) (hs : s.length ≤ 100000) (h : ∀ v, Lib.atoiAll s ≠ .ok v) (w : World) (E : Env w) :
    Calls Tryz.prog 94 #[.string ⟨s.toArray⟩] w fun e w' => (∃ n N, e = .returned (.tuple #[.int .i64 n, .iface 176 (.pointer (some ⟨N, 0, none⟩))])) ∧ Newer w w' := by
  obtain ⟨te, pe, h3⟩ := E.es
  obtain ⟨te', pe', h4⟩ := E.er
  cases hr : Lib.atoiAll s with
  | ok v => exact absurd hr (h v)
  | «syntax» => exact (Tryz.strconv_Atoi_syntax ⟨s.toArray⟩ (by show s.toArray.size ≤ _; simp; omega) (by simpa using hr) _ w h3 (.inr ⟨_, _, rfl⟩)).mono (by
      rintro e w' ⟨N, rfl, _, _, hb⟩; exact ⟨⟨_, _, rfl⟩, Newer.of hb⟩)
  | range => exact (Tryz.strconv_Atoi_range ⟨s.toArray⟩ (by show s.toArray.size ≤ _; simp; omega) (by simpa using hr) _ w h4 (.inr ⟨_, _, rfl⟩)).mono (by
      rintro e w' ⟨N, rfl, _, _, hb⟩; exact ⟨⟨_, _, rfl⟩, Newer.of hb⟩)

theorem str_toList (a : Bs) : (ByteArray.mk a.toArray).toList = a := by
  rw [ByteArray.toList_eq]
theorem run_eql_str (a b : Bs) (w : World) : (binOp .eql 9 (.string ⟨a.toArray⟩) (.string ⟨b.toArray⟩)).run Tryz.prog w = .ok (.bool (a == b)) w := by
  go_simp
theorem run_neq_str (a b : Bs) (w : World) : (binOp .neq 9 (.string ⟨a.toArray⟩) (.string ⟨b.toArray⟩)).run Tryz.prog w = .ok (.bool (!(a == b))) w := by
  go_simp

end Go.Proofs.YtgdaaafejfjilaaGreatDoor

/- contracts of package script: a number, a path -/
namespace Go.Proofs.YtgdaaafejfjilaaGreatDoor
open Go.RowKit
attribute [local go_sem] Oper.semAt_some undef

theorem numL_some {s : Bs} {v : Int} (h : numL s = some v) : Lib.atoiAll s = .ok v ∧ s.length ≤ 9 ∧ Lib.itoa v = s ∧ 0 ≤ v := by
  unfold numL at h
  split at h
  · split at h
    · rename_i a b
      simp only [Option.some.injEq] at h
      subst h
      exact ⟨a, b⟩
    · cases h
  · cases h

theorem number_ok (s : Bs) (v : Int) (h : numL s = some v) (w : World) (E : Env w) :
    Calls Tryz.prog 80 #[.string ⟨s.toArray⟩] w fun e w' => e = .returned (.int .i64 v) ∧ Newer w w' := by
  obtain ⟨h1, h2, h3, h4⟩ := numL_some h
  obtain ⟨r0, r1⟩ := atoi_range s v h1
  have HE := Lib.hid E
  have H1 := Lib.hid h1
  have H3 := Lib.hid h3
  clear E h1 h3 h
  go_enter Tryz.func80, Tryz.ntmps80
  go_wp2_with fail
  refine (atoi_ok s (by omega) v H1.out _).mono ?_
  rintro e w1 ⟨rfl, n1⟩
  have N1 := Lib.hid n1
  clear n1
  go_wp2_with fail
  refine (itoa_any v r0 r1 _ (HE.out.newer N1.out)).mono ?_
  rintro e w2 ⟨rfl, n2⟩
  rw [H3.out]
  have N2 := Lib.hid (N1.out.trans n2)
  clear n2
  go_wp2_with fail
  refine (must_t _ _).mono ?_
  rintro e w' ⟨rfl, rfl⟩
  go_wp2
  go_ret
  exact ⟨rfl, N2.out⟩

set_option maxRecDepth 100000 in
theorem number_bad (s : Bs) (hs : s.length ≤ 100000) (h : numL s = none) (w : World) (E : Env w) :
    Calls Tryz.prog 80 #[.string ⟨s.toArray⟩] w fun e w' => e = .panicked (gaveUp 380) ∧ Newer w w' := by
  have HE := Lib.hid E
  clear E
  by_cases ha : ∀ v, Lib.atoiAll s ≠ .ok v
  · have HA := Lib.hid ha
    clear ha h
    go_enter Tryz.func80, Tryz.ntmps80
    go_wp2_with fail
    refine (atoi_bad s hs HA.out _ HE.out).mono ?_
    rintro e w1 ⟨⟨n, N, rfl⟩, n1⟩
    have N1 := Lib.hid n1
    clear n1
    go_wp2_with fail
    refine (must_f _ _).mono ?_
    rintro e w' ⟨rfl, rfl⟩
    go_wp2
    exact ⟨rfl, rfl, N1.out⟩
  · obtain ⟨v, h1⟩ : ∃ v, Lib.atoiAll s = .ok v := Classical.byContradiction fun hc => ha fun v hv => hc ⟨v, hv⟩
    obtain ⟨r0, r1⟩ := atoi_range s v h1
    have hn : ¬ (s.length ≤ 9 ∧ Lib.itoa v = s ∧ 0 ≤ v) := by
      intro hc
      unfold numL at h
      rw [h1] at h
      simp only [if_pos hc] at h
      cases h
    have H1 := Lib.hid h1
    clear h h1 ha
    by_cases h9 : s.length ≤ 9
    · by_cases hi : Lib.itoa v = s
      · have hv : v < 0 := by
          rcases Int.lt_or_le v 0 with h | h
          · exact h
          · exact absurd ⟨h9, hi, h⟩ hn
        have HI := Lib.hid hi
        have hv0 : ¬ 0 ≤ v := by omega
        have hv1 : decide (0 ≤ v) = false := by simpa using hv
        clear hi hn
        go_enter Tryz.func80, Tryz.ntmps80
        go_wp2_with fail
        refine (atoi_ok s (by omega) v H1.out _).mono ?_
        rintro e w1 ⟨rfl, n1⟩
        have N1 := Lib.hid n1
        clear n1
        go_wp2_with fail
        refine (itoa_any v r0 r1 _ (HE.out.newer N1.out)).mono ?_
        rintro e w2 ⟨rfl, n2⟩
        rw [HI.out]
        have N2 := Lib.hid (N1.out.trans n2)
        clear n2
        go_wp2_with fail
        refine (must_f _ _).mono ?_
        rintro e w' ⟨rfl, rfl⟩
        go_wp2
        exact ⟨rfl, rfl, N2.out⟩
      · clear hn
        have HI := Lib.hid hi
        clear hi
        go_enter Tryz.func80, Tryz.ntmps80
        go_wp2_with fail
        refine (atoi_ok s (by omega) v H1.out _).mono ?_
        rintro e w1 ⟨rfl, n1⟩
        have N1 := Lib.hid n1
        clear n1
        go_wp2_with fail
        refine (itoa_any v r0 r1 _ (HE.out.newer N1.out)).mono ?_
        rintro e w2 ⟨rfl, n2⟩
        have N2 := Lib.hid (N1.out.trans n2)
        clear n2
        have hq : (Lib.itoa v == s) = false := by simpa using HI.out
        clear HI
        generalize Lib.itoa v = s' at *
        go_wp2_with fail
        refine (must_f _ _).mono ?_
        rintro e w' ⟨rfl, rfl⟩
        go_wp2
        exact ⟨rfl, rfl, N2.out⟩
    · clear hn
      go_enter Tryz.func80, Tryz.ntmps80
      go_wp2_with fail
      refine (atoi_ok s (by omega) v H1.out _).mono ?_
      rintro e w1 ⟨rfl, n1⟩
      have N1 := Lib.hid n1
      clear n1
      go_wp2_with fail
      refine (must_f _ _).mono ?_
      rintro e w' ⟨rfl, rfl⟩
      go_wp2
      exact ⟨rfl, rfl, N1.out⟩

end Go.Proofs.YtgdaaafejfjilaaGreatDoor

/- contracts of package script: a path, half of a byte -/
namespace Go.Proofs.YtgdaaafejfjilaaGreatDoor
open Go.RowKit
attribute [local go_sem] Oper.semAt_some undef

theorem indexByte_nonneg (s : Bs) (c : UInt8) : (0 ≤ Lib.indexByte s c) ↔ c ∈ s := by
  induction s with
  | nil => simp [Lib.indexByte]
  | cons b l ih =>
    rw [Lib.indexByte]
    by_cases h : b = c
    · subst h; simp
    · have h' : (b == c) = false := by simpa using h
      rw [h']
      simp only [Bool.false_eq_true, if_false]
      by_cases h1 : Lib.indexByte l c = -1
      · rw [h1]
        have : ¬ c ∈ l := fun hc => by have := ih.2 hc; omega
        simp [this, Ne.symm h]
      · have h2 : (Lib.indexByte l c == -1) = false := by simpa using h1
        rw [h2]
        simp only [Bool.false_eq_true, if_false, List.mem_cons]
        constructor
        · intro h3
          by_cases hc : c ∈ l
          · exact .inr hc
          · have h4 : ¬ 0 ≤ Lib.indexByte l c := fun h5 => hc (ih.1 h5)
            have h5 : Lib.indexByte l c = -1 ∨ 0 ≤ Lib.indexByte l c := by
              clear ih h h' h1 h2 h3 hc h4
              induction l with
              | nil => left; rfl
              | cons b l ih =>
                rw [Lib.indexByte]
                split
                · right; omega
                · split
                  · left; rfl
                  · rename_i _ h
                    rcases ih with h' | h'
                    · rw [h'] at h; simp at h
                    · right; omega
            rcases h5 with h5 | h5
            · exact absurd h5 h1
            · exact absurd h5 h4
        · rintro (h3 | h3)
          · exact absurd h3.symm h
          · have := ih.2 h3; omega

theorem path_ok (s : Bs) (p : Bs) (h : pathL s = some p) (w : World) :
    Calls Tryz.prog 84 #[.string ⟨s.toArray⟩] w fun e w' => e = .returned (.string ⟨p.toArray⟩) ∧ w = w' := by
  unfold pathL at h
  split at h
  · rename_i hc
    obtain ⟨h1, h2, h3⟩ := hc
    simp only [Option.some.injEq] at h
    subst h
    have hb : decide (0 ≤ Lib.indexByte s 10) = false := by
      rw [decide_eq_false_iff_not, indexByte_nonneg]; exact h3
    have HB := Lib.hid hb
    clear hb h3
    go_enter Tryz.func84, Tryz.ntmps84
    go_wp2_with fail
    refine (Tryz.strings_Contains_one _ 10 _).mono ?_
    rintro e w' ⟨rfl, rfl⟩
    simp only [HB.out]
    go_wp2_with fail
    refine (must_t _ _).mono ?_
    rintro e w' ⟨rfl, rfl⟩
    go_wp2
    go_ret
    exact ⟨rfl, rfl⟩
  · cases h

set_option maxRecDepth 100000 in
theorem path_bad (s : Bs) (hs : s.length ≤ 100000) (h : pathL s = none) (w : World) :
    Calls Tryz.prog 84 #[.string ⟨s.toArray⟩] w fun e w' => e = .panicked (gaveUp 380) ∧ w = w' := by
  unfold pathL at h
  split at h
  · cases h
  · rename_i hc
    by_cases h1 : 1 ≤ s.length
    · by_cases h2 : s.length ≤ 300
      · have hb : decide (0 ≤ Lib.indexByte s 10) = true := by
          rw [decide_eq_true_eq, indexByte_nonneg]
          exact Classical.byContradiction fun h3 => hc ⟨h1, h2, h3⟩
        have HB := Lib.hid hb
        clear hb hc h
        go_enter Tryz.func84, Tryz.ntmps84
        go_wp2_with fail
        refine (Tryz.strings_Contains_one _ 10 _).mono ?_
        rintro e w' ⟨rfl, rfl⟩
        simp only [HB.out]
        go_wp2_with fail
        refine (must_f _ _).mono ?_
        rintro e w' ⟨rfl, rfl⟩
        go_wp2
        exact ⟨rfl, rfl, rfl⟩
      · clear hc h
        go_enter Tryz.func84, Tryz.ntmps84
        go_wp2_with fail
        refine (must_f _ _).mono ?_
        rintro e w' ⟨rfl, rfl⟩
        go_wp2
        exact ⟨rfl, rfl, rfl⟩
    · clear hc h
      obtain rfl : s = [] := by
        cases s with
        | nil => rfl
        | cons a l => exact absurd (by simp) h1
      go_enter Tryz.func84, Tryz.ntmps84
      go_wp2_with fail
      refine (must_f _ _).mono ?_
      rintro e w' ⟨rfl, rfl⟩
      go_wp2
      exact ⟨rfl, rfl, rfl⟩

def digitsL : Bs := [48, 49, 50, 51, 52, 53, 54, 55, 56, 57, 97, 98, 99, 100, 101, 102]
theorem half_index (c : UInt8) : Lib.indexByte digitsL c = match halfL c with | some k => (k : Int) | none => -1 := by
  have : ∀ i : Fin 256, Lib.indexByte digitsL (UInt8.ofNat i.val) = match halfL (UInt8.ofNat i.val) with | some k => (k : Int) | none => -1 := by decide +kernel
  have h := this ⟨c.toNat, c.toNat_lt⟩
  simpa using h
theorem halfL_lt {c : UInt8} {k : Nat} (h : halfL c = some k) : k < 16 := by
  unfold halfL at h
  split at h
  · simp at h; omega
  · split at h
    · simp at h; omega
    · cases h

theorem idx_some (c : UInt8) (k : Nat) (h : halfL c = some k) (w : World) : Calls Tryz.prog 97 #[.string ⟨digitsL.toArray⟩, .int .u8 c.toNat] w fun e w' => e = .returned (.int .i64 k) ∧ w = w' :=
  (Tryz.strings_IndexByte _ _ _).mono (by
    rintro e w' ⟨rfl, rfl⟩
    have hi := half_index c
    rw [h] at hi
    simp [hi])
theorem idx_none (c : UInt8) (h : halfL c = none) (w : World) : Calls Tryz.prog 97 #[.string ⟨digitsL.toArray⟩, .int .u8 c.toNat] w fun e w' => e = .returned (.int .i64 (-1)) ∧ w = w' :=
  (Tryz.strings_IndexByte _ _ _).mono (by
    rintro e w' ⟨rfl, rfl⟩
    have hi := half_index c
    rw [h] at hi
    simp [hi])

theorem half_ok (c : UInt8) (k : Nat) (h : halfL c = some k) (w : World) : Calls Tryz.prog 86 #[.int .u8 c.toNat] w fun e w' => e = .returned (.int .u8 k) ∧ w = w' := by
  have hk := halfL_lt h
  have H := Lib.hid h
  clear h
  go_enter Tryz.func86, Tryz.ntmps86
  go_wp2_with fail
  refine (idx_some c k H.out _).mono ?_
  rintro e w' ⟨rfl, rfl⟩
  go_wp2_with fail
  refine (must_t _ _).mono ?_
  rintro e w' ⟨rfl, rfl⟩
  go_wp2
  go_ret
  exact ⟨rfl, rfl⟩
theorem half_bad (c : UInt8) (h : halfL c = none) (w : World) : Calls Tryz.prog 86 #[.int .u8 c.toNat] w fun e w' => e = .panicked (gaveUp 380) ∧ w = w' := by
  have H := Lib.hid h
  clear h
  go_enter Tryz.func86, Tryz.ntmps86
  go_wp2_with fail
  refine (idx_none c H.out _).mono ?_
  rintro e w' ⟨rfl, rfl⟩
  go_wp2_with fail
  refine (must_f _ _).mono ?_
  rintro e w' ⟨rfl, rfl⟩
  go_wp2
  exact ⟨rfl, rfl, rfl⟩

end Go.Proofs.YtgdaaafejfjilaaGreatDoor
