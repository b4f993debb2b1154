/- contracts of package script: bytes -/
import Derived.Test.YtgdaaafejfjilaaGreatDoorW05
import Derived.Outline
import Derived.IntWalk
import Derived.StillTailTactics
import Derived.Deep.RegionLaw
namespace Go.Proofs.YtgdaaafejfjilaaGreatDoor
open Go.RowKit
attribute [local go_sem] Oper.semAt_some undef

def byteV (c : UInt8) : Value := .int .u8 (c.toNat : Int)

theorem own_step {w wr w4 : World} {o : Obj} {v : Value} {n : Nat} {xs : List Value} {e : TypeId} {size : Nat} (hrow : wr.ownsRow w.heap.size e size v n xs) (hn : Newer w wr) (g : (wr.drew.alloc o).grownBy w4 v.ownBlock) : Newer w w4 := by
  have z := hn.size
  refine Grow.trans hn (Grow.trans (Grow.drew _ _) (Grow.trans (Grow.alloc _ _ o) ⟨g.os, g.tape, g.output, g.size, fun k hk hno => g.block k hk (fun h => ?_)⟩))
  exact hno (hrow.lt k h.symm).1
theorem own_step' {w wr w4 : World} {o : Obj} {v : Value} {n : Nat} {xs : List Value} {e : TypeId} {size : Nat} (hrow : wr.ownsRow w.heap.size e size v n xs) (hn : Newer w wr) (g : (wr.alloc o).grownBy w4 v.ownBlock) : Newer w w4 := by
  have z := hn.size
  refine Grow.trans hn (Grow.trans (Grow.alloc _ _ o) ⟨g.os, g.tape, g.output, g.size, fun k hk hno => g.block k hk (fun h => ?_)⟩)
  exact hno (hrow.lt k h.symm).1
theorem take_map {α β : Type} (f : α → β) (l : List α) (j : Nat) (h : j < l.length) : (l.take j).map f ++ [f l[j]] = (l.take (j + 1)).map f := by
  rw [List.take_succ_eq_append_getElem h, List.map_append]; rfl
theorem cells_one (w : World) (b : Nat) (v : Value) (h : w.cell? ⟨b, 0, none⟩ = some v) : ∀ j u, [v][j]? = some u → w.cell? ((Addr.mk b 0 none).add j) = some u := by
  intro j u hj
  match j, hj with
  | 0, hj => simp at hj; subst hj; simpa [Addr.add] using h

/-- append onto a row of the call's own, in a region that draws -/
theorem step_append_own {P : Program} {ops : Array Oper} {o : Oper} {a : Act} {w : World} {K : Act → World → Prop} {Q : Exit → Act → World → Prop} {E : Prop}
    (hgd : o.guard = none) (s x : Operand) (t : TypeId) (ho : o.op = .call { callee := .builtin .append, args := #[s, x], argTypes := #[t, t] })
    (base : Nat) (e : TypeId) (i : TypeInfo) (z : Value) (size bytes : Nat) (ht : P.underlying t = some (.slice e)) (hi : P.info? e = some i) (hz : i.zero = some z)
    (hsize : i.size = size) (hby : i.bytes = bytes) (hzs : z.cells.size = size) (hsz : 0 < size)
    (v : Value) (n : Nat) (xs : List Value) (hs : a.eval s = v) (hown : w.ownsRow base e size v n xs)
    (ad : Addr) (m c : Nat) (news : List Value) (hx : a.eval x = .slice (some ad) m c) (hl : news.length = m * size) (hnews : ∀ j u, news[j]? = some u → w.cell? (ad.add j) = some u) (h1 : ∀ u ∈ news, u.oneCell' = true)
    (h63 : n + m ≤ maxLen) (hbytes : (n + m) * bytes ≤ 140737488355328) (hbase : base ≤ w.heap.size)
    (h : ∀ v' w', w'.ownsRow base e size v' (n + m) (xs ++ news) → w.grownBy w' v.ownBlock → (v' = .slice none 0 0 ↔ v = .slice none 0 0 ∧ m = 0) → K (a.put o.dst v') w') :
    if Region.wanted o (yielded ops a.tmps) = true then Oper.wp P o a w K Q else E := by
  have hw : Region.wanted o (yielded ops a.tmps) = true := by simp [Region.wanted, hgd]
  rw [if_pos hw]
  exact wp_append_own w s x t ho base e i z size bytes ht hi hz hsize hby hzs hsz v n xs hs hown ad m c news hx hl hnews h1 h63 hbytes hbase fun v' w' h2 h3 h4 => h v' w' h2 h3 h4

theorem index_str (s : Bs) (i : Nat) (k : Int) (c : UInt8) (hk : k = (i : Int)) (h : s[i]? = some c) (w : World) : (Instr.index 9 (.string ⟨s.toArray⟩) (.int .i64 k)).run Tryz.prog w = .ok (.int .u8 (c.toNat : Int)) w := by
  subst hk
  obtain ⟨hi, he⟩ := List.getElem?_eq_some_iff.1 h
  rw [run_index_string _ _ _ _ _ Tryz.underlying9]
  have h1 : (ByteArray.mk s.toArray).size = s.length := by show s.toArray.size = _; simp
  rw [dif_pos (by omega)]
  congr

theorem or16 (x y : Nat) (hx : x < 16) (hy : y < 16) : Value.int .u8 (bits .or .u8 (IntKind.u8.wrap ((x : Int) * 16)) (y : Int)) = byteV (UInt8.ofNat (16 * x + y)) := by
  have : bits .or .u8 (IntKind.u8.wrap ((x : Int) * 16)) (y : Int) = ((UInt8.ofNat (16 * x + y)).toNat : Int) := by
    have h : ∀ x y : Fin 16, bits .or .u8 (IntKind.u8.wrap ((x.val : Int) * 16)) (y.val : Int) = ((UInt8.ofNat (16 * x.val + y.val)).toNat : Int) := by decide +kernel
    exact h ⟨x, hx⟩ ⟨y, hy⟩
  unfold byteV
  rw [this]
theorem Tryz.info5 : (Tryz.prog.info? 5).map (fun i => (i.zero, i.size, i.bytes)) = some (some (.int .u8 0), 1, 1) := by kernel_rfl


/-- the pairs that are read: j of them -/
theorem pairs_at : ∀ (s out : Bs), pairsL s = some out → s.length = 2 * out.length ∧ ∀ j (h : j < out.length), ∃ x y : Nat, ∃ c d : UInt8, s[2 * j]? = some c ∧ s[2 * j + 1]? = some d ∧ halfL c = some x ∧ halfL d = some y ∧ out[j] = UInt8.ofNat (16 * x + y)
  | [], out, h => by simp [pairsL] at h; subst h; simp
  | [_], out, h => by simp [pairsL] at h
  | a :: b :: r, out, h => by
    simp only [pairsL] at h
    split at h
    · rename_i x y z hx hy hz
      simp only [Option.some.injEq] at h
      subst h
      obtain ⟨h1, h2⟩ := pairs_at r z hz
      refine ⟨by simp; omega, fun j hj => ?_⟩
      match j with
      | 0 => exact ⟨x, y, a, b, rfl, rfl, hx, hy, rfl⟩
      | j + 1 =>
        obtain ⟨x', y', c, d, e1, e2, e3, e4, e5⟩ := h2 j (by simpa using hj)
        exact ⟨x', y', c, d, by rw [← e1]; simp [Nat.mul_add], by rw [← e2]; simp [Nat.mul_add], e3, e4, by simpa using e5⟩
    · cases h

set_option maxRecDepth 100000 in
set_option maxHeartbeats 800000 in
theorem bytes_ok (s out : Bs) (hs : s.length ≤ 896) (h1 : s.length ≠ 0) (h2 : s.length % 2 = 0) (hd : s ≠ [45]) (h : pairsL s = some out) (w : World) :
    Calls Tryz.prog 67 #[.string ⟨s.toArray⟩] w fun e w' => ∃ v, e = .returned v ∧ w'.ownsRow w.heap.size 5 1 v out.length (out.map byteV) ∧ Newer w w' := by
  obtain ⟨i0, hi, hz0, hz1, hz2⟩ := info_parts Tryz.info5
  obtain ⟨hl, hp⟩ := pairs_at s out h
  have HP := Lib.hid hp
  have hb : (s == [45]) = false := by simpa using hd
  have hpos : 0 < s.length := by omega
  obtain ⟨n, hn⟩ : ∃ n, s.length = n := ⟨_, rfl⟩
  obtain ⟨m, hm⟩ : ∃ m, out.length = m := ⟨_, rfl⟩
  have hnm : n = 2 * m := by omega
  rw [hn] at hs h1 h2 hpos
  have hle : decide ((n : Int) ≤ 896) = true := by simp; omega
  have hev : ((n : Int) % 2 == 0) = true := by simp; omega
  clear hd h hp
  have HM := Lib.hid (And.intro hm hnm)
  have hm1 : n ≤ 2 * m := by omega
  have hm2 : 2 * m ≤ n := by omega
  clear hl hm hnm
  go_enter Tryz.func67, Tryz.ntmps67
  go_wp2_with fail
  refine (must_t _ _).mono ?_
  rintro e w' ⟨rfl, rfl⟩
  go_wp2_with fail
  go_loopw [2, 3] (fun v i wr => ∃ j : Nat, i = .int .i64 (2 * (j : Int)) ∧ j ≤ m ∧ wr.ownsRow w.heap.size 5 1 v j ((out.take j).map byteV) ∧ Newer w wr) (fun _ i _ => n - (intOf i).toNat)
  case atStart => exact ⟨0, rfl, Nat.zero_le _, World.ownsRow_nil _ _ _ _, Newer.refl _⟩
  case round =>
    obtain ⟨j, rfl, hj, hrow, hnw⟩ := hrel
    obtain ⟨va, vc, rfl⟩ := ownsRow_slice hrow
    have HR := Lib.hid hrow
    have HN := Lib.hid hnw
    clear hrow hnw
    by_cases hlt : j < m
    · obtain ⟨x, y, c, d, e1, e2, e3, e4, e5⟩ := HP.out j (by rw [HM.out.1]; exact hlt)
      have E5 := Lib.hid e5
      have E3 := Lib.hid e3
      have E4 := Lib.hid e4
      clear e5
      go_wp2_with fail
      have ix1 := index_str s (2 * j) (2 * (j : Int)) c (by omega) e1
      have ix2 := index_str s (2 * j + 1) (2 * (j : Int) + 1) d (by omega) e2
      have iw : IntKind.i64.wrap (2 * (j : Int) + 1) = 2 * (j : Int) + 1 := IntWalk.i64_in _ (by omega)
      have hx := halfL_lt e3
      have hy := halfL_lt e4
      have SO := Lib.hid (or16 x y hx hy)
      have zw : w.heap.size ≤ wr.heap.size := HN.out.size
      clear e1 e2 e3 e4
      go_region_law (first
        | (go_simp; go_at_call 86; refine (half_ok _ _ (by first | exact E3.out | exact E4.out) _).mono ?_; rintro e w' ⟨rfl, rfl⟩)
        | (refine step_append_own rfl _ _ 24 rfl w.heap.size 5 i0 (.int .u8 0) 1 1 Tryz.underlying24 hi hz0 hz1 hz2 rfl (by decide) _ _ _ rfl (HR.out.drew.alloc _) ⟨wr.heap.size, 0, none⟩ 1 1 [.int .u8 (bits .or .u8 (IntKind.u8.wrap ((x : Int) * 16)) (y : Int))] rfl rfl (cells_one _ _ _ (by go_simp)) (by intro u hu; simp at hu; subst hu; rfl) (by unfold maxLen; omega) (by omega) (by simp; omega) ?_; intro v' w4 hown' hgrow _))
      all_goals
        rw [SO.out, ← E5.out] at hown'
        have hr := hown'
        rw [take_map byteV out j (by rw [HM.out.1]; exact hlt)] at hr
        have h4 := Lib.hid (And.intro hr (own_step HR.out HN.out hgrow))
        clear hown' hgrow hr ix1 ix2 iw
        go_wp2_with fail
        go_roundw
        case rel => exact ⟨j + 1, by go_num, by omega, h4.out⟩
        case measure => simp [intOf]; omega
    · obtain rfl : j = m := by omega
      go_wp2_with fail
      go_ret
      refine ⟨_, rfl, ?_, HN.out⟩
      have := HR.out
      rw [List.take_of_length_le (by rw [HM.out.1]; exact Nat.le_refl _)] at this
      rw [HM.out.1]
      exact this

end Go.Proofs.YtgdaaafejfjilaaGreatDoor

/- contracts of package script: bytes that are none -/
namespace Go.Proofs.YtgdaaafejfjilaaGreatDoor
open Go.RowKit
attribute [local go_sem] Oper.semAt_some undef

theorem bytes_dash (w : World) : Calls Tryz.prog 67 #[.string ⟨([45] : Bs).toArray⟩] w fun e w' => e = .returned (.slice none 0 0) ∧ w = w' := by
  go_enter Tryz.func67, Tryz.ntmps67
  go_wp2
  go_ret
  exact ⟨rfl, rfl⟩

def goodAt (s : Bs) (j : Nat) : Prop := ∃ x y : Nat, ∃ c d : UInt8, s[2 * j]? = some c ∧ s[2 * j + 1]? = some d ∧ halfL c = some x ∧ halfL d = some y
theorem pairs_good : ∀ (s : Bs) (m : Nat), s.length = 2 * m → (∀ j, j < m → goodAt s j) → ∃ out, pairsL s = some out
  | [], _, _, _ => ⟨[], rfl⟩
  | [_], m, h, _ => by simp at h; omega
  | a :: b :: r, m, h, hg => by
    have hm : 0 < m := by simp at h; omega
    obtain ⟨out, ho⟩ := pairs_good r (m - 1) (by simp at h; omega) (fun j hj => by
      obtain ⟨x, y, c, d, e1, e2, e3, e4⟩ := hg (j + 1) (by omega)
      exact ⟨x, y, c, d, by rw [← e1]; simp [Nat.mul_add], by rw [← e2]; simp [Nat.mul_add], e3, e4⟩)
    obtain ⟨x, y, c, d, e1, e2, e3, e4⟩ := hg 0 hm
    simp at e1 e2
    subst e1 e2
    exact ⟨UInt8.ofNat (16 * x + y) :: out, by simp only [pairsL, ho, e3, e4]⟩
theorem first_bad (P : Nat → Prop) : ∀ m, (¬ ∀ j, j < m → P j) → ∃ j, j < m ∧ ¬ P j ∧ ∀ i, i < j → P i
  | 0, h => absurd (fun j hj => absurd hj (Nat.not_lt_zero _)) h
  | m + 1, h => by
    by_cases hm : ∀ j, j < m → P j
    · refine ⟨m, by omega, fun hp => h fun j hj => ?_, hm⟩
      rcases Nat.lt_or_ge j m with h' | h'
      · exact hm j h'
      · obtain rfl : j = m := by omega
        exact hp
    · obtain ⟨j, h1, h2, h3⟩ := first_bad P m hm
      exact ⟨j, by omega, h2, h3⟩

set_option maxRecDepth 100000 in
set_option maxHeartbeats 1600000 in
theorem bytes_bad (s : Bs) (hs : s.length ≤ 896) (_h1 : s.length ≠ 0) (h2 : s.length % 2 = 0) (hd : s ≠ [45]) (h : pairsL s = none) (w : World) :
    Calls Tryz.prog 67 #[.string ⟨s.toArray⟩] w fun e w' => e = .panicked (gaveUp 380) ∧ Newer w w' := by
  obtain ⟨i0, hi, hz0, hz1, hz2⟩ := info_parts Tryz.info5
  obtain ⟨m, hm⟩ : ∃ m, s.length = 2 * m := ⟨s.length / 2, by omega⟩
  obtain ⟨j0, hj0, hbad, hgood⟩ := first_bad (goodAt s) m (fun hc => by obtain ⟨o, ho⟩ := pairs_good s m hm hc; rw [h] at ho; cases ho)
  have HG := Lib.hid hgood
  have HB := Lib.hid hbad
  have hb : (s == [45]) = false := by simpa using hd
  obtain ⟨n, hn⟩ : ∃ n, s.length = n := ⟨_, rfl⟩
  rw [hn] at hs h2 hm
  have hpos : 0 < n := by omega
  have hle : decide ((n : Int) ≤ 896) = true := by simp; omega
  have hev : ((n : Int) % 2 == 0) = true := by simp; omega
  have hm1 : n ≤ 2 * m := by omega
  have hm2 : 2 * m ≤ n := by omega
  clear hd h hgood hbad hm
  go_enter Tryz.func67, Tryz.ntmps67
  go_wp2_with fail
  refine (must_t _ _).mono ?_
  rintro e w' ⟨rfl, rfl⟩
  go_wp2_with fail
  go_loopw [2, 3] (fun v i wr => ∃ (j : Nat) (xs : List Value), i = .int .i64 (2 * (j : Int)) ∧ j ≤ j0 ∧ wr.ownsRow w.heap.size 5 1 v j xs ∧ Newer w wr) (fun _ i _ => n - (intOf i).toNat)
  case atStart => exact ⟨0, [], rfl, Nat.zero_le _, World.ownsRow_nil _ _ _ _, Newer.refl _⟩
  case round =>
    obtain ⟨j, xs, rfl, hj, hrow, hnw⟩ := hrel
    obtain ⟨va, vc, rfl⟩ := ownsRow_slice hrow
    have HR := Lib.hid hrow
    have HN := Lib.hid hnw
    clear hrow hnw
    by_cases hlt : j < j0
    · obtain ⟨x, y, c, d, e1, e2, e3, e4⟩ := HG.out j hlt
      have E3 := Lib.hid e3
      have E4 := Lib.hid e4
      go_wp2_with fail
      have ix1 := index_str s (2 * j) (2 * (j : Int)) c (by omega) e1
      have ix2 := index_str s (2 * j + 1) (2 * (j : Int) + 1) d (by omega) e2
      have iw : IntKind.i64.wrap (2 * (j : Int) + 1) = 2 * (j : Int) + 1 := IntWalk.i64_in _ (by omega)
      have zw : w.heap.size ≤ wr.heap.size := HN.out.size
      clear e1 e2 e3 e4
      go_region_law (first
        | (go_simp; go_at_call 86; refine (half_ok _ _ (by first | exact E3.out | exact E4.out) _).mono ?_; rintro e w' ⟨rfl, rfl⟩)
        | (refine step_append_own rfl _ _ 24 rfl w.heap.size 5 i0 (.int .u8 0) 1 1 Tryz.underlying24 hi hz0 hz1 hz2 rfl (by decide) _ _ _ rfl (HR.out.drew.alloc _) ⟨wr.heap.size, 0, none⟩ 1 1 [.int .u8 (bits .or .u8 (IntKind.u8.wrap ((x : Int) * 16)) (y : Int))] rfl rfl (cells_one _ _ _ (by go_simp)) (by intro u hu; simp at hu; subst hu; rfl) (by unfold maxLen; omega) (by omega) (by simp; omega) ?_; intro v' w4 hown' hgrow _))
      all_goals
        have h4 := Lib.hid (And.intro hown' (own_step HR.out HN.out hgrow))
        clear hown' hgrow ix1 ix2 iw
        go_wp2_with fail
        go_roundw
        case rel => exact ⟨j + 1, _, by go_num, by omega, h4.out⟩
        case measure => simp [intOf]; omega
    · obtain rfl : j = j0 := by omega
      obtain ⟨c, e1⟩ : ∃ c, s[2 * j]? = some c := ⟨_, List.getElem?_eq_getElem (by omega)⟩
      obtain ⟨d, e2⟩ : ∃ d, s[2 * j + 1]? = some d := ⟨_, List.getElem?_eq_getElem (by omega)⟩
      have ix1 := index_str s (2 * j) (2 * (j : Int)) c (by omega) e1
      have ix2 := index_str s (2 * j + 1) (2 * (j : Int) + 1) d (by omega) e2
      have iw : IntKind.i64.wrap (2 * (j : Int) + 1) = 2 * (j : Int) + 1 := IntWalk.i64_in _ (by omega)
      cases e3 : halfL c with
      | none =>
        have E3 := Lib.hid e3
        clear e1 e2 e3
        go_wp2_with fail
        refine wp_region_any (by kernel_rfl) ?_
        (try (change wpAny _ _ _ _ _ _ _ (World.drew _)))
        refine wpAny_take (i := 0) (v := ?_) rfl (by kernel_rfl) (by kernel_rfl) (by kernel_rfl) (fun _ _ _ h => h) (Or.inl ⟨by rfl, ?_⟩) ?_
        rotate_left 1
        · intro w; go_simp; try with_reducible rfl
        refine wpAny_take (i := 1) (v := ?_) rfl (by kernel_rfl) (by kernel_rfl) (by kernel_rfl) (fun _ _ _ h => h) (Or.inl ⟨by rfl, ?_⟩) ?_
        rotate_left 1
        · intro w; go_simp; try with_reducible rfl
        refine wpAny_take (i := 2) (v := ?_) rfl (by kernel_rfl) (by kernel_rfl) (by kernel_rfl) (fun _ _ _ h => h) (Or.inl ⟨by rfl, ?_⟩) ?_
        rotate_left 1
        · intro w; go_simp; try with_reducible rfl
        refine wpAny_take (i := 3) (v := ?_) rfl (by kernel_rfl) (by kernel_rfl) (by kernel_rfl) (fun _ _ _ h => h) (Or.inl ⟨by rfl, ?_⟩) ?_
        rotate_left 1
        · intro w; go_simp; try with_reducible rfl
        refine wpAny_take (i := 6) (v := ?_) rfl (by kernel_rfl) (by kernel_rfl) (by kernel_rfl) (fun _ _ _ h => h) (Or.inl ⟨by rfl, ?_⟩) ?_
        rotate_left 1
        · intro w; go_simp; try with_reducible rfl
        refine wpAny_take (i := 7) (v := ?_) rfl (by kernel_rfl) (by kernel_rfl) (by kernel_rfl) (fun _ _ _ h => h) (Or.inl ⟨by rfl, ?_⟩) ?_
        rotate_left 1
        · intro w; go_simp; try with_reducible rfl
        refine wpAny_take (i := 8) (v := ?_) rfl (by kernel_rfl) (by kernel_rfl) (by kernel_rfl) (fun _ _ _ h => h) (Or.inl ⟨by rfl, ?_⟩) ?_
        rotate_left 1
        · intro w; go_simp; try with_reducible rfl
        refine wpAny_take (i := 9) (v := ?_) rfl (by kernel_rfl) (by kernel_rfl) (by kernel_rfl) (fun _ _ _ h => h) (Or.inl ⟨by rfl, ?_⟩) ?_
        rotate_left 1
        · intro w; go_simp; try with_reducible rfl
        refine wpAny_ready (rs := [4]) (by kernel_rfl) (by simp) ?_
        refine AllReady.cons rfl (fun K hK => ?_) AllReady.nil
        go_simp
        refine (half_bad _ E3.out _).mono ?_
        rintro e w' ⟨rfl, rfl⟩
        exact ⟨rfl, rfl, HN.out.trans (Newer.drew _)⟩
      | some x =>
        cases e4 : halfL d with
        | some y => exact absurd ⟨x, y, c, d, e1, e2, e3, e4⟩ HB.out
        | none =>
          have E3 := Lib.hid e3
          have E4 := Lib.hid e4
          clear e1 e2 e3 e4
          go_wp2_with fail
          refine wp_region_any (by kernel_rfl) ?_
          (try (change wpAny _ _ _ _ _ _ _ (World.drew _)))
          refine wpAny_take (i := 0) (v := ?_) rfl (by kernel_rfl) (by kernel_rfl) (by kernel_rfl) (fun _ _ _ h => h) (Or.inl ⟨by rfl, ?_⟩) ?_
          rotate_left 1
          · intro w; go_simp; try with_reducible rfl
          refine wpAny_take (i := 1) (v := ?_) rfl (by kernel_rfl) (by kernel_rfl) (by kernel_rfl) (fun _ _ _ h => h) (Or.inl ⟨by rfl, ?_⟩) ?_
          rotate_left 1
          · intro w; go_simp; try with_reducible rfl
          refine wpAny_take (i := 2) (v := ?_) rfl (by kernel_rfl) (by kernel_rfl) (by kernel_rfl) (fun _ _ _ h => h) (Or.inl ⟨by rfl, ?_⟩) ?_
          rotate_left 1
          · intro w; go_simp; try with_reducible rfl
          refine wpAny_take (i := 3) (v := ?_) rfl (by kernel_rfl) (by kernel_rfl) (by kernel_rfl) (fun _ _ _ h => h) (Or.inl ⟨by rfl, ?_⟩) ?_
          rotate_left 1
          · intro w; go_simp; try with_reducible rfl
          refine wpAny_take (i := 6) (v := ?_) rfl (by kernel_rfl) (by kernel_rfl) (by kernel_rfl) (fun _ _ _ h => h) (Or.inl ⟨by rfl, ?_⟩) ?_
          rotate_left 1
          · intro w; go_simp; try with_reducible rfl
          refine wpAny_take (i := 7) (v := ?_) rfl (by kernel_rfl) (by kernel_rfl) (by kernel_rfl) (fun _ _ _ h => h) (Or.inl ⟨by rfl, ?_⟩) ?_
          rotate_left 1
          · intro w; go_simp; try with_reducible rfl
          refine wpAny_take (i := 8) (v := ?_) rfl (by kernel_rfl) (by kernel_rfl) (by kernel_rfl) (fun _ _ _ h => h) (Or.inl ⟨by rfl, ?_⟩) ?_
          rotate_left 1
          · intro w; go_simp; try with_reducible rfl
          refine wpAny_take (i := 9) (v := ?_) rfl (by kernel_rfl) (by kernel_rfl) (by kernel_rfl) (fun _ _ _ h => h) (Or.inl ⟨by rfl, ?_⟩) ?_
          rotate_left 1
          · intro w; go_simp; try with_reducible rfl
          refine wpAny_ready (rs := [4]) (by kernel_rfl) (by simp) ?_
          refine AllReady.cons rfl (fun K hK => ?_) AllReady.nil
          go_simp
          refine (half_ok _ _ E3.out _).mono ?_
          rintro e w' ⟨rfl, rfl⟩
          refine hK _ _ ?_
          clear hK K
          refine wpAny_take (i := 5) (v := ?_) rfl (by kernel_rfl) (by kernel_rfl) (by kernel_rfl) (fun _ _ _ h => h) (Or.inl ⟨by rfl, ?_⟩) ?_
          rotate_left 1
          · intro w; go_simp; try with_reducible rfl
          refine wpAny_ready (rs := [10]) (by kernel_rfl) (by simp) ?_
          refine AllReady.cons rfl (fun K hK => ?_) AllReady.nil
          go_simp
          refine (half_bad _ E4.out _).mono ?_
          rintro e w' ⟨rfl, rfl⟩
          exact ⟨rfl, rfl, HN.out.trans (Newer.drew _)⟩

theorem bytes_odd (s : Bs) (hs : s.length ≤ 100000) (h : ¬ (0 < s.length ∧ s.length % 2 = 0 ∧ s.length ≤ 896)) (hd : s ≠ [45]) (w : World) :
    Calls Tryz.prog 67 #[.string ⟨s.toArray⟩] w fun e w' => e = .panicked (gaveUp 380) ∧ w = w' := by
  have hb : (s == [45]) = false := by simpa using hd
  obtain ⟨n, hn⟩ : ∃ n, s.length = n := ⟨_, rfl⟩
  rw [hn] at hs h
  clear hd
  by_cases h0 : 0 < n
  · by_cases h2 : n % 2 = 0
    · have h3 : ¬ n ≤ 896 := fun hc => h ⟨h0, h2, hc⟩
      have hev : ((n : Int) % 2 == 0) = true := by simp; omega
      have hle : decide ((n : Int) ≤ 896) = false := by simp; omega
      clear h
      go_enter Tryz.func67, Tryz.ntmps67
      go_wp2_with fail
      refine (must_f _ _).mono ?_
      rintro e w' ⟨rfl, rfl⟩
      go_wp2
      exact ⟨rfl, rfl, rfl⟩
    · have hev : ((n : Int) % 2 == 0) = false := by simp; omega
      clear h
      go_enter Tryz.func67, Tryz.ntmps67
      go_wp2_with fail
      refine (must_f _ _).mono ?_
      rintro e w' ⟨rfl, rfl⟩
      go_wp2
      exact ⟨rfl, rfl, rfl⟩
  · obtain rfl : n = 0 := by omega
    obtain rfl : s = [] := by simpa using hn
    clear h hb hn
    go_enter Tryz.func67, Tryz.ntmps67
    go_wp2_with fail
    refine (must_f _ _).mono ?_
    rintro e w' ⟨rfl, rfl⟩
    go_wp2
    exact ⟨rfl, rfl, rfl⟩

/-- a slice of bytes reads as l -/
def SliceB (w : World) (v : Value) (l : Bs) : Prop := ∃ (p : Option Addr) (cap : Nat), v = .slice p l.length cap ∧ ∀ j (h : j < l.length), ∃ A : Addr, p = some A ∧ w.cell? (A.add j) = some (byteV l[j])
def boolV (b : Bool) : Value := .bool b
/-- a slice of marks reads as l -/
def SliceM (w : World) (v : Value) (l : List Bool) : Prop := ∃ (p : Option Addr) (cap : Nat), v = .slice p l.length cap ∧ ∀ j (h : j < l.length), ∃ A : Addr, p = some A ∧ w.cell? (A.add j) = some (boolV l[j])

theorem SliceB.newer {w W : World} {v : Value} {l : Bs} (h : SliceB w v l) (g : Newer w W) : SliceB W v l := by
  obtain ⟨p, cap, rfl, h⟩ := h
  refine ⟨p, cap, rfl, fun j hj => ?_⟩
  obtain ⟨A, rfl, hc⟩ := h j hj
  exact ⟨A, rfl, newer_cell hc g⟩
theorem SliceM.newer {w W : World} {v : Value} {l : List Bool} (h : SliceM w v l) (g : Newer w W) : SliceM W v l := by
  obtain ⟨p, cap, rfl, h⟩ := h
  refine ⟨p, cap, rfl, fun j hj => ?_⟩
  obtain ⟨A, rfl, hc⟩ := h j hj
  exact ⟨A, rfl, newer_cell hc g⟩
theorem SliceB.nil (w : World) : SliceB w (.slice none 0 0) [] := ⟨none, 0, rfl, fun _ h => absurd h (Nat.not_lt_zero _)⟩
theorem SliceM.nil (w : World) : SliceM w (.slice none 0 0) [] := ⟨none, 0, rfl, fun _ h => absurd h (Nat.not_lt_zero _)⟩
theorem SliceB.own {w : World} {base : Nat} {v : Value} {n : Nat} {l : Bs} (hn : l.length = n) (h : w.ownsRow base 5 1 v n (l.map byteV)) : SliceB w v l := by
  obtain ⟨p, cap, rfl⟩ := ownsRow_slice h
  refine ⟨p, cap, by rw [hn], fun j hj => ?_⟩
  rcases h.2 with ⟨_, h0⟩ | ⟨g, cap', cur, hv, _⟩
  · exact absurd hj (by omega)
  · simp only [Value.slice.injEq] at hv
    obtain ⟨rfl, -, -⟩ := hv
    refine ⟨_, rfl, ?_⟩
    have := h.cellAt j (by omega)
    rw [List.getElem?_map, List.getElem?_eq_getElem hj] at this
    rw [show (Addr.mk g 0 none).add j = ⟨g, j, none⟩ by unfold Addr.add; by_cases h0 : j = 0 <;> simp [h0]]
    exact this

/-- a slice leads to no block of K -/
def Off (K : Nat → Prop) (v : Value) : Prop := ∀ A n c, v = .slice (some A) n c → ¬ K A.block
theorem Off.nil (K : Nat → Prop) : Off K (.slice none 0 0) := fun A n c h => by simp at h
theorem Off.own {w : World} {base : Nat} {e : TypeId} {size : Nat} {v : Value} {n : Nat} {xs : List Value} (h : w.ownsRow base e size v n xs) : Off (fun k => k < base) v := fun A m c hv hk => by
  subst hv
  rcases h.2 with ⟨h0, _⟩ | ⟨g, cap, cur, h0, hb, _⟩
  · simp at h0
  · simp only [Value.slice.injEq, Option.some.injEq] at h0
    obtain ⟨rfl, -, -⟩ := h0
    have hk : g < base := hk
    omega

/-- what the bytes of a word are -/
theorem bytesL_ok (s out : Bs) (h : bytesL s = some out) (w : World) :
    Calls Tryz.prog 67 #[.string ⟨s.toArray⟩] w fun e w' => ∃ v, e = .returned v ∧ SliceB w' v out ∧ Off (fun k => k < w.heap.size) v ∧ Newer w w' := by
  unfold bytesL at h
  split at h
  · rename_i hd
    subst hd
    simp only [Option.some.injEq] at h
    subst h
    exact (bytes_dash w).mono (by rintro e w' ⟨rfl, rfl⟩; exact ⟨_, rfl, SliceB.nil _, Off.nil _, Newer.refl _⟩)
  · rename_i hd
    split at h
    · rename_i hc
      exact (bytes_ok s out hc.2.2 (by omega) hc.2.1 hd h w).mono (by rintro e w' ⟨v, rfl, hr, hn⟩; exact ⟨v, rfl, SliceB.own rfl hr, Off.own hr, hn⟩)
    · cases h
theorem bytesL_bad (s : Bs) (hs : s.length ≤ 100000) (h : bytesL s = none) (w : World) :
    Calls Tryz.prog 67 #[.string ⟨s.toArray⟩] w fun e w' => e = .panicked (gaveUp 380) ∧ Newer w w' := by
  unfold bytesL at h
  split at h
  · cases h
  · rename_i hd
    split at h
    · rename_i hc
      exact bytes_bad s hc.2.2 (by omega) hc.2.1 hd h w
    · rename_i hc
      exact (bytes_odd s hs hc hd w).mono (by rintro e w' ⟨rfl, rfl⟩; exact ⟨rfl, Newer.refl _⟩)

end Go.Proofs.YtgdaaafejfjilaaGreatDoor
