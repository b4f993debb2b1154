/- contracts of package lock: Try, Free, Spins -/
import Derived.Test.YtbfadogjkhoohaaLockD
namespace Go.Proofs.Ytbfadogjkhoohaa
open Go.RowKit
attribute [local go_sem] Oper.semAt_some

theorem lockErr_zero {t : Int} {a3 : Bool} {e3 : Int} (he : e3 ≠ 0) : lockErr false t a3 e3 = 0 ↔ (0 ≤ t ∧ t < 8) ∧ a3 = false := by
  unfold lockErr
  rw [if_neg (by simp)]
  by_cases h : t < 0 ∨ 8 ≤ t
  · rw [if_pos h]
    exact ⟨fun h => by omega, fun h => by omega⟩
  · rw [if_neg h]
    cases a3 with
    | true => exact ⟨fun h => absurd h (by simpa using he), fun h => by simp at h⟩
    | false => exact ⟨fun _ => ⟨by omega, rfl⟩, fun _ => by simp⟩

theorem lockErr0_eq (t : Int) : lockErr0 false t = if t < 0 ∨ 8 ≤ t then 2 else 0 := by
  unfold lockErr0
  rw [if_neg (by simp)]
theorem lockErr0_zero {t : Int} : lockErr0 false t = 0 ↔ 0 ≤ t ∧ t < 8 := by
  rw [lockErr0_eq]
  by_cases h : t < 0 ∨ 8 ≤ t
  · rw [if_pos h]
    exact ⟨fun h => absurd h (by decide), fun h => by omega⟩
  · rw [if_neg h]
    exact ⟨fun _ => by omega, fun _ => rfl⟩

theorem newer_lock {w W : World} {b : Nat} {th : Int} {h : Bool} {sp : Nat → Int} (hl : LockAt w b th h sp) (g : Newer w W) : LockAt W b th h sp :=
  hl.grow g (fun h' => by have := hl.lt; omega)
theorem newer_cell {w W : World} {a : Addr} {v : Value} (hc : w.cell? a = some v) (g : Newer w W) : W.cell? a = some v := by
  have hlt := World.block_lt_of_cell? _ _ hc
  exact (World.cell?_of_block (g.block _ hlt (fun h' => by omega))).trans hc

def TryStep (t th : Int) (h : Bool) (sp : Nat → Int) (r : Bool) (err th' : Int) (h' : Bool) (sp' : Nat → Int) : Prop :=
  (err ≠ 0 ∧ err = lockErr false t (h && th == t) 260 ∧ r = false ∧ th' = th ∧ h' = h ∧ sp' = sp) ∨
  (err = 0 ∧ (0 ≤ t ∧ t < 8) ∧ h = true ∧ th ≠ t ∧ r = false ∧ th' = th ∧ h' = true ∧ sp' = upd sp t.toNat (IntKind.i64.wrap (sp t.toNat + 1))) ∨
  (err = 0 ∧ (0 ≤ t ∧ t < 8) ∧ h = false ∧ r = true ∧ th' = t ∧ h' = true ∧ sp' = upd sp t.toNat 0)

def FreeStep (t th : Int) (h : Bool) (err th' : Int) (h' : Bool) : Prop :=
  (err ≠ 0 ∧ err = lockErr false t (!(h && th == t)) 261 ∧ th' = th ∧ h' = h) ∨
  (err = 0 ∧ (0 ≤ t ∧ t < 8) ∧ h = true ∧ th = t ∧ th' = 0 ∧ h' = false)

theorem ltry_in (b : Nat) (th : Int) (h : Bool) (sp : Nat → Int) (t : Int) (ht : 0 ≤ t ∧ t < 8) (w : World) (hl : LockAt w b th h sp) :
    Calls Try.prog 48 #[.pointer (some ⟨b, 0, none⟩), .int .i64 t] w fun e w' => e = .returned (.bool (!h)) ∧ Grow (fun k => k = b) w w' ∧
      LockAt w' b (if h then th else t) true (upd sp t.toNat (if h then IntKind.i64.wrap (sp t.toNat + 1) else 0)) := by
  obtain ⟨k, rfl⟩ : ∃ k : Nat, t = (k : Int) := ⟨t.toNat, by omega⟩
  have hk : k < 8 := by omega
  cases h with
  | true =>
    refine (try_held b th sp k hk w hl).mono ?_
    rintro e w' ⟨rfl, rfl⟩
    have g : Grow (fun j => j = b) w (w.setCell ⟨b, 2 + k, none⟩ (.int .i64 (IntKind.i64.wrap (sp k + 1)))) := Grow.setCell (own := fun j => j = b) _ _ _ rfl
    refine ⟨rfl, g.trans (Grow.drew _ _), ?_⟩
    have := (hl.setS k hk (IntKind.i64.wrap (sp k + 1)))
    have := this.kept (w' := (w.setCell ⟨b, 2 + k, none⟩ (.int .i64 (IntKind.i64.wrap (sp k + 1)))).drew) rfl
    simpa only [Int.toNat_natCast, if_true] using this
  | false =>
    refine (try_free b th sp k hk w hl).mono ?_
    rintro e w' ⟨rfl, rfl⟩
    refine ⟨rfl, ((Grow.setCell (own := fun j => j = b) _ _ _ rfl).trans (Grow.setCell (own := fun j => j = b) _ _ _ rfl)).trans (Grow.setCell (own := fun j => j = b) _ _ _ rfl), ?_⟩
    have := ((hl.set0 k).set1 true).setS k hk 0
    simpa using this

theorem lfree_in (b B : Nat) (th : Int) (h : Bool) (sp : Nat → Int) (t : Int) (w : World) (hl : LockAt w b th h sp) (h0 : w.cell? ⟨B, 0, none⟩ = some (.pointer (some ⟨b, 0, none⟩))) :
    Calls Try.prog 51 #[.int .i64 t, .pointer (some ⟨B, 0, none⟩)] w fun e w' => e = .returned (.bool true) ∧ Grow (fun k => k = b) w w' ∧ LockAt w' b 0 false sp := by
  refine (free_set b B th h sp t w hl h0).mono ?_
  rintro e w' ⟨rfl, rfl⟩
  exact ⟨rfl, (Grow.setCell (own := fun j => j = b) _ _ _ rfl).trans (Grow.setCell (own := fun j => j = b) _ _ _ rfl), (hl.set0 0).set1 false⟩

/-- three fresh boxes: the worlds behind -/
theorem three_new (w : World) (v0 v1 f e : Value) (i0 i1 i2 : Nat) : ∀ w3, ((w.alloc (.cells #[v0] i0)).alloc (.cells #[v1] i1)).alloc (.cells #[f, e] i2) = w3 →
    w3.heap.size = w.heap.size + 1 + 1 + 1 ∧ w3.cell? ⟨w.heap.size, 0, none⟩ = some v0 ∧ w3.cell? ⟨w.heap.size + 1, 0, none⟩ = some v1 ∧
    w3.cell? ⟨w.heap.size + 1 + 1, 0, none⟩ = some f ∧ w3.cell? ⟨w.heap.size + 1 + 1, 1, none⟩ = some e ∧ Newer w w3 := by
  rintro _ rfl
  exact ⟨by simp, by simp [go_sem], by simp [go_sem], by simp [go_sem], by simp [go_sem], ((Grow.alloc _ _ _).trans (Grow.alloc _ _ _)).trans (Grow.alloc _ _ _)⟩

theorem ltry_any (b : Nat) (th : Int) (h : Bool) (sp : Nat → Int) (t : Int) (w : World) (hl : LockAt w b th h sp) :
    Calls Try.prog 24 #[.pointer (some ⟨b, 0, none⟩), .int .i64 t] w fun e w' => ∃ r err th' h' sp', e = .returned (.tuple #[.bool r, .int .i64 err]) ∧
      TryStep t th h sp r err th' h' sp' ∧ LockAt w' b th' h' sp' ∧ Grow (fun k => k = b ∨ w.heap.size ≤ k) w w' := by
  have HL := Lib.hid hl
  have hb := hl.lt
  clear hl
  refine (callsIn_wide (n := 0)).1 ?_
  gi_enter Try.func24, Try.ntmps24
  gi_wp2_with fail
  obtain ⟨w3, hw3⟩ : ∃ w3, ((w.alloc (.cells #[.pointer (some ⟨b, 0, none⟩)] 40)).alloc (.cells #[.int .i64 t] 3)).alloc (.cells #[.func (.func 49) #[] #[.pointer (some ⟨w.heap.size, 0, none⟩), .pointer (some ⟨w.heap.size + 1, 0, none⟩)], .int .i64 260] 87) = w3 := ⟨_, rfl⟩
  obtain ⟨z, n0, n1, nf, ne, hN⟩ := three_new w _ _ _ _ 40 3 87 w3 hw3
  rw [hw3]
  clear hw3
  have z : w.heap.size + 1 + 1 + 1 ≤ w3.heap.size := Nat.le_of_eq z.symm
  have HN := Lib.hid hN
  have h3l := newer_lock HL.out hN
  have H3 := Lib.hid h3l
  clear hN h3l
  refine (callsIn_wide.2 (told1_any (some ⟨b, 0, none⟩) false t 49 #[] _ (h && th == t) 260 (w.heap.size + 1 + 1) 48 _ #[] w3
    (fun v W W' => v = .bool (!h) ∧ Grow (fun k => k = b) W W' ∧ LockAt W' b (if h then th else t) true (upd sp t.toNat (if h then IntKind.i64.wrap (sp t.toNat + 1) else 0)))
    (by decide) nf ne ?eg ?hn ?h3 ?ht)).mono ?_
  case eg => rintro f (rfl | rfl) args w <;> kernel_rfl
  case hn =>
    intro W hW
    refine (lnone_at _ _ _ (newer_lock H3.out hW).c10).mono ?_
    rintro e W' ⟨rfl, rfl⟩
    exact ⟨rfl, rfl⟩
  case h3 =>
    intro _ W hW
    exact try_is b w.heap.size th h sp t W (newer_lock H3.out hW) (newer_cell n0 hW) (newer_cell n1 hW)
  case ht =>
    intro h0 W hW
    refine (ltry_in b th h sp t ((lockErr_zero (by decide)).1 h0).1 W (newer_lock H3.out hW)).mono ?_
    rintro e W' ⟨rfl, hg, hl'⟩
    exact ⟨_, rfl, ⟨rfl, hg, hl'⟩, hg.mono (fun k hk => by have hk : k = b := hk; have := H3.out.lt; show k < w3.heap.size; omega)⟩
  clear n0 n1 nf ne
  rintro e w' (⟨he, rfl, hg⟩ | ⟨he, v, W, W', hN', ⟨rfl, hgR, hlR⟩, rfl, hgr⟩)
  · have HG := Lib.hid hg
    have HE := Lib.hid he
    clear hg he
    gi_wp2
    go_ret2
    exact ⟨false, _, th, h, sp, rfl, .inl ⟨HE.out, rfl, rfl, rfl, rfl, rfl⟩, newer_lock H3.out HG.out, (HN.out.trans (HG.out.mono (fun k hk => by have hk : w3.heap.size ≤ k := hk; show w.heap.size ≤ k; omega))).mono (fun k hk => .inr hk)⟩
  · have HR := Lib.hid (And.intro (And.intro hN' he) (And.intro hgR (And.intro hlR hgr)))
    clear hN' he hgR hlR hgr
    gi_wp2
    go_ret2
    obtain ⟨⟨hN', he⟩, hgR, hlR, hgr⟩ := HR.out
    obtain ⟨ht, ho⟩ := (lockErr_zero (by decide)).1 he
    refine ⟨_, _, if h then th else t, true, _, rfl, ?_, hlR.grow hgr (fun hk => by have hk : w3.heap.size ≤ b := hk; have := H3.out.lt; omega), ?_⟩
    · cases h with
      | true => exact .inr (.inl ⟨rfl, ht, rfl, by simpa using ho, rfl, rfl, rfl, rfl⟩)
      | false => exact .inr (.inr ⟨rfl, ht, rfl, rfl, rfl, rfl, rfl⟩)
    · refine ((HN.out.mono ?_).trans (hN'.mono ?_)).trans ((hgR.mono ?_).trans (hgr.mono ?_))
      · exact fun k hk => .inr hk
      · exact fun k hk => .inr (by have hk : w3.heap.size ≤ k := hk; omega)
      · exact fun k hk => .inl hk
      · exact fun k hk => .inr (by have hk : w3.heap.size ≤ k := hk; omega)

theorem lfree_any (b : Nat) (th : Int) (h : Bool) (sp : Nat → Int) (t : Int) (w : World) (hl : LockAt w b th h sp) :
    Calls Try.prog 26 #[.pointer (some ⟨b, 0, none⟩), .int .i64 t] w fun e w' => ∃ err th' h', e = .returned (.int .i64 err) ∧
      FreeStep t th h err th' h' ∧ LockAt w' b th' h' sp ∧ Grow (fun k => k = b ∨ w.heap.size ≤ k) w w' := by
  have HL := Lib.hid hl
  have hb := hl.lt
  clear hl
  refine (callsIn_wide (n := 0)).1 ?_
  gi_enter Try.func26, Try.ntmps26
  gi_wp2_with fail
  obtain ⟨w3, hw3⟩ : ∃ w3, ((w.alloc (.cells #[.pointer (some ⟨b, 0, none⟩)] 40)).alloc (.cells #[.int .i64 t] 3)).alloc (.cells #[.func (.func 52) #[] #[.pointer (some ⟨w.heap.size, 0, none⟩), .pointer (some ⟨w.heap.size + 1, 0, none⟩)], .int .i64 261] 87) = w3 := ⟨_, rfl⟩
  obtain ⟨z, n0, n1, nf, ne, hN⟩ := three_new w _ _ _ _ 40 3 87 w3 hw3
  rw [hw3]
  clear hw3
  have z : w.heap.size + 1 + 1 + 1 ≤ w3.heap.size := Nat.le_of_eq z.symm
  have HN := Lib.hid hN
  have h3l := newer_lock HL.out hN
  have H3 := Lib.hid h3l
  clear hN h3l
  obtain ⟨q, hq⟩ : ∃ q, q = !(h && th == t) := ⟨_, rfl⟩
  have HQ := Lib.hid hq
  clear hq
  refine (callsIn_wide.2 (told1_any (some ⟨b, 0, none⟩) false t 52 #[] _ q 261 (w.heap.size + 1 + 1) 51 #[] _ w3
    (fun v W W' => v = .bool true ∧ Grow (fun k => k = b) W W' ∧ LockAt W' b 0 false sp)
    (by decide) nf ne ?eg ?hn ?h3 ?ht)).mono ?_
  case eg => rintro f (rfl | rfl) args w <;> kernel_rfl
  case hn =>
    intro W hW
    refine (lnone_at _ _ _ (newer_lock H3.out hW).c10).mono ?_
    rintro e W' ⟨rfl, rfl⟩
    exact ⟨rfl, rfl⟩
  case h3 =>
    intro _ W hW
    rw [HQ.out]
    exact free_is b w.heap.size th h sp t W (newer_lock H3.out hW) (newer_cell n0 hW) (newer_cell n1 hW)
  case ht =>
    intro h0 W hW
    refine (lfree_in b w.heap.size th h sp t W (newer_lock H3.out hW) (newer_cell n0 hW)).mono ?_
    rintro e W' ⟨rfl, hg, hl'⟩
    exact ⟨_, rfl, ⟨rfl, hg, hl'⟩, hg.mono (fun k hk => by have hk : k = b := hk; have := H3.out.lt; show k < w3.heap.size; omega)⟩
  clear n0 n1 nf ne
  rintro e w' (⟨he, rfl, hg⟩ | ⟨he, v, W, W', hN', ⟨rfl, hgR, hlR⟩, rfl, hgr⟩)
  · have HG := Lib.hid hg
    have HE := Lib.hid he
    clear hg he
    gi_wp2
    go_ret
    exact ⟨_, th, h, rfl, .inl ⟨HE.out, by rw [HQ.out], rfl, rfl⟩, newer_lock H3.out HG.out, (HN.out.trans (HG.out.mono (fun k hk => by have hk : w3.heap.size ≤ k := hk; show w.heap.size ≤ k; omega))).mono (fun k hk => .inr hk)⟩
  · have HR := Lib.hid (And.intro (And.intro hN' he) (And.intro hgR (And.intro hlR hgr)))
    clear hN' he hgR hlR hgr
    gi_wp2
    go_ret
    obtain ⟨⟨hN', he⟩, hgR, hlR, hgr⟩ := HR.out
    obtain ⟨ht, ho⟩ := (lockErr_zero (by decide)).1 he
    refine ⟨_, 0, false, rfl, ?_, hlR.grow hgr (fun hk => by have hk : w3.heap.size ≤ b := hk; have := H3.out.lt; omega), ?_⟩
    · have ho' : h = true ∧ th = t := by have := HQ.out; rw [ho] at this; simpa using this
      exact .inr ⟨rfl, ht, ho'.1, ho'.2, rfl, rfl⟩
    · refine ((HN.out.mono ?_).trans (hN'.mono ?_)).trans ((hgR.mono ?_).trans (hgr.mono ?_))
      · exact fun k hk => .inr hk
      · exact fun k hk => .inr (by have hk : w3.heap.size ≤ k := hk; omega)
      · exact fun k hk => .inl hk
      · exact fun k hk => .inr (by have hk : w3.heap.size ≤ k := hk; omega)

theorem lspins_any (b : Nat) (th : Int) (h : Bool) (sp : Nat → Int) (t : Int) (w : World) (hl : LockAt w b th h sp) :
    Calls Try.prog 28 #[.pointer (some ⟨b, 0, none⟩), .int .i64 t] w fun e w' => ∃ v, e = .returned (.tuple #[.int .i64 v, .int .i64 (lockErr0 false t)]) ∧ (0 ≤ t ∧ t < 8 → v = sp t.toNat) ∧ (¬ (0 ≤ t ∧ t < 8) → v = 0) ∧
      LockAt w' b th h sp ∧ Grow (fun k => w.heap.size ≤ k) w w' := by
  have HL := Lib.hid hl
  have hb := hl.lt
  clear hl
  refine (callsIn_wide (n := 0)).1 ?_
  gi_enter Try.func28, Try.ntmps28
  gi_wp2_with fail
  obtain ⟨w3, hw3⟩ : ∃ w3, w.alloc (.cells #[.pointer (some ⟨b, 0, none⟩)] 40) = w3 := ⟨_, rfl⟩
  rw [hw3]
  have hN : Newer w w3 ∧ w3.cell? ⟨w.heap.size, 0, none⟩ = some (.pointer (some ⟨b, 0, none⟩)) ∧ w.heap.size + 1 ≤ w3.heap.size := by
    subst hw3
    exact ⟨Grow.alloc _ _ _, by simp [go_sem], by simp⟩
  clear hw3
  obtain ⟨hN, n0, z⟩ := hN
  have HN := Lib.hid hN
  have h3l := newer_lock HL.out hN
  have H3 := Lib.hid h3l
  clear hN h3l
  refine (callsIn_wide.2 (told0_any (some ⟨b, 0, none⟩) false t 54 #[] _ w3
    (fun v W W' => v = .int .i64 (sp t.toNat) ∧ W = W')
    ?eg ?hn ?ht)).mono ?_
  case eg => rintro args w; kernel_rfl
  case hn =>
    intro W hW
    refine (lnone_at _ _ _ (newer_lock H3.out hW).c10).mono ?_
    rintro e W' ⟨rfl, rfl⟩
    exact ⟨rfl, rfl⟩
  case ht =>
    intro h0 W hW
    obtain ⟨h1, h2⟩ := lockErr0_zero.1 h0
    obtain ⟨k, rfl⟩ : ∃ k : Nat, t = (k : Int) := ⟨t.toNat, by omega⟩
    have hk : k < 8 := by omega
    refine (spins_get b w.heap.size th h sp k hk W (newer_lock H3.out hW) (newer_cell n0 hW)).mono ?_
    rintro e W' ⟨rfl, rfl⟩
    exact ⟨_, rfl, ⟨rfl, rfl⟩, Grow.refl _ _⟩
  clear n0
  rintro e w' (⟨he, rfl, hg⟩ | ⟨he, v, W, W', hN', ⟨rfl, rfl⟩, rfl, hgr⟩)
  · have HG := Lib.hid hg
    have HE := Lib.hid he
    clear hg he
    gi_wp2
    go_ret2
    refine ⟨0, rfl, fun h => absurd (lockErr0_zero.2 h) HE.out, fun _ => rfl, newer_lock H3.out HG.out, HN.out.trans (HG.out.mono (fun k hk => by have hk : w3.heap.size ≤ k := hk; show w.heap.size ≤ k; omega))⟩
  · have HR := Lib.hid (And.intro (And.intro hN' he) hgr)
    clear hN' he hgr
    gi_wp2
    go_ret2
    obtain ⟨⟨hN', he⟩, hgr⟩ := HR.out
    refine ⟨sp t.toNat, by rw [he]; rfl, fun _ => rfl, fun h => absurd (lockErr0_zero.1 he) h, (newer_lock H3.out hN').grow hgr (fun hk => by have hk : w3.heap.size ≤ b := hk; have := H3.out.lt; omega), (HN.out.trans (hN'.mono ?_)).trans (hgr.mono ?_)⟩
    · exact fun k hk => by have hk : w3.heap.size ≤ k := hk; show w.heap.size ≤ k; omega
    · exact fun k hk => by have hk : w3.heap.size ≤ k := hk; show w.heap.size ≤ k; omega

end Go.Proofs.Ytbfadogjkhoohaa
