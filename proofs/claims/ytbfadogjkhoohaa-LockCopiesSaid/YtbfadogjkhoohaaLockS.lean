/- the walk of waterlinelaw16.LockCopies -/
import Derived.Test.YtbfadogjkhoohaaLockR
import Derived.Deep.RegionHeld3
namespace Go.Proofs.Ytbfadogjkhoohaa
open Go.RowKit
attribute [local go_sem] Oper.semAt_some undef

theorem PlayA.close {w : World} {B D b : Nat} {th : Int} {h : Bool} {sp : Nat → Int} {c : Int} {S : Nat → Int} {wr : World} (p : PlayA w B D b th h sp c S wr) (hBD : B ≤ D) : PlayI w B D b th h sp (refPut wr D (RC th h) sp) := by
  have g := grow_refPut wr D (RC th h) sp
  have lb := p.at_.lt
  have hB' := p.lb
  exact ⟨p.at_.grow g p.ne, p.lv, p.ref.put _ _, p.ne, p.lb, p.g.trans (g.below (fun k hk => by have hk : k = D := hk; omega) (by omega))⟩

/-- two locks, and the document's beside each -/
structure EndI (w : World) (B q1 q2 b1 b2 : Nat) (th1 : Int) (h1 : Bool) (sp1 : Nat → Int) (th2 : Int) (h2 : Bool) (sp2 : Nat → Int) (wr : World) : Prop where
  l1 : LockAt wr b1 th1 h1 sp1
  v1 : LV th1 h1
  l2 : LockAt wr b2 th2 h2 sp2
  v2 : LV th2 h2
  r1 : RefAt wr q1 (RC th1 h1) sp1
  r2 : RefAt wr q2 (RC th2 h2) sp2
  lb : B ≤ b1
  g : Below B w wr

section
variable {w : World} {B q1 q2 b1 b2 : Nat} {th1 : Int} {h1 : Bool} {sp1 : Nat → Int} {th2 : Int} {h2 : Bool} {sp2 : Nat → Int} {wr W : World}
theorem EndI.newer (p : EndI w B q1 q2 b1 b2 th1 h1 sp1 th2 h2 sp2 wr) (n : Newer wr W) : EndI w B q1 q2 b1 b2 th1 h1 sp1 th2 h2 sp2 W :=
  have f1 : ¬ wr.heap.size ≤ q1 := by have := p.r1.lt; omega
  have f2 : ¬ wr.heap.size ≤ q2 := by have := p.r2.lt; omega
  have lt := p.l1.lt
  have lb := p.lb
  ⟨newer_lock p.l1 n, p.v1, newer_lock p.l2 n, p.v2, p.r1.grow n f1, p.r2.grow n f2, p.lb, p.g.trans (n.below (fun k hk => by have hk : wr.heap.size ≤ k := hk; omega) (by omega))⟩
theorem EndI.drew (p : EndI w B q1 q2 b1 b2 th1 h1 sp1 th2 h2 sp2 wr) : EndI w B q1 q2 b1 b2 th1 h1 sp1 th2 h2 sp2 wr.drew := p.newer (Grow.drew _ _)
theorem EndI.full {c1 c2 : Int} (p : EndI w B q1 q2 b1 b2 th1 h1 sp1 th2 h2 sp2 wr) (k1 : RC th1 h1 = c1) (k2 : RC th2 h2 = c2) : EndI w B q1 q2 b1 b2 th1 h1 sp1 th2 h2 sp2 wr ∧
    wr.cell? ⟨q1, 0, none⟩ = some (.int .i64 c1) ∧ wr.cell? ⟨q1, 1, none⟩ = some (.int .i64 (sp1 0)) ∧ wr.cell? ⟨q1, 2, none⟩ = some (.int .i64 (sp1 1)) ∧ wr.cell? ⟨q1, 3, none⟩ = some (.int .i64 (sp1 2)) ∧
    wr.cell? ⟨q1, 4, none⟩ = some (.int .i64 (sp1 3)) ∧ wr.cell? ⟨q1, 5, none⟩ = some (.int .i64 (sp1 4)) ∧ wr.cell? ⟨q1, 6, none⟩ = some (.int .i64 (sp1 5)) ∧ wr.cell? ⟨q1, 7, none⟩ = some (.int .i64 (sp1 6)) ∧ wr.cell? ⟨q1, 8, none⟩ = some (.int .i64 (sp1 7)) ∧
    wr.cell? ⟨q2, 0, none⟩ = some (.int .i64 c2) ∧ wr.cell? ⟨q2, 1, none⟩ = some (.int .i64 (sp2 0)) ∧ wr.cell? ⟨q2, 2, none⟩ = some (.int .i64 (sp2 1)) ∧ wr.cell? ⟨q2, 3, none⟩ = some (.int .i64 (sp2 2)) ∧
    wr.cell? ⟨q2, 4, none⟩ = some (.int .i64 (sp2 3)) ∧ wr.cell? ⟨q2, 5, none⟩ = some (.int .i64 (sp2 4)) ∧ wr.cell? ⟨q2, 6, none⟩ = some (.int .i64 (sp2 5)) ∧ wr.cell? ⟨q2, 7, none⟩ = some (.int .i64 (sp2 6)) ∧ wr.cell? ⟨q2, 8, none⟩ = some (.int .i64 (sp2 7)) :=
  ⟨p, k1 ▸ p.r1.c0, p.r1.c1, p.r1.c2, p.r1.c3, p.r1.c4, p.r1.c5, p.r1.c6, p.r1.c7, p.r1.c8, k2 ▸ p.r2.c0, p.r2.c1, p.r2.c2, p.r2.c3, p.r2.c4, p.r2.c5, p.r2.c6, p.r2.c7, p.r2.c8⟩
end

/-- are two locks the same, as the document tells -/
def same2 (th1 : Int) (h1 : Bool) (sp1 : Nat → Int) (th2 : Int) (h2 : Bool) (sp2 : Nat → Int) : Bool := RC th1 h1 == RC th2 h2 && all8 sp1 sp2

theorem same2_iff {th1 : Int} {h1 : Bool} {sp1 : Nat → Int} {th2 : Int} {h2 : Bool} {sp2 : Nat → Int} (v1 : LV th1 h1) (v2 : LV th2 h2) :
    same2 th1 h1 sp1 th2 h2 sp2 = true ↔ th1 = th2 ∧ h1 = h2 ∧ ∀ k, k < 8 → sp1 k = sp2 k := by
  unfold same2
  rw [Bool.and_eq_true, beq_iff_eq, all8_iff]
  unfold RC
  constructor
  · rintro ⟨h, k⟩
    cases h1 <;> cases h2
    · exact ⟨by rw [v1.2 rfl, v2.2 rfl], rfl, k⟩
    · have := v2.1 rfl; simp at h; omega
    · have := v1.1 rfl; simp at h; omega
    · simp at h; exact ⟨h, rfl, k⟩
  · rintro ⟨rfl, rfl, k⟩
    exact ⟨rfl, k⟩

theorem lsame2 (b c : Nat) (th th' : Int) (h h' : Bool) (sp sp' : Nat → Int) (d : Bool) (w : World) (hl : LockAt w b th h sp) (hl' : LockAt w c th' h' sp') (v1 : LV th h) (v2 : LV th' h') (hd : same2 th h sp th' h' sp' = d) :
    Calls Try.prog 33 #[.pointer (some ⟨b, 0, none⟩), .pointer (some ⟨c, 0, none⟩)] w fun e w' => e = .returned (.bool d) ∧ Newer w w' := by
  refine (lsame_ok b c th th' h h' sp sp' w hl hl').mono ?_
  rintro e w' ⟨v, rfl, hv, g⟩
  have : v = d := by rw [← hd, Bool.eq_iff_iff, hv, same2_iff v1 v2]
  subst this
  exact ⟨rfl, (Newer.refl w).ofGrow g⟩
theorem lsame2' (b c : Nat) (th th' : Int) (h h' : Bool) (sp sp' : Nat → Int) (d : Bool) (w : World) (hl : LockAt w b th h sp) (hl' : LockAt w c th' h' sp') (v1 : LV th h) (v2 : LV th' h') (hd : same2 th h sp th' h' sp' = d) :
    Calls Try.prog 33 #[.pointer (some ⟨c, 0, none⟩), .pointer (some ⟨b, 0, none⟩)] w fun e w' => e = .returned (.bool d) ∧ Newer w w' := by
  refine (lsame_ok c b th' th h' h sp' sp w hl' hl).mono ?_
  rintro e w' ⟨v, rfl, hv, g⟩
  have : v = d := by
    rw [← hd, Bool.eq_iff_iff, hv, same2_iff v1 v2]
    exact ⟨fun h => ⟨h.1.symm, h.2.1.symm, fun k hk => (h.2.2 k hk).symm⟩, fun h => ⟨h.1.symm, h.2.1.symm, fun k hk => (h.2.2 k hk).symm⟩⟩
  subst this
  exact ⟨rfl, (Newer.refl w).ofGrow g⟩
theorem works16_newer (w : World) : Calls Try.prog 21 #[] w fun e w' => e = .returned (.bool true) ∧ Newer w w' :=
  (works16 w).mono fun _ _ h => ⟨h.1, Grow.ofBelow h.2⟩

end Go.Proofs.Ytbfadogjkhoohaa
