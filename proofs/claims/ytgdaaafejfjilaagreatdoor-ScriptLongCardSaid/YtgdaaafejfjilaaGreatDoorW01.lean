/- contracts of package script: must, take -/
import Derived.Test.YtgdaaafejfjilaaGreatDoorProg
import Derived.WalkKit
import Derived.WalkSpells
import Derived.Handy
import Derived.WalkSmall
import Derived.Deep.RegionHeld3
import Derived.Lib.Hide
namespace Go.Proofs.YtgdaaafejfjilaaGreatDoor
open Go.RowKit

def gaveUp (e : Int) : List PanicEntry := [{ v := .iface 33 (.int .i64 e), recovered := false }]

theorem must_t (e : Int) (w : World) : Calls Tryz.prog 53 #[.bool true, .int .i64 e] w fun en w' => en = .returned (.tuple #[]) ∧ w = w' := by
  go_enter Tryz.func53, Tryz.ntmps53
  go_wp2
  go_end0
  exact ⟨rfl, rfl⟩
theorem must_f (e : Int) (w : World) : Calls Tryz.prog 53 #[.bool false, .int .i64 e] w fun en w' => en = .panicked (gaveUp e) ∧ w = w' := by
  go_enter Tryz.func53, Tryz.ntmps53
  go_wp2
  exact ⟨rfl, rfl, rfl⟩

/-- the words that are left: a slice of strings, in the cell at b; it leads to no block of K -/
def WordsAt (w : World) (K : Nat → Prop) (b : Nat) (l : List (List UInt8)) : Prop :=
  ∃ (g o cap : Nat), w.cell? ⟨b, 0, none⟩ = some (.slice (some ⟨g, o, none⟩) l.length cap) ∧ w.frozen? ⟨b, 0, none⟩ = false ∧ l.length ≤ cap ∧ cap ≤ maxLen ∧ (K b ∧ ¬ K g) ∧
    ∀ j (h : j < l.length), w.cell? ⟨g, o + j, none⟩ = some (.string ⟨(l[j]).toArray⟩)

theorem words_put {w : World} {K : Nat → Prop} {b : Nat} {l : List (List UInt8)} {g o n cap : Nat} {v : Value} (h0 : w.cell? ⟨b, 0, none⟩ = some v) (f : w.frozen? ⟨b, 0, none⟩ = false) (hl : l.length = n) (hn : n ≤ cap) (hm : cap ≤ 9223372036854775807) (hne : K b ∧ ¬ K g)
    (hx : ∀ j (h : j < l.length), w.cell? ⟨g, o + j, none⟩ = some (.string ⟨(l[j]).toArray⟩)) : WordsAt (w.setCell ⟨b, 0, none⟩ (.slice (some ⟨g, o, none⟩) n cap)) K b l := by
  refine ⟨g, o, cap, ?_, ?_, by omega, by unfold maxLen; omega, hne, fun j h => ?_⟩
  · rw [hl]; exact World.cell?_setCell_same _ _ _ h0
  · rw [World.frozen?_setCell]; exact f
  · rw [World.cell?_setCell_other]
    · exact hx j h
    · intro e
      have e : b = g := congrArg Addr.block e
      exact hne.2 (e ▸ hne.1)

set_option maxHeartbeats 800000 in
theorem take_some (K : Nat → Prop) (b : Nat) (s : List UInt8) (l : List (List UInt8)) (w : World) (h : WordsAt w K b (s :: l)) :
    Calls Tryz.prog 50 #[.pointer (some ⟨b, 0, none⟩)] w fun e w' => e = .returned (.string ⟨s.toArray⟩) ∧ WordsAt w' K b l ∧ ∃ v, w' = w.setCell ⟨b, 0, none⟩ v := by
  obtain ⟨g, o, cap, c, f, hl, hm, hne, hx⟩ := h
  have c0 : w.cell? ⟨g, o, none⟩ = some (.string ⟨s.toArray⟩) := hx 0 (by simp)
  have hn : l.length + 1 ≤ cap := by simpa using hl
  have hm' : cap ≤ 9223372036854775807 := by unfold maxLen at hm; omega
  rw [List.length_cons] at c
  have HX := Lib.hid hx
  have HNE := Lib.hid hne
  clear hx hl hm hne
  generalize hL : l.length = n at *
  have HL := Lib.hid hL
  clear hL
  by_cases hc : cap = 1
  all_goals
    go_enter Tryz.func50, Tryz.ntmps50
    go_wp2_with fail
    refine (must_t _ _).mono ?_
    rintro e w' ⟨rfl, rfl⟩
    go_wp2
    go_ret
    refine ⟨rfl, words_put c f HL.out (by omega) (by omega) HNE.out (fun j h => ?_), _, rfl⟩
    have h1 := HX.out (j + 1) (by simp; omega)
    simp only [List.getElem_cons_succ] at h1
    have hj : j < n := by rw [← HL.out]; exact h
    first
      | exact absurd hj (by omega)
      | (rw [← h1]; congr 2; omega)

theorem take_none (K : Nat → Prop) (b : Nat) (w : World) (h : WordsAt w K b []) :
    Calls Tryz.prog 50 #[.pointer (some ⟨b, 0, none⟩)] w fun e w' => e = .panicked (gaveUp 380) ∧ w = w' := by
  obtain ⟨g, o, cap, c, f, hl, hm, hne, hx⟩ := h
  rw [List.length_nil] at c
  clear hx hl hm hne
  go_enter Tryz.func50, Tryz.ntmps50
  go_wp2_with fail
  refine (must_f _ _).mono ?_
  rintro e w' ⟨rfl, rfl⟩
  go_wp2
  exact ⟨rfl, rfl, rfl⟩

end Go.Proofs.YtgdaaafejfjilaaGreatDoor
