/- contracts of package seq over an abstract world behind the call -/
import Derived.Test.YtbfadogjkhoohaaSeqF
namespace Go.Proofs.Ytbfadogjkhoohaa
open Go.RowKit

/-- behind a method on the seqlock at b: it holds n, nothing else has turned -/
structure SeqStep (b : Nat) (n : Int) (w w' : World) : Prop where
  at_ : SeqAt w' b n
  grow : Grow (fun k => k = b) w w'

theorem SeqStep.below {b : Nat} {n : Int} {w w' : World} (h : SeqStep b n w w') {m : Nat} (hm : m ≤ b) (hw : b < w.heap.size) : Below m w w' :=
  h.grow.below (fun k hk => by rw [hk]; exact hm) (by omega)

theorem new_st (w : World) : Calls Try.prog 14 #[] w fun e w' => e = .returned (.pointer (some ⟨w.heap.size, 0, none⟩)) ∧ SeqAt w' w.heap.size 0 ∧ Grow (fun _ => False) w w' ∧ w'.heap.size = w.heap.size + 1 :=
  (new_any w).mono (by rintro e w' ⟨rfl, rfl⟩; exact ⟨rfl, ⟨by go_simp, by go_simp, by go_simp⟩, Grow.alloc _ _ _, by simp⟩)
theorem begin_st (b : Nat) (n : Int) (w : World) (hs : SeqAt w b n) (h0 : 0 ≤ n) (h1 : n < 9000000000000000000) (h : n % 2 = 0) :
    Calls Try.prog 15 #[.pointer (some ⟨b, 0, none⟩)] w fun e w' => e = .returned (.tuple #[.int .u64 (n+1), .int .i64 0]) ∧ SeqStep b (n+1) w w' :=
  (begin_ok b n w hs h0 h1 h).mono (by rintro e w' ⟨rfl, rfl⟩; exact ⟨rfl, hs.put _, Grow.setCell _ _ _ rfl⟩)
theorem end_st (b : Nat) (n : Int) (w : World) (hs : SeqAt w b n) (h0 : 0 ≤ n) (h1 : n < 9000000000000000000) (h : n % 2 = 1) :
    Calls Try.prog 16 #[.pointer (some ⟨b, 0, none⟩)] w fun e w' => e = .returned (.tuple #[.int .u64 (n+1), .int .i64 0]) ∧ SeqStep b (n+1) w w' :=
  (end_ok b n w hs h0 h1 h).mono (by rintro e w' ⟨rfl, rfl⟩; exact ⟨rfl, hs.put _, Grow.setCell _ _ _ rfl⟩)
theorem good_st (b : Nat) (n x : Int) (w : World) (hs : SeqAt w b n) (h0 : 0 ≤ n) (h1 : n < 9000000000000000000) :
    Calls Try.prog 20 #[.pointer (some ⟨b, 0, none⟩), .int .u64 x] w fun e w' => e = .returned (.bool (n % 2 == 0 && n == x)) ∧ SeqStep b n w w' := by
  rcases Int.emod_two_eq n with h | h
  · exact (good_even b n x w hs h0 h1 h).mono (by rintro e w' ⟨rfl, rfl⟩; exact ⟨by simp [h], hs.alloc _, Grow.alloc _ _ _⟩)
  · exact (good_odd b n x w hs h0 h).mono (by rintro e w' ⟨rfl, rfl⟩; exact ⟨by simp [h], hs, Grow.refl _ _⟩)
theorem settle_st (b : Nat) (n : Int) (w : World) (hs : SeqAt w b n) (h0 : 0 ≤ n) (h1 : n < 9000000000000000000) :
    Calls Try.prog 29 #[.pointer (some ⟨b, 0, none⟩)] w fun e w' => e = .returned (.bool (n % 2 == 1)) ∧ SeqStep b (n + n % 2) w w' := by
  rcases Int.emod_two_eq n with h | h
  · exact (settle_even b n w hs h0 h).mono (by rintro e w' ⟨rfl, rfl⟩; exact ⟨by simp [h], by rw [h, Int.add_zero]; exact hs.alloc _, Grow.alloc _ _ _⟩)
  · exact (settle_odd b n w hs h0 h1 h).mono (by rintro e w' ⟨rfl, rfl⟩; exact ⟨by simp [h], by rw [h]; exact (hs.alloc _).put _, (Grow.alloc _ _ _).trans (Grow.setCell _ _ _ rfl)⟩)
theorem copy_st (b : Nat) (n : Int) (w : World) (hs : SeqAt w b n) :
    Calls Try.prog 35 #[.pointer (some ⟨b, 0, none⟩)] w fun e w' => e = .returned (.pointer (some ⟨w.heap.size, 0, none⟩)) ∧ SeqAt w' w.heap.size n ∧ SeqAt w' b n ∧ Grow (fun _ => False) w w' ∧ w'.heap.size = w.heap.size + 1 :=
  (copy_ok b n w hs).mono (by rintro e w' ⟨rfl, rfl⟩; exact ⟨rfl, ⟨by go_simp, by go_simp, by go_simp⟩, hs.alloc _, Grow.alloc _ _ _, by simp⟩)
theorem same_st (b c : Nat) (n m : Int) (w : World) (hs : SeqAt w b n) (ht : SeqAt w c m) :
    Calls Try.prog 36 #[.pointer (some ⟨b, 0, none⟩), .pointer (some ⟨c, 0, none⟩)] w fun e w' => e = .returned (.bool (n == m)) ∧ Grow (fun _ => False) w w' :=
  (same_ok b c n m w hs ht).mono (by rintro e w' ⟨rfl, k, rfl⟩; exact ⟨rfl, ⟨rfl, rfl, rfl, Nat.le_refl _, fun _ _ _ => rfl⟩⟩)
theorem SeqAt.grow {w w' : World} {b : Nat} {n : Int} {own : Nat → Prop} (h : SeqAt w b n) (hg : Grow own w w') (hn : ¬ own b) : SeqAt w' b n :=
  ⟨(hg.cell (p := ⟨b, 0, none⟩) h.lt hn).trans h.c0, (hg.cell (p := ⟨b, 1, none⟩) h.lt hn).trans h.c1, (hg.frozen (p := ⟨b, 0, none⟩) h.lt hn).trans h.f0⟩
theorem changes_st (f u : Int) (w : World) (hf0 : 0 ≤ f) (hu : u ≤ 18446744073709551615) : Calls Try.prog 12 #[.int .u64 f, .int .u64 u] w fun e w' =>
    e = .returned (.func (.func 38) #[] #[.pointer (some ⟨w.heap.size, 0, none⟩), .pointer (some ⟨w.heap.size + 1, 0, none⟩)]) ∧
    Iter Try.prog 38 #[.pointer (some ⟨w.heap.size, 0, none⟩), .pointer (some ⟨w.heap.size + 1, 0, none⟩)] (fun x : Int => #[.int .u64 x]) (changes f u) (fun k => k = w.heap.size ∨ k = w.heap.size + 1) w' ∧
    Grow (fun _ => False) w w' ∧ w'.heap.size = w.heap.size + 2 :=
  (changes_any f u w).mono (by
    rintro e w' ⟨rfl, rfl⟩
    exact ⟨rfl, changes_iter _ _ f u _ hf0 hu (by simp; omega) (by simp) (by go_simp) (by go_simp), (Grow.alloc _ _ _).trans (Grow.alloc _ _ _), by simp⟩)

end Go.Proofs.Ytbfadogjkhoohaa
