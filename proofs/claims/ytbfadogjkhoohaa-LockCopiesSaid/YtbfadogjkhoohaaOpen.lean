/- arguments opened: a slice of pairs of numbers -/
import Derived.Deep.Slices
import Derived.ChangeShapes
import Derived.WideShapes
import Derived.OpenShut
namespace Go.Proofs.Ytbfadogjkhoohaa
open Go.WideShapes Go.ChangeShapes
section
variable {H : Type} {enc : TypeId × Value → H} {P : Program} {w : World} {base : Nat} {spare : Nat → Bool} {held : Bool}

theorem open_pairs {t e t0 t1 : TypeId} {k0 k1 : IntKind} {fs : Array Field} {f0 f1 : Field} {v : Value} {d : DataW H} {ps : List MemPlace}
    (ht : P.underlying t = some (.slice e)) (he : P.underlying e = some (.struct fs)) (e0 : fs[0]? = some f0) (e1 : fs[1]? = some f1) (o0 : f0.offset = 0) (o1 : f1.offset = 1)
    (y0 : f0.type = t0) (y1 : f1.type = t1) (h0 : P.underlying t0 = some (.int k0)) (h1 : P.underlying t1 = some (.int k1)) (c0 : P.cellsOf t0 = 1) (c1 : P.cellsOf t1 = 1) (ce : P.cellsOf e = 2)
    {r : Reach} {b0 : Nat} {w0 : World} (hval : Value.okWide P w0 r b0 t v) (hd : DataW.Trod enc P w base spare held t v d ps) :
    ∃ (sa : Option Addr) (n cap : Nat) (F G : Nat → Int), v = .slice sa n cap ∧ n ≤ maxLen ∧ ∀ i, i < n → ∃ A : Addr, sa = some A ∧
      w.cell? (A.add (i * 2)) = some (.int k0 (F i)) ∧ w.cell? ⟨(A.add (i * 2)).block, (A.add (i * 2)).off + 1, none⟩ = some (.int k1 (G i)) ∧ (Lit.int k0 (F i)).wf = true ∧ (Lit.int k1 (G i)).wf = true := by
  obtain ⟨sa, n, cap, rfl⟩ := okWide_slice ht hval
  obtain ⟨fuel, hf⟩ := hd
  rcases Go.Deep.open_slice ht hf with ⟨h, _⟩ | ⟨a, len, cap', m, n', D, Pl, h, hb, hl, hm, hmm, _, hx⟩
  · simp only [Value.cells, List.cons.injEq, Value.slice.injEq] at h
    obtain ⟨⟨rfl, rfl, rfl⟩, -⟩ := h
    exact ⟨none, 0, 0, fun _ => 0, fun _ => 0, rfl, Nat.zero_le _, fun i hi => absurd hi (Nat.not_lt_zero _)⟩
  · simp only [Value.cells, List.cons.injEq, Value.slice.injEq] at h
    obtain ⟨⟨rfl, rfl, rfl⟩, -⟩ := h
    have hle : n ≤ m := by rw [hmm]; split <;> omega
    have key : ∀ i, i < n → ∃ x : Int × Int, w.cell? (a.add (i * 2)) = some (.int k0 x.1) ∧ w.cell? ⟨(a.add (i * 2)).block, (a.add (i * 2)).off + 1, none⟩ = some (.int k1 x.2) ∧ (Lit.int k0 x.1).wf = true ∧ (Lit.int k1 x.2).wf = true := by
      intro i hi
      obtain ⟨cs, hc, ht'⟩ := hx i (by omega)
      rw [ce] at hc
      obtain ⟨_, hlen, hcell⟩ := World.cells?_some hc
      obtain ⟨xs, n2, rfl, _, _, _, hfld⟩ := DataW.trod_struct he ht'
      match cs, hlen with
      | [u, v], _ =>
        have g0 := hfld 0 f0 e0
        have g1 := hfld 1 f1 e1
        rw [y0, o0, c0] at g0
        rw [y1, o1, c1] at g1
        have hx0 : xs[0]? ≠ none := by
          intro h
          rw [List.getElem?_eq_none_iff] at h
          have : 0 < fs.size := by
            rcases Nat.lt_or_ge 0 fs.size with h | h
            · exact h
            · rw [Array.getElem?_eq_none h] at e0; cases e0
          omega
        have hx1 : xs[1]? ≠ none := by
          intro h
          rw [List.getElem?_eq_none_iff] at h
          have : 1 < fs.size := by
            rcases Nat.lt_or_ge 1 fs.size with h | h
            · exact h
            · rw [Array.getElem?_eq_none h] at e1; cases e1
          omega
        obtain ⟨x0, hx0'⟩ := Option.ne_none_iff_exists'.1 hx0
        obtain ⟨x1, hx1'⟩ := Option.ne_none_iff_exists'.1 hx1
        rw [hx0'] at g0
        rw [hx1'] at g1
        obtain ⟨a0, q0, _, w0⟩ := DataW.trod_int h0 g0
        obtain ⟨a1, q1, _, w1⟩ := DataW.trod_int h1 g1
        simp at q0 q1
        subst q0 q1
        have z0 := hcell 0 (by omega)
        have z1 := hcell 1 (by omega)
        refine ⟨(a0, a1), ?_, ?_, w0, w1⟩
        · simpa [Addr.add] using z0
        · rw [show (Addr.mk (a.add (i * 2)).block ((a.add (i * 2)).off + 1) none) = (a.add (i * 2)).add 1 from rfl, z1]
          rfl
    obtain ⟨X, hX⟩ := Go.Deep.choose_lt (α := Int × Int) key
    exact ⟨some a, n, cap, fun i => (X i).1, fun i => (X i).2, rfl, by omega, fun i hi => ⟨a, rfl, hX i hi⟩⟩
theorem open_nums {t e : TypeId} {k : IntKind} {v : Value} {d : DataW H} {ps : List MemPlace}
    (ht : P.underlying t = some (.slice e)) (he : P.underlying e = some (.int k)) (hc : P.cellsOf e = 1)
    {r : Reach} {b0 : Nat} {w0 : World} (hval : Value.okWide P w0 r b0 t v) (hd : DataW.Trod enc P w base spare held t v d ps) :
    ∃ (sa : Option Addr) (n cap : Nat) (F : Nat → Int), v = .slice sa n cap ∧ n ≤ maxLen ∧ ∀ i, i < n → ∃ A : Addr, sa = some A ∧
      w.cell? (A.add i) = some (.int k (F i)) ∧ (Lit.int k (F i)).wf = true := by
  obtain ⟨sa, n, cap, rfl⟩ := okWide_slice ht hval
  obtain ⟨fuel, hf⟩ := hd
  rcases open_ints ht he hc hf with ⟨h, _⟩ | ⟨a, len, cap', zs, h, hb, hl, hm, hz, _, hx, hw⟩
  · simp only [Value.cells, List.cons.injEq, Value.slice.injEq] at h
    obtain ⟨⟨rfl, rfl, rfl⟩, -⟩ := h
    exact ⟨none, 0, 0, fun _ => 0, rfl, Nat.zero_le _, fun i hi => absurd hi (Nat.not_lt_zero _)⟩
  · simp only [Value.cells, List.cons.injEq, Value.slice.injEq] at h
    obtain ⟨⟨rfl, rfl, rfl⟩, -⟩ := h
    have hle : n ≤ zs.length := by rw [hz]; split <;> omega
    exact ⟨some a, n, cap, fun i => zs.getD i 0, rfl, by omega, fun i hi => ⟨a, rfl, hx i (by omega), hw _ (by
      have hi' : i < zs.length := by omega
      simp [List.getD, List.getElem?_eq_getElem hi'])⟩⟩
end
end Go.Proofs.Ytbfadogjkhoohaa
