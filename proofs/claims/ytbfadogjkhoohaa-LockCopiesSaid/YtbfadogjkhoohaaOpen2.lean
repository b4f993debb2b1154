/- an argument opened: a struct of two numbers -/
import Derived.Test.YtbfadogjkhoohaaOpen
namespace Go.Proofs.Ytbfadogjkhoohaa
open Go.WideShapes Go.ChangeShapes
section
variable {H : Type} {enc : TypeId × Value → H} {P : Program} {w : World} {base : Nat} {spare : Nat → Bool} {held : Bool}

theorem open_pair {t t0 t1 : TypeId} {k0 k1 : IntKind} {fs : Array Field} {f0 f1 : Field} {v : Value} {d : DataW H} {ps : List MemPlace}
    (he : P.underlying t = some (.struct fs)) (e0 : fs[0]? = some f0) (e1 : fs[1]? = some f1) (o0 : f0.offset = 0) (o1 : f1.offset = 1)
    (y0 : f0.type = t0) (y1 : f1.type = t1) (h0 : P.underlying t0 = some (.int k0)) (h1 : P.underlying t1 = some (.int k1)) (c0 : P.cellsOf t0 = 1) (c1 : P.cellsOf t1 = 1) (ce : P.cellsOf t = 2)
    {r : Reach} {b0 : Nat} {w0 : World} (hval : Value.okWide P w0 r b0 t v) (hd : DataW.Trod enc P w base spare held t v d ps) :
    ∃ a c : Int, v = .agg #[.int k0 a, .int k1 c] ∧ (Lit.int k0 a).wf = true ∧ (Lit.int k1 c).wf = true := by
  obtain ⟨cs, rfl, hsz⟩ := okWide_struct he hval
  rw [ce] at hsz
  obtain ⟨fuel, ht'⟩ := hd
  obtain ⟨xs, n2, rfl, _, _, _, hfld⟩ := DataW.trod_struct he ht'
  have hx0 : xs[0]? ≠ none := by
    intro h
    rw [List.getElem?_eq_none_iff] at h
    have : 0 < fs.size := by
      rcases Nat.lt_or_ge 0 fs.size with h | h
      · exact h
      · rw [Array.getElem?_eq_none h] at e0; cases e0
    omega
  have hx1 : xs[1]? ≠ none := by
    intro h
    rw [List.getElem?_eq_none_iff] at h
    have : 1 < fs.size := by
      rcases Nat.lt_or_ge 1 fs.size with h | h
      · exact h
      · rw [Array.getElem?_eq_none h] at e1; cases e1
    omega
  obtain ⟨x0, hx0'⟩ := Option.ne_none_iff_exists'.1 hx0
  obtain ⟨x1, hx1'⟩ := Option.ne_none_iff_exists'.1 hx1
  have g0 := hfld 0 f0 e0
  have g1 := hfld 1 f1 e1
  rw [y0, o0, c0, hx0'] at g0
  rw [y1, o1, c1, hx1'] at g1
  obtain ⟨a0, q0, _, w0⟩ := DataW.trod_int h0 g0
  obtain ⟨a1, q1, _, w1⟩ := DataW.trod_int h1 g1
  refine ⟨a0, a1, ?_, w0, w1⟩
  match cs, hsz with
  | ⟨[u, v]⟩, _ =>
    simp [Value.cells] at q0 q1
    rw [q0, q1]
end
end Go.Proofs.Ytbfadogjkhoohaa
