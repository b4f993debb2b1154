/- arguments opened: an act, a slice of acts -/
import Derived.Test.YtgdaaafejfjilaaGreatDoorW20
import Derived.Deep.Slices
import Derived.ChangeShapes
import Derived.WideShapes
import Derived.OpenShut
namespace Go.Proofs.YtgdaaafejfjilaaGreatDoor
open Go.WideShapes Go.ChangeShapes
section
variable {H : Type} {enc : TypeId × Value → H} {w : World} {base : Nat} {spare : Nat → Bool} {held : Bool}

theorem cells29 : Tryz.prog.cellsOf 29 = 10 := by kernel_rfl
theorem cells26 : Tryz.prog.cellsOf 26 = 6 := by kernel_rfl
theorem cells22 : Tryz.prog.cellsOf 22 = 1 := by kernel_rfl
theorem cells23 : Tryz.prog.cellsOf 23 = 1 := by kernel_rfl
theorem cells3 : Tryz.prog.cellsOf 3 = 1 := by kernel_rfl
theorem cells9x : Tryz.prog.cellsOf 9 = 1 := by kernel_rfl
theorem cells24 : Tryz.prog.cellsOf 24 = 1 := by kernel_rfl
theorem cells27 : Tryz.prog.cellsOf 27 = 1 := by kernel_rfl
theorem cells5 : Tryz.prog.cellsOf 5 = 1 := by kernel_rfl
theorem cells4 : Tryz.prog.cellsOf 4 = 1 := by kernel_rfl

/-- a slice of one-cell elements -/
theorem open_row1 {t e : TypeId} {fuel : Nat} {cs : List Value} {x : DataW H × List MemPlace} (ht : Tryz.prog.underlying t = some (.slice e)) (hc : Tryz.prog.cellsOf e = 1) (hd : DataW.trod enc Tryz.prog w base spare held fuel t cs = some x) :
    ∃ (p : Option Addr) (n cap : Nat), cs = [.slice p n cap] ∧ n ≤ maxLen ∧ ∀ i, i < n → ∃ (A : Addr) (u : Value) (y : DataW H × List MemPlace) (m : Nat), p = some A ∧ w.cell? (A.add i) = some u ∧ DataW.trod enc Tryz.prog w base spare held m e [u] = some y := by
  rcases Go.Deep.open_slice ht hd with ⟨rfl, _⟩ | ⟨a, len, cap, m, n', D, Pl, rfl, hb, hl, hm, hmm, _, hx⟩
  · exact ⟨none, 0, 0, rfl, Nat.zero_le _, fun i hi => absurd hi (Nat.not_lt_zero _)⟩
  · have hle : len ≤ m := by rw [hmm]; split <;> omega
    refine ⟨some a, len, cap, rfl, by omega, fun i hi => ?_⟩
    obtain ⟨cs', h1, h2⟩ := hx i (by omega)
    rw [hc, Nat.mul_one] at h1
    obtain ⟨_, hlen, hcell⟩ := World.cells?_some h1
    match cs', hlen with
    | [u], _ =>
      have := hcell 0 (by omega)
      exact ⟨a, u, _, n', rfl, by simpa [Addr.add] using this, h2⟩

theorem open_bytes {fuel : Nat} {cs : List Value} {x : DataW H × List MemPlace} (hd : DataW.trod enc Tryz.prog w base spare held fuel 24 cs = some x) : ∃ (v : Value) (l : Bs), cs = [v] ∧ SliceB w v l ∧ l.length ≤ maxLen := by
  obtain ⟨p, n, cap, rfl, hn, h⟩ := open_row1 Tryz.underlying24 cells5 hd
  have key : ∀ i, i < n → ∃ c : UInt8, ∃ A : Addr, p = some A ∧ w.cell? (A.add i) = some (byteV c) := fun i hi => by
    obtain ⟨A, u, y, m, hA, hu, ht⟩ := h i hi
    obtain ⟨z, hz, _, hw⟩ := DataW.trod_int Tryz.underlying5 ht
    simp only [List.cons.injEq, and_true] at hz
    subst hz
    have hz2 : 0 ≤ z ∧ z ≤ 255 := by simpa [Lit.wf, IntKind.min, IntKind.max, IntKind.signed, IntKind.bits] using hw
    refine ⟨UInt8.ofNat z.toNat, A, hA, ?_⟩
    rw [hu]
    unfold byteV
    rw [UInt8.toNat_ofNat', show z.toNat % 2 ^ 8 = z.toNat by omega, show ((z.toNat : Nat) : Int) = z by omega]
  obtain ⟨X, hX⟩ := Go.Deep.choose_lt (α := UInt8) key
  refine ⟨_, (List.range n).map X, rfl, ⟨p, cap, by simp, fun j hj => ?_⟩, by simpa using hn⟩
  have hj' : j < n := by simpa using hj
  obtain ⟨A, hA, hc⟩ := hX j hj'
  exact ⟨A, hA, by simpa using hc⟩
theorem open_marks {fuel : Nat} {cs : List Value} {x : DataW H × List MemPlace} (hd : DataW.trod enc Tryz.prog w base spare held fuel 27 cs = some x) : ∃ (v : Value) (l : List Bool), cs = [v] ∧ SliceM w v l ∧ l.length ≤ maxLen := by
  obtain ⟨p, n, cap, rfl, hn, h⟩ := open_row1 Tryz.underlying27 cells4 hd
  have key : ∀ i, i < n → ∃ c : Bool, ∃ A : Addr, p = some A ∧ w.cell? (A.add i) = some (boolV c) := fun i hi => by
    obtain ⟨A, u, y, m, hA, hu, ht⟩ := h i hi
    obtain ⟨z, hz, _⟩ := DataW.trod_bool Tryz.underlying4 ht
    simp only [List.cons.injEq, and_true] at hz
    subst hz
    exact ⟨z, A, hA, hu⟩
  obtain ⟨X, hX⟩ := Go.Deep.choose_lt (α := Bool) key
  refine ⟨_, (List.range n).map X, rfl, ⟨p, cap, by simp, fun j hj => ?_⟩, by simpa using hn⟩
  have hj' : j < n := by simpa using hj
  obtain ⟨A, hA, hc⟩ := hX j hj'
  exact ⟨A, hA, by simpa using hc⟩

theorem add_none (g o j : Nat) : (Addr.mk g o none).add j = ⟨g, o + j, none⟩ := by unfold Addr.add; split <;> simp_all

/-- the numbers of an act are numbers of Go -/
structure I64s (a : ActL) : Prop where
  k : I64 a.kind ∧ I64 a.okind
  t : I64 a.thread
  n : I64 a.n
  at_ : I64 a.at_
  on : I64 a.on

theorem i64_of {n : Int} (h : (Lit.int .i64 n).wf = true) : I64 n := bounds_i64 h

set_option maxRecDepth 100000 in
theorem open_act {fuel : Nat} {cs : List Value} {x : DataW H × List MemPlace} (hd : DataW.trod enc Tryz.prog w base spare held fuel 29 cs = some x) :
    ∃ (a : ActL) (v8 v9 : Value), cs = [.int .i64 a.kind, .int .i64 a.thread, .int .i64 a.n, .int .i64 a.okind, .string ⟨a.path.toArray⟩, .string ⟨a.dest.toArray⟩, .int .i64 a.at_, .int .i64 a.on, v8, v9] ∧ SliceB w v8 a.bytes ∧ SliceM w v9 a.marks ∧ I64s a := by
  obtain ⟨xs, n, rfl, _, hlen, hxl, hf⟩ := DataW.trod_struct Tryz.underlying29 hd
  rw [cells29] at hlen
  match cs, hlen with
  | [c0, c1, c2, c3, c4, c5, c6, c7, c8, c9], _ =>
    match xs, hxl with
    | [y0, y1, y2, y3, y4], _ =>
      have g0 : DataW.trod enc Tryz.prog w base spare held n 22 (([c0, c1, c2, c3, c4, c5, c6, c7, c8, c9] : List Value).drop 0 |>.take (Tryz.prog.cellsOf 22)) = some y0 := hf 0 _ rfl
      rw [cells22] at g0
      have g1 : DataW.trod enc Tryz.prog w base spare held n 3 (([c0, c1, c2, c3, c4, c5, c6, c7, c8, c9] : List Value).drop 1 |>.take (Tryz.prog.cellsOf 3)) = some y1 := hf 1 _ rfl
      rw [cells3] at g1
      have g2 : DataW.trod enc Tryz.prog w base spare held n 3 (([c0, c1, c2, c3, c4, c5, c6, c7, c8, c9] : List Value).drop 2 |>.take (Tryz.prog.cellsOf 3)) = some y2 := hf 2 _ rfl
      rw [cells3] at g2
      have g3 : DataW.trod enc Tryz.prog w base spare held n 26 (([c0, c1, c2, c3, c4, c5, c6, c7, c8, c9] : List Value).drop 3 |>.take (Tryz.prog.cellsOf 26)) = some y3 := hf 3 _ rfl
      rw [cells26] at g3
      have g4 : DataW.trod enc Tryz.prog w base spare held n 27 (([c0, c1, c2, c3, c4, c5, c6, c7, c8, c9] : List Value).drop 9 |>.take (Tryz.prog.cellsOf 27)) = some y4 := hf 4 _ rfl
      rw [cells27] at g4
      obtain ⟨k, e0, _, w0⟩ := DataW.trod_int Tryz.underlying22 (show DataW.trod enc Tryz.prog w base spare held n 22 [c0] = some y0 from g0)
      obtain ⟨t, e1, _, w1⟩ := DataW.trod_int Tryz.underlying3 (show DataW.trod enc Tryz.prog w base spare held n 3 [c1] = some y1 from g1)
      obtain ⟨m, e2, _, w2⟩ := DataW.trod_int Tryz.underlying3 (show DataW.trod enc Tryz.prog w base spare held n 3 [c2] = some y2 from g2)
      obtain ⟨xs', n', rfl, _, _, hxl', hf'⟩ := DataW.trod_struct Tryz.underlying26 (show DataW.trod enc Tryz.prog w base spare held n 26 [c3, c4, c5, c6, c7, c8] = some y3 from g3)
      obtain ⟨v9, ms, e9, hM, _⟩ := open_marks (show DataW.trod enc Tryz.prog w base spare held (n' + 1) 27 [c9] = some y4 from g4)
      match xs', hxl' with
      | [z0, z1, z2, z3, z4, z5], _ =>
        have k0 : DataW.trod enc Tryz.prog w base spare held n' 23 (([c3, c4, c5, c6, c7, c8] : List Value).drop 0 |>.take (Tryz.prog.cellsOf 23)) = some z0 := hf' 0 _ rfl
        rw [cells23] at k0
        have k1 : DataW.trod enc Tryz.prog w base spare held n' 9 (([c3, c4, c5, c6, c7, c8] : List Value).drop 1 |>.take (Tryz.prog.cellsOf 9)) = some z1 := hf' 1 _ rfl
        rw [cells9x] at k1
        have k2 : DataW.trod enc Tryz.prog w base spare held n' 9 (([c3, c4, c5, c6, c7, c8] : List Value).drop 2 |>.take (Tryz.prog.cellsOf 9)) = some z2 := hf' 2 _ rfl
        rw [cells9x] at k2
        have k3 : DataW.trod enc Tryz.prog w base spare held n' 3 (([c3, c4, c5, c6, c7, c8] : List Value).drop 3 |>.take (Tryz.prog.cellsOf 3)) = some z3 := hf' 3 _ rfl
        rw [cells3] at k3
        have k4 : DataW.trod enc Tryz.prog w base spare held n' 3 (([c3, c4, c5, c6, c7, c8] : List Value).drop 4 |>.take (Tryz.prog.cellsOf 3)) = some z4 := hf' 4 _ rfl
        rw [cells3] at k4
        have k5 : DataW.trod enc Tryz.prog w base spare held n' 24 (([c3, c4, c5, c6, c7, c8] : List Value).drop 5 |>.take (Tryz.prog.cellsOf 24)) = some z5 := hf' 5 _ rfl
        rw [cells24] at k5
        obtain ⟨o, f0, _, u0⟩ := DataW.trod_int Tryz.underlying23 (show DataW.trod enc Tryz.prog w base spare held n' 23 [c3] = some z0 from k0)
        obtain ⟨p, f1, _, u1⟩ := DataW.trod_string Tryz.underlying9 (show DataW.trod enc Tryz.prog w base spare held n' 9 [c4] = some z1 from k1)
        obtain ⟨q, f2, _, u2⟩ := DataW.trod_string Tryz.underlying9 (show DataW.trod enc Tryz.prog w base spare held n' 9 [c5] = some z2 from k2)
        obtain ⟨a, f3, _, u3⟩ := DataW.trod_int Tryz.underlying3 (show DataW.trod enc Tryz.prog w base spare held n' 3 [c6] = some z3 from k3)
        obtain ⟨on, f4, _, u4⟩ := DataW.trod_int Tryz.underlying3 (show DataW.trod enc Tryz.prog w base spare held n' 3 [c7] = some z4 from k4)
        obtain ⟨v8, bs, f5, hB, _⟩ := open_bytes (show DataW.trod enc Tryz.prog w base spare held n' 24 [c8] = some z5 from k5)
        simp only [List.cons.injEq, and_true] at e0 e1 e2 e9 f0 f1 f2 f3 f4 f5
        subst e0 e1 e2 e9 f0 f1 f2 f3 f4 f5
        exact ⟨⟨k, t, m, o, p.data.toList, q.data.toList, a, on, bs, ms⟩, _, _, by simp, hB, hM, ⟨i64_of w0, i64_of u0⟩, i64_of w1, i64_of w2, i64_of u3, i64_of u4⟩

set_option maxRecDepth 100000 in
/-- an act by value -/
theorem open_actV {r : Reach} {b0 : Nat} {w0 : World} {v : Value} {d : DataW H} {p : List MemPlace} (hv : Value.okWide Tryz.prog w0 r b0 29 v) (h : DataW.Trod enc Tryz.prog w base spare held 29 v d p) :
    ∃ (a : ActL) (p8 p9 : Option Addr) (n8 n9 m8 m9 : Nat), v = actV a (.slice p8 n8 m8) (.slice p9 n9 m9) ∧ (SliceB w (.slice p8 n8 m8) a.bytes ∧ SliceM w (.slice p9 n9 m9) a.marks) ∧ I64s a := by
  obtain ⟨cs, rfl, hsz⟩ := okWide_struct Tryz.underlying29 hv
  obtain ⟨l⟩ := cs
  obtain ⟨fuel, hf⟩ := h
  obtain ⟨a, v8, v9, e, h8, h9, hi⟩ := open_act hf
  have e : l = _ := e
  subst e
  obtain ⟨p8, m8, rfl, -⟩ := id h8
  obtain ⟨p9, m9, rfl, -⟩ := id h9
  exact ⟨a, p8, p9, _, _, m8, m9, rfl, ⟨h8, h9⟩, hi⟩

set_option maxRecDepth 100000 in
/-- a slice of acts -/
theorem open_acts {r : Reach} {b0 : Nat} {w0 : World} {v : Value} {d : DataW H} {ps : List MemPlace} (hval : Value.okWide Tryz.prog w0 r b0 31 v) (hd : DataW.Trod enc Tryz.prog w base spare held 31 v d ps) :
    ∃ l : List ActL, SliceA w v l ∧ l.length ≤ maxLen ∧ ∀ a ∈ l, I64s a := by
  obtain ⟨sa, n, cap, rfl⟩ := okWide_slice Tryz.underlying31 hval
  obtain ⟨fuel, hf⟩ := hd
  rcases Go.Deep.open_slice Tryz.underlying31 hf with ⟨h, _⟩ | ⟨a, len, cap', m, n', D, Pl, h, hb, hl, hm, hmm, _, hx⟩
  · simp only [Value.cells, List.cons.injEq, Value.slice.injEq] at h
    obtain ⟨⟨rfl, rfl, rfl⟩, -⟩ := h
    exact ⟨[], SliceA.nil _, Nat.zero_le _, fun _ h => by cases h⟩
  · simp only [Value.cells, List.cons.injEq, Value.slice.injEq] at h
    obtain ⟨⟨rfl, rfl, rfl⟩, -⟩ := h
    have hle : n ≤ m := by rw [hmm]; split <;> omega
    by_cases hn : n = 0
    · subst hn
      exact ⟨[], ⟨some a, cap, rfl, fun j hj => absurd hj (Nat.not_lt_zero _)⟩, Nat.zero_le _, fun _ h => by cases h⟩
    · obtain ⟨g, o, sp⟩ := a
      have hsp : sp = none := by
        obtain ⟨cs', h1, h2⟩ := hx 0 (by omega)
        rw [cells29] at h1
        obtain ⟨_, hlen, hcell⟩ := World.cells?_some h1
        obtain ⟨b, v8, v9, rfl, h8, h9, hb⟩ := open_act h2
        have h0 := hcell 0 (by decide)
        simpa [Addr.add] using World.cell?_spot h0
      subst hsp
      have key : ∀ i, i < n → ∃ x : ActL × Value × Value, ActF w g (o + i * 10) x.1 x.2.1 x.2.2 ∧ SliceB w x.2.1 x.1.bytes ∧ SliceM w x.2.2 x.1.marks ∧ I64s x.1 := by
        intro i hi
        obtain ⟨cs', h1, h2⟩ := hx i (by omega)
        rw [cells29] at h1
        obtain ⟨_, hlen, hcell⟩ := World.cells?_some h1
        obtain ⟨b, v8, v9, rfl, h8, h9, hi64⟩ := open_act h2
        have hc : ∀ k, k < 10 → w.cell? ⟨g, o + i * 10 + k, none⟩ = ([.int .i64 b.kind, .int .i64 b.thread, .int .i64 b.n, .int .i64 b.okind, .string ⟨b.path.toArray⟩, .string ⟨b.dest.toArray⟩, .int .i64 b.at_, .int .i64 b.on, v8, v9] : List Value)[k]? := fun k hk => by
          have := hcell k hk
          rwa [add_none, add_none] at this
        exact ⟨(b, v8, v9), ⟨hc 0 (by omega), hc 1 (by omega), hc 2 (by omega), hc 3 (by omega), hc 4 (by omega), hc 5 (by omega), hc 6 (by omega), hc 7 (by omega), hc 8 (by omega), hc 9 (by omega)⟩, h8, h9, hi64⟩
      haveI : Inhabited (ActL × Value × Value) := ⟨(ActL.zero, undef, undef)⟩
      obtain ⟨X, hX⟩ := Go.Deep.choose_lt (α := ActL × Value × Value) key
      refine ⟨(List.range n).map fun i => (X i).1, ⟨some ⟨g, o, none⟩, cap, by simp, fun j hj => ?_⟩, by simp; omega, fun b hb => ?_⟩
      · have hj' : j < n := by simpa using hj
        obtain ⟨h1, h2, h3, _⟩ := hX j hj'
        exact ⟨g, o, _, _, rfl, by simpa using h1, by simpa using h2, by simpa using h3⟩
      · obtain ⟨i, hi, rfl⟩ := List.mem_map.1 hb
        exact (hX i (by simpa using hi)).2.2.2
end
end Go.Proofs.YtgdaaafejfjilaaGreatDoor
