/- contracts: script.Read: what is kept on the way -/
import Derived.Test.YtgdaaafejfjilaaGreatDoorW21
import Derived.OwnWalkIn
import Derived.Maps.AppendAt
namespace Go.Proofs.YtgdaaafejfjilaaGreatDoor
open Go.RowKit Go.Maps
attribute [local go_sem] Oper.semAt_some undef

theorem wpListIn_append_own_at {F : Fence} {n : Nat} {P : Program} (w : World) {ops : Array Oper} {rest : List Oper} {o : Oper} {a : Act} {Q : Exit → Act → World → Prop}
    (hg : o.guard = none) (s x : Operand) (t : TypeId) (hop : o.op = Op.call { callee := Callee.builtin Builtin.append, args := #[s, x], argTypes := #[t, t] })
    (base : Nat) (e : TypeId) (i : TypeInfo) (z : Value) (size bytes : Nat) (h1 : P.underlying t = some (.slice e)) (h2 : P.info? e = some i) (h3 : i.zero = some z) (h4 : i.size = size) (h5 : i.bytes = bytes) (h6 : z.cells.size = size) (h7 : 0 < size)
    (v : Value) (k : Nat) (xs : List Value) (hs : a.eval s = v) (hown : w.ownsRow base e size v k xs) (ad : Addr) (m c : Nat) (news : List Value) (hx : a.eval x = .slice (some ad) m c) (hn : news.length = m * size)
    (hc : ∀ j u, news[j]? = some u → w.cell? (ad.add j) = some u) (h1c : ∀ u ∈ news, u.oneCell' = true) (b1 : k + m ≤ maxLen) (b2 : (k + m) * bytes ≤ 140737488355328) (b3 : base ≤ w.heap.size)
    (hK : ∀ v' w', w'.ownsRow base e size v' (k + m) (xs ++ news) → w.grownBy w' v.ownBlock → (v' = .slice none 0 0 ↔ v = .slice none 0 0 ∧ m = 0) → (v'.ownBlock = v.ownBlock ∨ v'.ownBlock = some w.heap.size) → wpListIn F n P ops Q rest (a.put o.dst v') w') :
    wpListIn F n P ops Q (o :: rest) a w := by
  refine wpListIn_plain hg fun K hK' => ?_
  obtain ⟨v', w', hrun, r1, r2, r3, r4⟩ := run_append_own_at (P := P) w base t o.type e i z size bytes h1 h2 h3 h4 h5 h6 h7 v k xs hown ad m c news hn hc h1c b1 b2 b3
  unfold Oper.wpIn
  refine ⟨?_, ?_⟩
  · simp [Oper.about, hop, resolve, Target.leads, Sem.run_pure]
  · rw [Oper.semAt_plain F _ _ (by rw [hop]; intro c hc'; cases hc')]
    simp [execOp, hop, resolve, invoke, builtin, hs, hx, hrun, Result.andThen]
    exact hK' _ _ (hK v' w' r1 r2 r3 r4)

theorem Tryz.info29 : (Tryz.prog.info? 29).map (fun i => (i.zero, i.size, i.bytes)) = some (some (.agg #[.int .i64 0, .int .i64 0, .int .i64 0, .int .i64 0, .string ⟨#[]⟩, .string ⟨#[]⟩, .int .i64 0, .int .i64 0, .slice none 0 0, .slice none 0 0]), 10, 128) := by kernel_rfl

/-- an act's cells, in a row -/
def actCs (r : ActL × Value × Value) : List Value := [.int .i64 r.1.kind, .int .i64 r.1.thread, .int .i64 r.1.n, .int .i64 r.1.okind, .string ⟨r.1.path.toArray⟩, .string ⟨r.1.dest.toArray⟩, .int .i64 r.1.at_, .int .i64 r.1.on, r.2.1, r.2.2]
theorem actCs_at : ∀ (rs : List (ActL × Value × Value)) (j k : Nat) (h : j < rs.length), k < 10 → (rs.flatMap actCs)[j * 10 + k]? = (actCs rs[j])[k]?
  | [], j, k, h, _ => absurd h (Nat.not_lt_zero _)
  | r :: rs, 0, k, _, hk => by
    rw [List.flatMap_cons, List.getElem?_append_left (by show 0 * 10 + k < 10; omega), Nat.zero_mul, Nat.zero_add]
    rfl
  | r :: rs, j + 1, k, h, hk => by
    rw [List.flatMap_cons, List.getElem?_append_right (by show 10 ≤ (j + 1) * 10 + k; omega)]
    have e : (j + 1) * 10 + k - (actCs r).length = j * 10 + k := by show (j + 1) * 10 + k - 10 = _; omega
    rw [e, actCs_at rs j k (by simpa using h) hk]
    rfl

/-- what a slice leads to lies from E on, and beside v's row -/
def OffX (E : Nat) (v x : Value) (n : Nat) : Prop := n ≠ 0 → ∀ A m c, x = .slice (some A) m c → E ≤ A.block ∧ v.ownBlock ≠ some A.block

/-- a row of acts of the call's own -/
structure Acts (E : Nat) (A : World) (v : Value) (rs : List (ActL × Value × Value)) : Prop where
  row : A.ownsRow E 29 10 v rs.length (rs.flatMap actCs)
  sl : ∀ r ∈ rs, SliceB A r.2.1 r.1.bytes ∧ SliceM A r.2.2 r.1.marks
  off : ∀ r ∈ rs, OffX E v r.2.1 r.1.bytes.length ∧ OffX E v r.2.2 r.1.marks.length

theorem Acts.nil (E : Nat) (A : World) : Acts E A (.slice none 0 0) [] := ⟨World.ownsRow_nil _ _ _ _, fun _ h => by simp at h, fun _ h => by simp at h⟩

theorem SliceB.keep {w W : World} {v : Value} {l : Bs} (h : SliceB w v l) (hb : ∀ A m c, v = .slice (some A) m c → l.length ≠ 0 → W.heap[A.block]? = w.heap[A.block]?) : SliceB W v l := by
  obtain ⟨p, cap, rfl, h⟩ := h
  refine ⟨p, cap, rfl, fun j hj => ?_⟩
  obtain ⟨A, rfl, hc⟩ := h j hj
  refine ⟨A, rfl, ?_⟩
  have hB := hb A _ _ rfl (by omega)
  rw [← hc]
  refine World.cell?_of_block ?_
  have e : (A.add j).block = A.block := by unfold Addr.add; split <;> rfl
  rw [e]; exact hB
theorem SliceM.keep {w W : World} {v : Value} {l : List Bool} (h : SliceM w v l) (hb : ∀ A m c, v = .slice (some A) m c → l.length ≠ 0 → W.heap[A.block]? = w.heap[A.block]?) : SliceM W v l := by
  obtain ⟨p, cap, rfl, h⟩ := h
  refine ⟨p, cap, rfl, fun j hj => ?_⟩
  obtain ⟨A, rfl, hc⟩ := h j hj
  refine ⟨A, rfl, ?_⟩
  have hB := hb A _ _ rfl (by omega)
  rw [← hc]
  refine World.cell?_of_block ?_
  have e : (A.add j).block = A.block := by unfold Addr.add; split <;> rfl
  rw [e]; exact hB
theorem SliceB.lt {w : World} {A : Addr} {m c : Nat} {l : Bs} (h : SliceB w (.slice (some A) m c) l) (hl : l.length ≠ 0) : A.block < w.heap.size := by
  obtain ⟨p, cap, e, h⟩ := h
  obtain ⟨A', hA, hc⟩ := h 0 (by omega)
  simp only [Value.slice.injEq] at e
  obtain ⟨rfl, -, -⟩ := e
  simp only [Option.some.injEq] at hA
  subst hA
  have := World.block_lt_of_cell? _ _ hc
  have e : (A.add 0).block = A.block := by unfold Addr.add; split <;> rfl
  rwa [e] at this
theorem SliceM.lt {w : World} {A : Addr} {m c : Nat} {l : List Bool} (h : SliceM w (.slice (some A) m c) l) (hl : l.length ≠ 0) : A.block < w.heap.size := by
  obtain ⟨p, cap, e, h⟩ := h
  obtain ⟨A', hA, hc⟩ := h 0 (by omega)
  simp only [Value.slice.injEq] at e
  obtain ⟨rfl, -, -⟩ := e
  simp only [Option.some.injEq] at hA
  subst hA
  have := World.block_lt_of_cell? _ _ hc
  have e : (A.add 0).block = A.block := by unfold Addr.add; split <;> rfl
  rwa [e] at this

theorem Acts.grow {own : Nat → Prop} {E : Nat} {A B : World} {v : Value} {rs : List (ActL × Value × Value)} (h : Acts E A v rs) (g : Grow own A B) (hE : ∀ k, own k → k < E ∨ A.heap.size ≤ k) : Acts E B v rs := by
  refine ⟨ownsRow_grow h.row g (fun k hk ho => ?_), fun r hr => ⟨?_, ?_⟩, h.off⟩
  · have := h.row.lt k hk; have := hE k ho; omega
  · refine (h.sl r hr).1.keep (fun P m c e hl => ?_)
    have hs := (h.sl r hr).1
    rw [e] at hs
    have h1 := hs.lt hl
    have h2 := (h.off r hr).1 hl P m c e
    exact g.block _ h1 (fun ho => by have := hE _ ho; omega)
  · refine (h.sl r hr).2.keep (fun P m c e hl => ?_)
    have hs := (h.sl r hr).2
    rw [e] at hs
    have h1 := hs.lt hl
    have h2 := (h.off r hr).2 hl P m c e
    exact g.block _ h1 (fun ho => by have := hE _ ho; omega)

/-- an act is appended -/
theorem Acts.snoc {E : Nat} {A B : World} {v v' : Value} {rs : List (ActL × Value × Value)} {a : ActL} {v8 v9 : Value} (h : Acts E A v rs)
    (hrow : B.ownsRow E 29 10 v' (rs.length + 1) (rs.flatMap actCs ++ actCs (a, v8, v9))) (hg : A.grownBy B v.ownBlock) (hat : v'.ownBlock = v.ownBlock ∨ v'.ownBlock = some A.heap.size)
    (s8 : SliceB A v8 a.bytes) (s9 : SliceM A v9 a.marks) (o8 : OffX E v v8 a.bytes.length) (o9 : OffX E v v9 a.marks.length) : Acts E B v' (rs ++ [(a, v8, v9)]) := by
  have key : ∀ (r : ActL × Value × Value), SliceB A r.2.1 r.1.bytes → SliceM A r.2.2 r.1.marks → OffX E v r.2.1 r.1.bytes.length → OffX E v r.2.2 r.1.marks.length →
      (SliceB B r.2.1 r.1.bytes ∧ SliceM B r.2.2 r.1.marks) ∧ OffX E v' r.2.1 r.1.bytes.length ∧ OffX E v' r.2.2 r.1.marks.length := by
    intro r h1 h2 h3 h4
    refine ⟨⟨h1.keep (fun P m c e hl => ?_), h2.keep (fun P m c e hl => ?_)⟩, fun hl P m c e => ?_, fun hl P m c e => ?_⟩
    · have hs := h1; rw [e] at hs
      exact hg.block _ (hs.lt hl) (fun q => (h3 hl P m c e).2 q.symm)
    · have hs := h2; rw [e] at hs
      exact hg.block _ (hs.lt hl) (fun q => (h4 hl P m c e).2 q.symm)
    · have hs := h1; rw [e] at hs
      have hlt := hs.lt hl
      refine ⟨(h3 hl P m c e).1, fun q => ?_⟩
      rcases hat with hat | hat
      · exact (h3 hl P m c e).2 (hat ▸ q)
      · rw [hat] at q; simp only [Option.some.injEq] at q; omega
    · have hs := h2; rw [e] at hs
      have hlt := hs.lt hl
      refine ⟨(h4 hl P m c e).1, fun q => ?_⟩
      rcases hat with hat | hat
      · exact (h4 hl P m c e).2 (hat ▸ q)
      · rw [hat] at q; simp only [Option.some.injEq] at q; omega
  refine ⟨?_, fun r hr => ?_, fun r hr => ?_⟩
  · rw [List.length_append, List.flatMap_append]
    simpa using hrow
  · rcases List.mem_append.1 hr with hr | hr
    · exact (key r (h.sl r hr).1 (h.sl r hr).2 (h.off r hr).1 (h.off r hr).2).1
    · obtain rfl := List.mem_singleton.1 hr
      exact (key _ s8 s9 o8 o9).1
  · rcases List.mem_append.1 hr with hr | hr
    · exact (key r (h.sl r hr).1 (h.sl r hr).2 (h.off r hr).1 (h.off r hr).2).2
    · obtain rfl := List.mem_singleton.1 hr
      exact (key _ s8 s9 o8 o9).2

theorem Acts.slice {E : Nat} {A : World} {v : Value} {rs : List (ActL × Value × Value)} (h : Acts E A v rs) : SliceA A v (rs.map (·.1)) := by
  obtain ⟨p, cap, rfl⟩ := ownsRow_slice h.row
  refine ⟨p, cap, by rw [List.length_map], fun j hj => ?_⟩
  have hj' : j < rs.length := by simpa using hj
  rcases h.row.2 with ⟨e, h0⟩ | ⟨g, cap', cur, hv, _⟩
  · omega
  · simp only [Value.slice.injEq] at hv
    obtain ⟨rfl, -, rfl⟩ := hv
    have hcell : ∀ k, k < 10 → ∀ u, (actCs rs[j])[k]? = some u → A.cell? ⟨g, j * 10 + k, none⟩ = some u := fun k hk u hu => by
      have := h.row.cells (g := g) rfl (j * 10 + k) u (by rw [actCs_at rs j k hj' hk]; exact hu)
      rwa [show (Addr.mk g 0 none).add (j * 10 + k) = ⟨g, j * 10 + k, none⟩ by unfold Addr.add; split <;> simp_all] at this
    have hm := h.sl rs[j] (List.getElem_mem _)
    rw [List.getElem_map]
    refine ⟨g, 0, rs[j].2.1, rs[j].2.2, rfl, ?_, hm⟩
    rw [Nat.zero_add]
    exact ⟨hcell 0 (by omega) _ rfl, hcell 1 (by omega) _ rfl, hcell 2 (by omega) _ rfl, hcell 3 (by omega) _ rfl, hcell 4 (by omega) _ rfl, hcell 5 (by omega) _ rfl, hcell 6 (by omega) _ rfl, hcell 7 (by omega) _ rfl, hcell 8 (by omega) _ rfl, hcell 9 (by omega) _ rfl⟩

end Go.Proofs.YtgdaaafejfjilaaGreatDoor
