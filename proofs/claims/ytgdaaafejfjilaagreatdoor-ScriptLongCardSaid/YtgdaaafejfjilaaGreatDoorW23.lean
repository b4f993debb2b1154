/- contracts: script.Read -/
import Derived.Test.YtgdaaafejfjilaaGreatDoorW22
import Derived.Shelf.RegionOpen
import Derived.Sort.CutIn
namespace Go.Proofs.YtgdaaafejfjilaaGreatDoor
open Go.RowKit Go.Maps
attribute [local go_sem] Oper.semAt_some undef

theorem readFrom_all : ∀ (ws : List Bs) (i : Nat) (acc out : List ActL), (numberedL i ws).map (fun x => parseL x.2) = out.map some → readFrom i ws acc = (acc ++ out, 0, 0)
  | [], i, acc, out, h => by
    have : out = [] := by simpa [numberedL] using h.symm
    subst this; simp [readFrom]
  | s :: ws, i, acc, out, h => by
    unfold numberedL at h
    unfold readFrom
    split at h
    · rename_i hs
      rw [if_pos hs]
      exact readFrom_all ws (i + 1) acc out h
    · rename_i hs
      rw [if_neg hs]
      cases out with
      | nil => simp at h
      | cons a out =>
        simp only [List.map_cons, List.cons.injEq] at h
        rw [h.1]
        simp only
        rw [readFrom_all ws (i + 1) (acc ++ [a]) out h.2]
        simp
theorem readFrom_stop : ∀ (ws : List Bs) (i : Nat) (acc out : List ActL) (pre : List (Nat × Bs)) (x : Nat × Bs), pre ++ [x] <+: numberedL i ws → pre.map (fun x => parseL x.2) = out.map some → parseL x.2 = none → readFrom i ws acc = ([], x.1, 380)
  | [], i, acc, out, pre, x, h, _, _ => by
    have := h.length_le
    simp [numberedL] at this
  | s :: ws, i, acc, out, pre, x, h, hp, hx => by
    unfold numberedL at h
    unfold readFrom
    split at h
    · rename_i hs
      rw [if_pos hs]
      exact readFrom_stop ws (i + 1) acc out pre x h hp hx
    · rename_i hs
      rw [if_neg hs]
      cases pre with
      | nil =>
        obtain ⟨t, ht⟩ := h
        simp only [List.nil_append, List.cons_append, List.cons.injEq] at ht
        obtain ⟨rfl, -⟩ := ht
        simp only at hx
        rw [hx]
      | cons y pre =>
        obtain ⟨t, ht⟩ := h
        simp only [List.cons_append, List.cons.injEq] at ht
        obtain ⟨rfl, ht⟩ := ht
        cases out with
        | nil => simp at hp
        | cons a out =>
          simp only [List.map_cons, List.cons.injEq] at hp
          rw [hp.1]
          simp only
          exact readFrom_stop ws (i + 1) (acc ++ [a]) out pre x ⟨t, by simpa using ht⟩ hp.2 hx
theorem readE_all {s : Bs} {out : List ActL} (hs : s.length ≤ 65536) (h : (numberedL 1 (wordsL 10 s)).map (fun x => parseL x.2) = out.map some) : readE s = if 2000 < out.length then ([], 0, 3) else (out, 0, 0) := by
  unfold readE
  rw [if_neg (by omega), readFrom_all _ _ _ _ h]
  rfl
theorem readE_stop {s : Bs} {out : List ActL} {pre : List (Nat × Bs)} {x : Nat × Bs} (hs : s.length ≤ 65536) (h : pre ++ [x] <+: numberedL 1 (wordsL 10 s)) (hp : pre.map (fun x => parseL x.2) = out.map some) (hx : parseL x.2 = none) : readE s = ([], x.1, 380) := by
  unfold readE
  rw [if_neg (by omega), readFrom_stop _ _ _ _ _ _ h hp hx]
  simp
theorem readE_long {s : Bs} (hs : 65536 < s.length) : readE s = ([], 0, 3) := by unfold readE; rw [if_pos hs]

/-- what has come of a text -/
def ReadPost (s : Bs) (w : World) (e : Ending) (w' : World) : Prop :=
  ∃ v, e = .returned (.tuple #[v, .int .i64 (readE s).2.1, .int .i64 (readE s).2.2]) ∧ SliceA w' v (readE s).1 ∧ Newer w w'

/-- the three results, on the way -/
structure Res3 (b : Nat) (w4 : World) (A : World) (v : Value) (n e : Int) : Prop where
  c0 : A.cell? ⟨b, 0, none⟩ = some v
  c1 : A.cell? ⟨b + 1, 0, none⟩ = some (.int .i64 n)
  c2 : A.cell? ⟨b + 1 + 1, 0, none⟩ = some (.int .i64 e)
  f0 : A.frozen? ⟨b, 0, none⟩ = false
  f1 : A.frozen? ⟨b + 1, 0, none⟩ = false
  f2 : A.frozen? ⟨b + 1 + 1, 0, none⟩ = false
  g : Grow (fun k => b ≤ k) w4 A
  env : Env A
  lt : b + 3 ≤ w4.heap.size ∧ 5 < b
theorem Res3.grow {own : Nat → Prop} {b : Nat} {w4 A B : World} {v : Value} {n e : Int} (h : Res3 b w4 A v n e) (g : Grow own A B) (ho : ∀ k, own k → b + 3 ≤ k) : Res3 b w4 B v n e := by
  have h1 := h.lt.1
  have h3 := h.lt.2
  have h2 := h.g.size
  have hl : ∀ k, k < b + 3 → k < A.heap.size ∧ ¬ own k := fun k hk => ⟨by omega, fun hk' => by have := ho k hk'; omega⟩
  have hc : ∀ k, k < b + 3 → B.cell? ⟨k, 0, none⟩ = A.cell? ⟨k, 0, none⟩ := fun k hk => g.cell (p := ⟨k, 0, none⟩) (hl k hk).1 (hl k hk).2
  have hf : ∀ k, k < b + 3 → B.frozen? ⟨k, 0, none⟩ = A.frozen? ⟨k, 0, none⟩ := fun k hk => g.frozen (p := ⟨k, 0, none⟩) (hl k hk).1 (hl k hk).2
  exact ⟨(hc _ (by omega)).trans h.c0, (hc _ (by omega)).trans h.c1, (hc _ (by omega)).trans h.c2, (hf _ (by omega)).trans h.f0, (hf _ (by omega)).trans h.f1, (hf _ (by omega)).trans h.f2, h.g.trans (g.mono (fun k hk => by have := ho k hk; omega)), h.env.below (Grow.below g (n := b + 3) ho (by omega)) (by omega), h.lt⟩

/-- lines are read, all well -/
def RdI (b : Nat) (w4 : World) : Nat → List (Nat × Bs) → World → Prop := fun E pre A =>
  ∃ (rs : List (ActL × Value × Value)) (v : Value), Res3 b w4 A v 0 0 ∧ pre.map (fun x => parseL x.2) = (rs.map (·.1)).map some ∧ Acts E A v rs
/-- a line is none's -/
def RdX (b : Nat) (w4 : World) : Nat → List (Nat × Bs) → World → Prop := fun _ pre A =>
  ∃ (pre' : List (Nat × Bs)) (x : Nat × Bs) (out : List ActL), pre = pre' ++ [x] ∧ Res3 b w4 A (.slice none 0 0) x.1 380 ∧ pre'.map (fun x => parseL x.2) = out.map some ∧ parseL x.2 = none
theorem RdI.grow {b : Nat} {w4 : World} : ∀ E pre A B, RdI b w4 E pre A → Grow (Span w4.heap.size E) A B → RdI b w4 E pre B := by
  rintro E pre A B ⟨rs, v, h1, h2, h3⟩ g
  have := h1.lt.1
  exact ⟨rs, v, h1.grow g (fun k hk => by have := hk.1; omega), h2, h3.grow g (fun k hk => .inl hk.2)⟩
theorem RdX.grow {b : Nat} {w4 : World} : ∀ E pre A B, RdX b w4 E pre A → Grow (Span w4.heap.size E) A B → RdX b w4 E pre B := by
  rintro E pre A B ⟨pre', x, out, rfl, h1, h2, h3⟩ g
  have := h1.lt.1
  exact ⟨pre', x, out, rfl, h1.grow g (fun k hk => by have := hk.1; omega), h2, h3⟩

theorem results_cell3 {P : Program} {fn : Func} {p q r : Tmp} {ty tz tt : TypeId} (h : fn.results = #[.cell p ty, .cell q tz, .cell r tt]) {tmps : Array Value} {w : World} {ad ae af : Addr} {v u x : Value} (ha : tmps.getD p undef = .pointer (some ad)) (hb : tmps.getD q undef = .pointer (some ae)) (hc : tmps.getD r undef = .pointer (some af))
    (hl : (loadVar ty ad).run P w = .ok v w) (hm : (loadVar tz ae).run P w = .ok u w) (hn : (loadVar tt af).run P w = .ok x w) : (results fn tmps).run P w = .ok (.tuple #[v, u, x]) w := by
  have ha' : tmps[p]?.getD undef = .pointer (some ad) := by simpa using ha
  have hb' : tmps[q]?.getD undef = .pointer (some ae) := by simpa using hb
  have hc' : tmps[r]?.getD undef = .pointer (some af) := by simpa using hc
  simp [results, h, ha', hb', hc', asAddr, hl, hm, hn]
theorem load31 {w : World} {b : Nat} {p : Option Addr} {n m : Nat} (h : w.cell? ⟨b, 0, none⟩ = some (.slice p n m)) : (loadVar 31 ⟨b, 0, none⟩).run Tryz.prog w = .ok (.slice p n m) w := by
  go_simp
theorem load3 {w : World} {b : Nat} {n : Int} (h : w.cell? ⟨b, 0, none⟩ = some (.int .i64 n)) : (loadVar 3 ⟨b, 0, none⟩).run Tryz.prog w = .ok (.int .i64 n) w := by
  go_simp

theorem numbered_len : ∀ (ws : List Bs) (i : Nat), (numberedL i ws).length ≤ ws.length
  | [], _ => Nat.le_refl _
  | s :: ws, i => by
    have := numbered_len ws (i + 1)
    unfold numberedL
    split
    · simp; omega
    · simp; omega
theorem numbered_mem : ∀ (ws : List Bs) (i : Nat), ∀ x ∈ numberedL i ws, x.2 ∈ ws
  | [], _, x, h => by simp [numberedL] at h
  | s :: ws, i, x, h => by
    unfold numberedL at h
    split at h
    · exact List.mem_cons_of_mem _ (numbered_mem ws (i + 1) x h)
    · rcases List.mem_cons.1 h with rfl | h
      · exact List.mem_cons_self ..
      · exact List.mem_cons_of_mem _ (numbered_mem ws (i + 1) x h)

theorem cells_new (w : World) (xs : List Value) (t : TypeId) (B : Nat) (hB : w.heap.size = B) : ∀ j u, xs[j]? = some u → (w.alloc (.cells xs.toArray t)).cell? ((⟨B, 0, none⟩ : Addr).add j) = some u := by
  intro j u hj
  subst hB
  have hl : j < xs.length := (List.getElem?_eq_some_iff.1 hj).1
  rw [show (Addr.mk w.heap.size 0 none).add j = ⟨w.heap.size, j, none⟩ by unfold Addr.add; split <;> simp_all]
  simp [go_sem, hj]
theorem actCs_one (r : ActL × Value × Value) (h8 : r.2.1.oneCell' = true) (h9 : r.2.2.oneCell' = true) : ∀ u ∈ actCs r, u.oneCell' = true := by
  intro u hu
  simp only [actCs, List.mem_cons, List.not_mem_nil, or_false] at hu
  rcases hu with rfl | rfl | rfl | rfl | rfl | rfl | rfl | rfl | rfl | rfl <;> first | rfl | assumption

theorem Res3.put0 {b : Nat} {w4 A : World} {v : Value} {n e : Int} (h : Res3 b w4 A v n e) (v' : Value) : Res3 b w4 (A.setCell ⟨b, 0, none⟩ v') v' n e := by
  have g : Grow (fun k => k = b) A (A.setCell ⟨b, 0, none⟩ v') := Grow.setCell (own := fun k => k = b) _ _ _ rfl
  have h1 := h.lt.1
  have h2 := h.g.size
  have h3 := h.lt.2
  exact ⟨World.cell?_setCell_same _ _ _ h.c0, (g.cell (p := ⟨b + 1, 0, none⟩) (by show b + 1 < _; omega) (by show ¬ b + 1 = b; omega)).trans h.c1, (g.cell (p := ⟨b + 1 + 1, 0, none⟩) (by show b + 1 + 1 < _; omega) (by show ¬ b + 1 + 1 = b; omega)).trans h.c2,
    by rw [World.frozen?_setCell]; exact h.f0, by rw [World.frozen?_setCell]; exact h.f1, by rw [World.frozen?_setCell]; exact h.f2, h.g.trans (g.mono (fun k hk => by have hk : k = b := hk; show b ≤ k; omega)), h.env.below (Grow.below g (n := b) (fun k hk => by have hk : k = b := hk; omega) (by omega)) h3, h.lt⟩
theorem Res3.put1 {b : Nat} {w4 A : World} {v : Value} {n e : Int} (h : Res3 b w4 A v n e) (n' : Int) : Res3 b w4 (A.setCell ⟨b + 1, 0, none⟩ (.int .i64 n')) v n' e := by
  have g : Grow (fun k => k = b + 1) A (A.setCell ⟨b + 1, 0, none⟩ (.int .i64 n')) := Grow.setCell (own := fun k => k = b + 1) _ _ _ rfl
  have h1 := h.lt.1
  have h2 := h.g.size
  have h3 := h.lt.2
  exact ⟨(g.cell (p := ⟨b, 0, none⟩) (by show b < _; omega) (by show ¬ b = b + 1; omega)).trans h.c0, World.cell?_setCell_same _ _ _ h.c1, (g.cell (p := ⟨b + 1 + 1, 0, none⟩) (by show b + 1 + 1 < _; omega) (by show ¬ b + 1 + 1 = b + 1; omega)).trans h.c2,
    by rw [World.frozen?_setCell]; exact h.f0, by rw [World.frozen?_setCell]; exact h.f1, by rw [World.frozen?_setCell]; exact h.f2, h.g.trans (g.mono (fun k hk => by have hk : k = b + 1 := hk; show b ≤ k; omega)), h.env.below (Grow.below g (n := b) (fun k hk => by have hk : k = b + 1 := hk; omega) (by omega)) h3, h.lt⟩
theorem Res3.put2 {b : Nat} {w4 A : World} {v : Value} {n e : Int} (h : Res3 b w4 A v n e) (e' : Int) : Res3 b w4 (A.setCell ⟨b + 1 + 1, 0, none⟩ (.int .i64 e')) v n e' := by
  have g : Grow (fun k => k = b + 1 + 1) A (A.setCell ⟨b + 1 + 1, 0, none⟩ (.int .i64 e')) := Grow.setCell (own := fun k => k = b + 1 + 1) _ _ _ rfl
  have h1 := h.lt.1
  have h2 := h.g.size
  have h3 := h.lt.2
  exact ⟨(g.cell (p := ⟨b, 0, none⟩) (by show b < _; omega) (by show ¬ b = b + 1 + 1; omega)).trans h.c0, (g.cell (p := ⟨b + 1, 0, none⟩) (by show b + 1 < _; omega) (by show ¬ b + 1 = b + 1 + 1; omega)).trans h.c1, World.cell?_setCell_same _ _ _ h.c2,
    by rw [World.frozen?_setCell]; exact h.f0, by rw [World.frozen?_setCell]; exact h.f1, by rw [World.frozen?_setCell]; exact h.f2, h.g.trans (g.mono (fun k hk => by have hk : k = b + 1 + 1 := hk; show b ≤ k; omega)), h.env.below (Grow.below g (n := b) (fun k hk => by have hk : k = b + 1 + 1 := hk; omega) (by omega)) h3, h.lt⟩

/-- an act has been read -/
theorem read_put {b E : Nat} {w4 W2 W3 W5 W6 : World} {v : Value} {rs : List (ActL × Value × Value)} {pre : List (Nat × Bs)} {xn : Nat} {xs : Bs} {a : ActL} {v8 v9 : Value} {p' : Option Addr} {c' B5 : Nat}
    (hE : w4.heap.size + 2 ≤ E) (hEW : E ≤ W2.heap.size) (hz : b + 3 < w4.heap.size) (hA : Acts E W2 v rs) (hR : Res3 b w4 W2 v 0 0) (hm : pre.map (fun x => parseL x.2) = (rs.map (·.1)).map some) (hp : parseL xs = some a)
    (n3 : Newer W2 W3) (n5 : Newer W3 W5) (s8 : SliceB W3 v8 a.bytes ∧ Off (fun k => k < W2.heap.size) v8) (s9 : SliceM W3 v9 a.marks ∧ Off (fun k => k < W2.heap.size) v9)
    (hown : W6.ownsRow E 29 10 (.slice p' (rs.length + 1) c') (rs.length + 1) (rs.flatMap actCs ++ actCs (a, v8, v9))) (hgrow : W5.grownBy W6 v.ownBlock) (hat : (Value.slice p' (rs.length + 1) c').ownBlock = v.ownBlock ∨ (Value.slice p' (rs.length + 1) c').ownBlock = some B5) (hB5 : W5.heap.size = B5) :
    (W6.cell? ⟨b, 0, none⟩ = some v ∧ W6.frozen? ⟨b, 0, none⟩ = false) ∧ Keep (Leans (fun k => k = b + 3) w4.heap.size E) W2 (W6.setCell ⟨b, 0, none⟩ (.slice p' (rs.length + 1) c')) ∧ W2.heap.size ≤ (W6.setCell ⟨b, 0, none⟩ (.slice p' (rs.length + 1) c')).heap.size ∧ RdI b w4 E (pre ++ [(xn, xs)]) (W6.setCell ⟨b, 0, none⟩ (.slice p' (rs.length + 1) c')) := by
  subst hB5
  have n25 := n3.trans n5
  have g25 : Grow (fun _ => False) W2 W5 := Newer.grow n25 _
  have hA5 : Acts E W5 v rs := hA.grow g25 (fun _ h => h.elim)
  have hoff : ∀ x, Off (fun k => k < W2.heap.size) x → ∀ n, OffX E v x n := fun x hx n _ A m c e => by
    have h1 : ¬ A.block < W2.heap.size := hx A m c e
    refine ⟨by omega, fun q => ?_⟩
    have := hA.row.lt _ q
    omega
  have hA6 := hA5.snoc hown hgrow hat (s8.1.newer n5) (s9.1.newer n5) (hoff _ s8.2 _) (hoff _ s9.2 _)
  have gB : Grow (fun k => v.ownBlock = some k) W5 W6 := ⟨hgrow.os, hgrow.tape, hgrow.output, hgrow.size, fun k hk hno => hgrow.block k hk (fun h => hno h.symm)⟩
  have hvE : ∀ k, v.ownBlock = some k → E ≤ k := fun k hk => (hA.row.lt k hk).1
  have hR6 : Res3 b w4 W6 v 0 0 := (hR.grow g25 (fun _ h => h.elim)).grow gB (fun k hk => by have := hvE k hk; omega)
  have gS : Grow (fun k => k = b) W6 (W6.setCell ⟨b, 0, none⟩ (.slice p' (rs.length + 1) c')) := Grow.setCell (own := fun k => k = b) _ _ _ rfl
  have gT : Grow (fun k => k = b ∨ E ≤ k) W2 (W6.setCell ⟨b, 0, none⟩ (.slice p' (rs.length + 1) c')) :=
    ((Newer.grow n25 _).trans (gB.mono (fun k hk => .inr (hvE k hk)))).trans (gS.mono (fun k hk => .inl hk))
  refine ⟨⟨hR6.c0, hR6.f0⟩, Keep.grow gT (fun k hk => ?_) (fun k hk ho => ?_), by have := n25.size; have := hgrow.size; simp; omega, rs ++ [(a, v8, v9)], _, hR6.put0 _, ?_, hA6.grow gS (fun k hk => .inl (by have hk : k = b := hk; omega))⟩
  · rcases hk with hk | hk
    · omega
    · have := hk.2; omega
  · rcases hk with hk | hk
    · omega
    · have := hk.1; have := hk.2; omega
  · simp [hm, hp]

theorem wpIn_calm {F : Fence} {n : Nat} {P : Program} {c : Code} {K : Act → World → Prop} {Q : Exit → Act → World → Prop} {a : Act} {w : World}
    (h : c.wpIn F n P (Exit.then K (fun _ _ _ => False)) a w) : c.wpIn F n P (Exit.then K Q) a w := by
  refine wpIn_mono h ?_
  intro e a w hq
  cases e with
  | normal => exact hq
  | exit id => exact hq.elim
  | goto t => exact hq.elim
  | ret => exact hq.elim
  | panic ch => exact hq.elim
  | outgrown => exact hq.elim

theorem mixedZ : Tryz.prog.follows Departure.mixedOrders = true := by kernel_rfl

/-- a text's end -/
theorem read_fin {b E : Nat} {s : Bs} {w w3 w4 B w9 : World} {p : Option Addr} {n m : Nat} {k : Nat} {e : Int} {rs : List (ActL × Value × Value)} (hE : w4.heap.size + 2 ≤ E) (hR : Res3 b w4 B (.slice p n m) k e) (hA : Acts E B (.slice p n m) rs)
    (hN : Newer w w3 ∧ w.heap.size = b) (n4 : Newer w3 w4) (g : Grow (fun k => k ∈ [w4.heap.size]) B w9) (hr : readE s = (rs.map (·.1), k, e)) (tmps : Array Value) (h2 : tmps.getD 2 undef = .pointer (some ⟨b, 0, none⟩)) (h3 : tmps.getD 3 undef = .pointer (some ⟨b + 1, 0, none⟩)) (h4 : tmps.getD 4 undef = .pointer (some ⟨b + 1 + 1, 0, none⟩)) :
    ∃ v, (results Tryz.f19 tmps).run Tryz.prog w9 = .ok v w9 ∧ ReadPost s w (.returned v) w9 := by
  have h5 := hR.lt
  have hR9 : Res3 b w4 w9 (.slice p n m) k e := hR.grow g (fun k hk => by have hk : k = w4.heap.size := (by simpa using hk); omega)
  have hA9 : Acts E w9 (.slice p n m) rs := hA.grow g (fun k hk => .inl (by have hk : k = w4.heap.size := (by simpa using hk); omega))
  refine ⟨_, results_cell3 rfl h2 h3 h4 (load31 hR9.c0) (load3 hR9.c1) (load33 hR9.c2), _, by rw [hr], by rw [hr]; exact hA9.slice, ?_⟩
  refine Grow.trans (hN.1.trans n4) (hR9.g.mono (fun k hk => ?_))
  have := hN.2
  show w.heap.size ≤ k
  omega

set_option maxRecDepth 100000 in
set_option maxHeartbeats 6400000 in
theorem read_any (s : Bs) (hs : s.length ≤ 100000) (w : World) (Ev : Env w) : Calls Tryz.prog 19 #[.string ⟨s.toArray⟩] w (ReadPost s w) := by
  obtain ⟨b, hb⟩ : ∃ b, w.heap.size = b := ⟨_, rfl⟩
  have h5 := Ev.lt
  rw [hb] at h5
  refine (callsIn_wide (n := 0)).1 ?_
  refine callsIn_of_wp_marks Tryz.func19 rfl trivial ?_
  simp only [Tryz.ntmps19, List.size_toArray, List.length_cons, List.length_nil, Nat.reduceAdd, Nat.reduceSub, Array.replicate_succ, Array.replicate_zero, List.push_toArray, List.append_toArray, List.nil_append, List.cons_append]
  gi_wp2_with fail
  obtain ⟨w3, hw3⟩ : ∃ w3, ((w.alloc (.cells #[.slice none 0 0] 31)).alloc (.cells #[.int .i64 0] 3)).alloc (.cells #[.int .i64 0] 33) = w3 := ⟨_, rfl⟩
  have n3 : Newer w w3 := hw3 ▸ (((Newer.alloc _ _).trans (Newer.alloc _ _)).trans (Newer.alloc _ _))
  have E3 := Ev.newer n3
  have z3 : w3.heap.size = b + 3 := by rw [← hw3, ← hb]; simp
  have R3 : Res3 b w3 w3 (.slice none 0 0) 0 0 := ⟨by rw [← hw3, ← hb]; simp [go_sem], by rw [← hw3, ← hb]; simp [go_sem], by rw [← hw3, ← hb]; simp [go_sem], by rw [← hw3, ← hb]; simp [go_sem], by rw [← hw3, ← hb]; simp [go_sem], by rw [← hw3, ← hb]; simp [go_sem], Grow.refl _ _, E3, by omega, h5⟩
  rw [hw3]
  clear hw3
  have HN := Lib.hid (And.intro n3 hb)
  clear n3 hb
  by_cases hl : 65536 < s.length
  · have HF := Lib.hid (readE_long hl)
    have hld : decide ((65536 : Int) < (s.length : Int)) = true := by simp; omega
    obtain ⟨c0, c1, c2, f0, f1, f2, -, -, -⟩ := R3
    gi_wp2_with (first
        | apply wpIn_scope_hop
        | apply wpIn_goto
        | (refine Exit.hop_goto rfl ?_)
        | apply wpIn_label)
    simp only [Exit.noGoto_ret]
    obtain ⟨A, hA⟩ : ∃ A, ((w3.setCell ⟨b, 0, none⟩ (.slice none 0 0)).setCell ⟨b + 1, 0, none⟩ (.int .i64 0)).setCell ⟨b + 1 + 1, 0, none⟩ (.int .i64 3) = A := ⟨_, rfl⟩
    rw [hA]
    have a0 : A.cell? ⟨b, 0, none⟩ = some (.slice none 0 0) := by subst hA; simp [go_sem, c0]
    have a1 : A.cell? ⟨b + 1, 0, none⟩ = some (.int .i64 0) := by subst hA; simp [go_sem, c1]
    have a2 : A.cell? ⟨b + 1 + 1, 0, none⟩ = some (.int .i64 3) := by subst hA; simp [go_sem, c2]
    have gA : Grow (fun k => b ≤ k) w3 A := hA ▸ Grow.trans (Grow.trans (Grow.setCell _ _ _ (Nat.le_refl _)) (Grow.setCell _ _ _ (by show b ≤ b + 1; omega))) (Grow.setCell _ _ _ (by show b ≤ b + 1 + 1; omega))
    refine bodyPostM_marks [] rfl (by simp) (by simp) ?_
    intro w9 h9
    have n9 : Grow (fun k => b ≤ k) w w9 := Grow.trans (Grow.trans (HN.out.1.grow _) gA) (h9.mono (fun k h => by simp at h))
    have e9 : ∀ k, k < A.heap.size → w9.cell? ⟨k, 0, none⟩ = A.cell? ⟨k, 0, none⟩ := fun k hk => h9.cell (p := ⟨k, 0, none⟩) hk (by simp)
    have zA := gA.size
    refine ⟨_, results_cell3 rfl rfl rfl rfl (load31 ((e9 b (by omega)).trans a0)) (load3 ((e9 (b + 1) (by omega)).trans a1)) (load33 ((e9 (b + 1 + 1) (by omega)).trans a2)), _, by rw [HF.out]; rfl, ?_, ?_⟩
    · rw [HF.out]; exact SliceA.nil _
    · have := HN.out.2; exact n9.mono (fun k hk => by show w.heap.size ≤ k; omega)
  · have hl2 : (s.length : Int) ≤ 65536 := by omega
    have hl3 : s.length ≤ 65536 := by omega
    gi_wp2_with (first | apply wpIn_scope_hop | apply wpIn_label)
    refine (callsIn_wide.2 (lines_any s w3)).mono ?_
    rintro e w4 ⟨rfl, hw4⟩
    have n4 : Newer w3 w4 := hw4 ▸ Newer.alloc _ _
    have z4 : w4.heap.size = b + 4 := by rw [hw4]; simp [z3]
    have R4 : Res3 b w4 w4 (.slice none 0 0) 0 0 := by
      have := R3.grow (Newer.grow n4 (fun _ => False)) (fun _ h => h.elim)
      exact ⟨this.c0, this.c1, this.c2, this.f0, this.f1, this.f2, Grow.refl _ _, this.env, by omega, h5⟩
    have c4 : w4.cell? ⟨b + 3, 0, none⟩ = some (.string ⟨s.toArray⟩) := by rw [hw4, ← z3]; simp [go_sem]
    have hit := lines_iter (b + 3) s hs w4 R4.env (by omega) c4
    rw [z3]
    have z4' : b + 3 < w4.heap.size := by omega
    have HN4 := Lib.hid n4
    clear hw4 n4 c4 R3 E3 z3 z4
    have HIT := Lib.hid hit
    clear hit
    gi_wp2_with fail
    refine wpIn_range_thru (gf := 57) (xs := numberedL 1 (wordsL 10 s)) rfl (fun _ _ => by kernel_rfl) HIT.out (fun k h => by omega) (Below.refl _ _) (fun _ => rfl) (RdI b w4) (RdX b w4) RdI.grow RdX.grow ?init ?round ?after
    case init => exact fun E => ⟨[], _, R4, rfl, Acts.nil _ _⟩
    case round =>
      rintro E l' pre x A hpre hE hEA hi0
      have hxl : x.2.length ≤ 100000 := Nat.le_trans (words_len 10 s x.2 (numbered_mem _ _ x (hpre.subset (by simp)))) hs
      have hpl : pre.length ≤ 100001 := by
        have h1 := hpre.length_le
        have h2 := numbered_len (wordsL 10 s) 1
        have h3 := words_cnt 10 s
        simp at h1; omega
      obtain ⟨xn, xs⟩ := x
      gi_wp2
      refine ⟨Keep.refl _ _, RdI b w4 E pre, RdI.grow E pre, hi0, ?_⟩
      clear hi0
      rintro W2 ⟨rs, v, hR, hm, hA⟩ hzW
      obtain ⟨p, cap, rfl⟩ := ownsRow_slice hA.row
      have HR := Lib.hid hR
      have HA := Lib.hid hA
      have HM := Lib.hid hm
      have hrl : rs.length ≤ 100001 := by
        have := congrArg List.length hm
        simp at this; omega
      clear hR hA hm R4 HIT hpre
      gi_wp2_with fail
      refine (CallsIn.inRound l' (callsIn_wide.2 (parse_any xs hxl W2 HR.out.env))).mono ?_
      rintro e W3 ⟨⟨a, v, hp, rfl, v8, v9, rfl, s8, s9⟩ | ⟨hp, rfl⟩, n3'⟩
      · obtain ⟨q8, l8, e8, -⟩ := id s8.1
        obtain ⟨q9, l9, e9, -⟩ := id s9.1
        obtain ⟨k8, hk8⟩ : ∃ k, a.bytes.length = k := ⟨_, rfl⟩
        obtain ⟨k9, hk9⟩ : ∃ k, a.marks.length = k := ⟨_, rfl⟩
        rw [hk8] at e8
        rw [hk9] at e9
        subst e8 e9
        obtain ⟨L, hL⟩ : ∃ L, rs.length = L := ⟨_, rfl⟩
        have hA3 : Acts E W3 (.slice p rs.length cap) rs := HA.out.grow (Newer.grow n3' (fun _ => False)) (fun _ h => h.elim)
        have hR3 := HR.out.grow (Newer.grow n3' (fun _ => False)) (fun _ h => h.elim)
        have hz3 : E ≤ W3.heap.size := by have := n3'.size; omega
        rw [hL] at hA3 hR3 hrl
        have hrow3 := hA3.row
        rw [hL] at hrow3
        have HP := Lib.hid hp
        have HS := Lib.hid (And.intro s8 s9)
        have HA3 := Lib.hid (And.intro hA3 (And.intro hR3 n3'))
        have HL := Lib.hid hL
        have hb3 : b < W3.heap.size := by have := World.block_lt_of_cell? _ _ hR3.c0; simpa using this
        have hb31 : b < W3.heap.size + 1 := by omega
        obtain ⟨c0, c1, c2, f0, f1, f2, -, -, -⟩ := hR3
        have HROW := Lib.hid hrow3
        clear hp s8 s9 hA3 n3' hL hk8 hk9 hrow3
        obtain ⟨i0, hi, hz0, hz1, hz2⟩ := info_parts Tryz.info29
        unfold actV
        gi_wp2_with (gi_at_builtin; refine wpListIn_append_own_at _ rfl _ _ 31 rfl E 29 i0 (.agg #[.int .i64 0, .int .i64 0, .int .i64 0, .int .i64 0, .string ⟨#[]⟩, .string ⟨#[]⟩, .int .i64 0, .int .i64 0, .slice none 0 0, .slice none 0 0]) 10 128 Tryz.underlying31 hi hz0 hz1 hz2 rfl (by decide) _ _ _ rfl ((HROW.out.alloc _).alloc _) ⟨W3.heap.size + 1, 0, none⟩ 1 1 (actCs (a, .slice q8 k8 l8, .slice q9 k9 l9)) rfl rfl ?c1 ?c2 ?c3 ?c4 ?c5 ?_)
        case c1 => exact cells_new (W3.alloc _) _ _ _ (by simp)
        case c2 => exact actCs_one _ rfl rfl
        case c3 => unfold maxLen; omega
        case c4 => omega
        case c5 => simp; omega
        intro v' W6 hown' hgrow _ hat
        obtain ⟨p', cap', rfl⟩ := ownsRow_slice hown'
        rw [← HL.out] at hown' hat
        have fin := read_put (xn := xn) hE (Nat.le_trans hEA hzW) z4' HA.out HR.out HM.out HP.out HA3.out.2.2 ((Newer.alloc _ _).trans (Newer.alloc _ _)) HS.out.1 HS.out.2 hown' (by rw [← HL.out] at hgrow; exact hgrow) hat (by simp)
        rw [HL.out] at fin
        have d0 := fin.1.1
        have d1 := fin.1.2
        have FIN := Lib.hid fin.2
        clear fin hown' hgrow hat c0 c1 c2 f0 f1 f2
        gi_wp2_with fail
        exact FIN.out
      · have hR3 := HR.out.grow (Newer.grow n3' (fun _ => False)) (fun _ h => h.elim)
        have hb3 : b < W3.heap.size := by have := World.block_lt_of_cell? _ _ hR3.c0; simpa using this
        have hb31 : b + 1 < W3.heap.size := by have := World.block_lt_of_cell? _ _ hR3.c1; simpa using this
        have hb32 : b + 1 + 1 < W3.heap.size := by have := World.block_lt_of_cell? _ _ hR3.c2; simpa using this
        have HR3 := Lib.hid (And.intro hR3 n3')
        have HP := Lib.hid hp
        obtain ⟨c0, c1, c2, f0, f1, f2, -, -, -⟩ := hR3
        clear hp n3'
        unfold zeroV actV
        gi_wp2_with fail
        obtain ⟨hR3, n3'⟩ := HR3.out
        have hX := (((hR3.put0 (.slice none 0 0)).put1 xn).put2 380).grow (own := fun _ => False) (Grow.alloc _ _ (.cells #[.int .i64 ActL.zero.kind, .int .i64 ActL.zero.thread, .int .i64 ActL.zero.n, .int .i64 ActL.zero.okind, .string ⟨ActL.zero.path.toArray⟩, .string ⟨ActL.zero.dest.toArray⟩, .int .i64 ActL.zero.at_, .int .i64 ActL.zero.on, .slice none 0 0, .slice none 0 0] 29)) (fun _ h => h.elim)
        have gX : Grow (fun k => k = b ∨ k = b + 1 ∨ k = b + 1 + 1) W2 _ := ((((n3'.grow _).trans (Grow.setCell _ ⟨b, 0, none⟩ (.slice none 0 0) (.inl rfl))).trans (Grow.setCell _ ⟨b + 1, 0, none⟩ (.int .i64 xn) (.inr (.inl rfl)))).trans (Grow.setCell _ ⟨b + 1 + 1, 0, none⟩ (.int .i64 380) (.inr (.inr rfl)))).trans (Grow.alloc _ _ (.cells #[.int .i64 ActL.zero.kind, .int .i64 ActL.zero.thread, .int .i64 ActL.zero.n, .int .i64 ActL.zero.okind, .string ⟨ActL.zero.path.toArray⟩, .string ⟨ActL.zero.dest.toArray⟩, .int .i64 ActL.zero.at_, .int .i64 ActL.zero.on, .slice none 0 0, .slice none 0 0] 29))
        refine ⟨rfl, Keep.grow gX (fun k hk => ?_) (fun k hk ho => ?_), gX.size, pre, (xn, xs), rs.map (·.1), rfl, hX, HM.out, HP.out⟩
        · rcases hk with hk | hk
          · omega
          · have := hk.2; omega
        · rcases hk with hk | hk
          · rcases ho with ho | ho | ho <;> omega
          · have := hk.1; rcases ho with ho | ho | ho <;> omega
    case after =>
      intro E A hE hi hK
      have HK := Lib.hid hK
      clear hK R4 HIT
      have key : ∃ (rs : List (ActL × Value × Value)) (v : Value) (k : Nat) (e : Int), Res3 b w4 A v k e ∧ Acts E A v rs ∧ readE s = (if 2000 < rs.length then ([], 0, 3) else (rs.map (·.1), k, e)) := by
        rcases hi with ⟨rs, v, hR, hm, hA⟩ | ⟨pre, hpre, hne, pre', x, out, rfl, hR, hm, hx⟩
        · exact ⟨rs, v, 0, 0, hR, hA, by have := readE_all hl3 hm; simpa using this⟩
        · exact ⟨[], _, x.1, 380, hR, Acts.nil _ _, by rw [readE_stop hl3 hpre hm hx]; rfl⟩
      obtain ⟨rs, v, k, e, hR, hA, hr⟩ := key
      clear hi
      obtain ⟨p, cap, rfl⟩ := ownsRow_slice hA.row
      obtain ⟨L, hL⟩ : ∃ L, rs.length = L := ⟨_, rfl⟩
      rw [hL] at hR hA hr
      have HL := Lib.hid hL
      have HA := Lib.hid hA
      have HR := Lib.hid hR
      have HRE := Lib.hid hr
      obtain ⟨c0, c1, c2, f0, f1, f2, -, -, -⟩ := hR
      clear hL hA hr
      by_cases h2 : 2000 < L
      · gi_wp2_with (first
          | apply wpIn_goto
          | (refine Exit.hop_goto rfl ?_)
          | apply wpIn_label)
        simp only [Exit.noGoto_ret]
        have hX := ((HR.out.put0 (.slice none 0 0)).put1 0).put2 3
        have gX : Grow (fun k => k = b ∨ k = b + 1 ∨ k = b + 1 + 1) A _ := ((Grow.setCell _ ⟨b, 0, none⟩ (.slice none 0 0) (.inl rfl)).trans (Grow.setCell _ ⟨b + 1, 0, none⟩ (.int .i64 0) (.inr (.inl rfl)))).trans (Grow.setCell _ ⟨b + 1 + 1, 0, none⟩ (.int .i64 3) (.inr (.inr rfl)))
        refine bodyPostM_marks [w4.heap.size] rfl ?_ (by simp) ?_
        · intro D hD
          obtain rfl : D = w4.heap.size := by simpa using hD
          exact (gX.block _ (Array.getElem?_eq_some_iff.1 HK.out).1 (by omega)).trans HK.out
        · intro w9 h9
          exact read_fin (k := 0) (rs := []) hE hX (Acts.nil _ _) HN.out HN4.out h9 (by rw [HRE.out, if_pos h2]; rfl) _ rfl rfl rfl
      · have hX := (((HR.out.put0 (.slice p L cap)).put1 k).put2 e).grow (own := fun _ => False) (Grow.drew _ _) (fun _ h => h.elim)
        have gX : Grow (fun k => k = b ∨ k = b + 1 ∨ k = b + 1 + 1) A _ := (((Grow.setCell _ ⟨b, 0, none⟩ (.slice p L cap) (.inl rfl)).trans (Grow.setCell _ ⟨b + 1, 0, none⟩ (.int .i64 k) (.inr (.inl rfl)))).trans (Grow.setCell _ ⟨b + 1 + 1, 0, none⟩ (.int .i64 e) (.inr (.inr rfl)))).trans (Grow.drew _ _)
        have hAX := HA.out.grow gX (fun k hk => .inl (by omega))
        have hmk := (gX.block _ (Array.getElem?_eq_some_iff.1 HK.out).1 (by omega)).trans HK.out
        have HX := Lib.hid (And.intro hX (And.intro hAX hmk))
        clear hX gX hAX hmk
        gi_wp2_with fail
        refine wpIn_calm ?_
        have mixed := mixedZ
        gi_region_with_o (fail)
        all_goals
          clear mixed
          gi_wp2_with fail
          simp only [Exit.hop_ret]
          refine bodyPostM_marks [w4.heap.size] rfl ?_ (by simp) ?_
          · intro D hD
            obtain rfl : D = w4.heap.size := by simpa using hD
            exact HX.out.2.2
          · intro w9 h9
            exact read_fin (k := k) (rs := rs) hE HX.out.1 HX.out.2.1 HN.out HN4.out h9 (by rw [HRE.out, if_neg h2]) _ rfl rfl rfl

end Go.Proofs.YtgdaaafejfjilaaGreatDoor
