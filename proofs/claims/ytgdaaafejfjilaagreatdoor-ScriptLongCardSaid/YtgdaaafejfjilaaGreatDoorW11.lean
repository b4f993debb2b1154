/- the words of a line: strings.Split's, in plain -/
import Derived.Test.YtgdaaafejfjilaaGreatDoorW10
import Derived.Lib.SplitLaws
namespace Go.Proofs.YtgdaaafejfjilaaGreatDoor
open Go.RowKit

theorem split_words (c : UInt8) : ∀ s : Bs, Lib.splitK [c] 0 (Lib.count s [c]) s = wordsL c s
  | [] => by rw [Lib.count_one]; rfl
  | b :: l => by
    have ih := split_words c l
    by_cases h : b = c
    · subst h
      have hix : Lib.index (b :: l) [b] = 0 := by rw [Lib.index]; simp [List.isPrefixOf]
      rw [Lib.count_cons_eq, Nat.add_comm, Lib.splitK, hix]
      simp [wordsL, ih]
    · have hp : ([c] : List UInt8).isPrefixOf (b :: l) = false := by simp [List.isPrefixOf, Ne.symm h]
      have hix : Lib.index (b :: l) [c] = if Lib.index l [c] == -1 then -1 else Lib.index l [c] + 1 := by rw [Lib.index, hp]; simp
      rw [Lib.count_cons_ne b c l h]
      rw [wordsL, if_neg h, ← ih]
      cases hk : Lib.count l [c] with
      | zero => rfl
      | succ k =>
        by_cases hm : Lib.index l [c] = -1
        · rw [Lib.count_miss hm] at hk; cases hk
        · have hge := Lib.index_ge l [c]
          obtain ⟨j, hj⟩ : ∃ j : Nat, Lib.index l [c] = j := ⟨(Lib.index l [c]).toNat, by omega⟩
          have hix' : Lib.index (b :: l) [c] = ((j + 1 : Nat) : Int) := by rw [hix, if_neg (fun e => hm (beq_iff_eq.1 e)), hj]; omega
          have e1 : ¬ (((j + 1 : Nat) : Int) == -1) = true := fun e => by have := beq_iff_eq.1 e; omega
          have e2 : ¬ (((j : Nat) : Int) == -1) = true := fun e => by have := beq_iff_eq.1 e; omega
          simp only [Lib.splitK, hix', hj]
          rw [if_neg e1, if_neg e2]
          simp

theorem words_len (c : UInt8) : ∀ (s : Bs), ∀ x ∈ wordsL c s, x.length ≤ s.length
  | [], x, h => by simp [wordsL] at h; simp [h]
  | b :: l, x, h => by
    have ih := words_len c l
    unfold wordsL at h
    split at h
    · rcases List.mem_cons.1 h with rfl | h
      · simp
      · have := ih x h; simp; omega
    · split at h
      · rename_i hw
        simp at h; subst h; simp
      · rename_i y t hw
        rcases List.mem_cons.1 h with rfl | h
        · have := ih y (by rw [hw]; simp); simp; omega
        · have := ih x (by rw [hw]; simp [h]); simp; omega

theorem words_cnt (c : UInt8) : ∀ (s : Bs), (wordsL c s).length ≤ s.length + 1
  | [] => by simp [wordsL]
  | b :: l => by
    have ih := words_cnt c l
    unfold wordsL
    split
    · simp; omega
    · split
      · simp
      · rename_i y t hw
        rw [hw] at ih
        simp at ih ⊢; omega

theorem words_some (c : UInt8) : ∀ s : Bs, ∃ x l, wordsL c s = x :: l
  | [] => ⟨_, _, rfl⟩
  | b :: l => by
    unfold wordsL
    split
    · exact ⟨_, _, rfl⟩
    · split <;> exact ⟨_, _, rfl⟩

/-- what the cells of Split's array hold -/
theorem split_cells (s : Bs) : ((Lib.splitB ⟨#[32]⟩ 0 (Lib.countB ⟨s.toArray⟩ ⟨#[32]⟩) ⟨s.toArray⟩).map Value.string).toArray = ((wordsL 32 s).map (fun x => Value.string ⟨x.toArray⟩)).toArray ∧ Lib.countB ⟨s.toArray⟩ ⟨#[32]⟩ + 1 = (wordsL 32 s).length := by
  have h := Lib.splitB_data ⟨#[32]⟩ 0 (Lib.countB ⟨s.toArray⟩ ⟨#[32]⟩) ⟨s.toArray⟩
  have e : Lib.splitK [32] 0 (Lib.countB ⟨s.toArray⟩ ⟨#[32]⟩) s = wordsL 32 s := by
    rw [← split_words]
  have h : (Lib.splitB ⟨#[32]⟩ 0 (Lib.countB ⟨s.toArray⟩ ⟨#[32]⟩) ⟨s.toArray⟩).map (·.data.toList) = wordsL 32 s := h.trans e
  constructor
  · rw [← h, List.map_map]
    rfl
  · rw [← h, List.length_map, Lib.splitB_all _ (by decide) _ _ _ rfl]

theorem needs_verb (k : Int) : (∀ c ∈ (verbL k).2, c ∈ letters) ∧ (verbL k).2.length ≤ 100 := by
  unfold verbL
  repeat' split
  all_goals (constructor <;> decide)
theorem needs_op (k : Int) : (∀ c ∈ (opL k).2, c ∈ letters) ∧ (opL k).2.length ≤ 100 := by
  by_cases h1 : k = 1
  · subst h1; constructor <;> decide
  by_cases h2 : k = 2
  · subst h2; constructor <;> decide
  by_cases h3 : k = 3
  · subst h3; constructor <;> decide
  by_cases h4 : k = 4
  · subst h4; constructor <;> decide
  by_cases h5 : k = 5
  · subst h5; constructor <;> decide
  by_cases h6 : k = 6
  · subst h6; constructor <;> decide
  by_cases h7 : k = 7
  · subst h7; constructor <;> decide
  by_cases h8 : k = 8
  · subst h8; constructor <;> decide
  by_cases h9 : k = 9
  · subst h9; constructor <;> decide
  by_cases h10 : k = 10
  · subst h10; constructor <;> decide
  by_cases h11 : k = 11
  · subst h11; constructor <;> decide
  have e : opL k = ([], []) := by unfold opL; simp only [h1, h2, h3, h4, h5, h6, h7, h8, h9, h10, h11, if_false]
  rw [e]
  constructor <;> decide
theorem kindL_range {s : Bs} {k : Int} (h : kindL s = some k) : 1 ≤ k ∧ k ≤ 5 := (kindA_has s k h).2

end Go.Proofs.YtgdaaafejfjilaaGreatDoor

/- contracts of package script: parsed -/
namespace Go.Proofs.YtgdaaafejfjilaaGreatDoor
open Go.RowKit Go.Maps
attribute [local go_sem] Oper.semAt_some undef

/-- an act's value, its slices outside K -/
def ActO (K : Nat → Prop) (w : World) (v : Value) (a : ActL) : Prop := ∃ v8 v9, v = actV a v8 v9 ∧ (SliceB w v8 a.bytes ∧ Off K v8) ∧ (SliceM w v9 a.marks ∧ Off K v9)
theorem ActO.toV {K : Nat → Prop} {w : World} {v : Value} {a : ActL} (h : ActO K w v a) : ActV w v a := by
  obtain ⟨v8, v9, e, h8, h9⟩ := h
  exact ⟨v8, v9, e, h8.1, h9.1⟩
theorem Off.sub {K K' : Nat → Prop} {v : Value} (h : Off K v) (hk : ∀ k, K' k → K k) : Off K' v := fun A n c e hA => h A n c e (hk _ hA)
/-- what has come of a line -/
def ParsedPost (s : Bs) (w : World) (e : Ending) (w' : World) : Prop :=
  ((∃ a v, parseL s = some a ∧ e = .returned v ∧ ActO (fun k => k < w.heap.size) w' v a) ∨ (parseL s = none ∧ e = .panicked (gaveUp 380))) ∧ Newer w w'

/-- where the act and the reader lie, on the way -/
structure PI (b rb : Nat) (w W : World) (a : ActL) (l : List Bs) : Prop where
  env : Env W
  act : ActAt W (fun k => k = b ∨ k = rb ∨ k < b) b a
  words : WordsAt W (fun k => k ≠ b + 1) rb l
  new : Newer w W
  hb : w.heap.size = b
  hrb : rb = b + 2
  small : ∀ s ∈ l, s.length ≤ 100000

theorem zero_act (w : World) (K : Nat → Prop) (hk : K w.heap.size) : ActAt (w.alloc (.cells #[.int .i64 0, .int .i64 0, .int .i64 0, .int .i64 0, .string ⟨#[]⟩, .string ⟨#[]⟩, .int .i64 0, .int .i64 0, .slice none 0 0, .slice none 0 0] 29)) K w.heap.size ActL.zero := by
  refine ⟨by simp [go_sem, ActL.zero], by simp [go_sem, ActL.zero], by simp [go_sem, ActL.zero], by simp [go_sem, ActL.zero], by simp [go_sem, ActL.zero], by simp [go_sem, ActL.zero], by simp [go_sem, ActL.zero], by simp [go_sem, ActL.zero], ⟨.slice none 0 0, by simp [go_sem], SliceB.nil _, Off.nil _⟩, ⟨.slice none 0 0, by simp [go_sem], SliceM.nil _, Off.nil _⟩, fun k => ?_, hk⟩
  simp [go_sem]

theorem start_parse (s : Bs) (hs : s.length ≤ 100000) (w w0 w1 : World) (b n : Nat) (ll : List Bs) (E : Env w) (hb : w.heap.size = b) (hll : wordsL 32 s = ll) (hn : ll.length = n)
    (hw0 : w.alloc (.cells #[.int .i64 0, .int .i64 0, .int .i64 0, .int .i64 0, .string ⟨#[]⟩, .string ⟨#[]⟩, .int .i64 0, .int .i64 0, .slice none 0 0, .slice none 0 0] 29) = w0)
    (hw1 : w1 = w0.alloc (.cells (ll.map (fun x => Value.string ⟨x.toArray⟩)).toArray 9)) :
    PI b (b + 2) w (w1.alloc (.cells #[.slice (some ⟨b + 1, 0, none⟩) n n] 98)) ActL.zero ll := by
  have z0 : w0.heap.size = b + 1 := by rw [← hw0, ← hb]; simp
  have z1 : w1.heap.size = b + 2 := by rw [hw1]; simp [z0]
  have hb' : w.heap.size < w0.heap.size := by omega
  have n01 : Newer w0 w1 := hw1 ▸ Newer.alloc _ _
  have n12 := Newer.alloc w1 (.cells #[.slice (some ⟨b + 1, 0, none⟩) n n] 98)
  have n02 := n01.trans n12
  have nw0 : Newer w w0 := hw0 ▸ Newer.alloc _ _
  have ha := zero_act w (fun k => k = b ∨ k = b + 2 ∨ k < b) (.inl hb)
  rw [hw0, hb] at ha
  refine ⟨E.newer (nw0.trans n02), ha.newer n02, ⟨b + 1, 0, n, ?_, ?_, by omega, ?_, ⟨by omega, by simp⟩, fun j hj => ?_⟩, nw0.trans n02, hb, rfl, fun x hx => ?_⟩
  · rw [← z1, hn]; simp [go_sem]
  · rw [← z1]; simp [go_sem]
  · have : n ≤ 100001 := by rw [← hn, ← hll]; exact Nat.le_trans (words_cnt 32 s) (by omega)
    unfold maxLen; omega
  · refine newer_cell ?_ n12
    rw [hw1, ← z0]
    simp [go_sem, hj]
  · rw [← hll] at hx
    exact Nat.le_trans (words_len 32 s x hx) hs

/-- in a region that reads a word: what may turn, what stays -/
structure RG (b rb : Nat) (W0 W : World) (l : List Bs) : Prop where
  env : Env W
  words : WordsAt W (fun k => k ≠ b + 1) rb l
  g : Grow (fun k => k = rb ∨ W0.heap.size ≤ k) W0 W
  lt : rb < W0.heap.size ∧ 5 < rb

theorem RG.start {b rb : Nat} {w W : World} {a : ActL} {l : List Bs} (h : PI b rb w W a l) (E : Env w) : RG b rb W W l := by
  obtain ⟨q, o, cap, c, _⟩ := h.words
  have hl : rb < W.heap.size := by have := World.block_lt_of_cell? _ _ c; simpa using this
  exact ⟨h.env, h.words, Grow.refl _ _, hl, by have := h.hrb; have := h.hb; have := E.lt; omega⟩
theorem RG.newer {b rb : Nat} {W0 W W' : World} {l : List Bs} (h : RG b rb W0 W l) (n : Newer W W') : RG b rb W0 W' l :=
  ⟨h.env.newer n, h.words.newer n, h.g.trans (n.mono (fun k hk => .inr (by have hk : W.heap.size ≤ k := hk; have := h.g.size; omega))), h.lt⟩
theorem RG.took {b rb : Nat} {W0 W W' : World} {s : Bs} {l : List Bs} {u : Value} (h : RG b rb W0 W (s :: l)) (hw : WordsAt W' (fun k => k ≠ b + 1) rb l) (hu : W' = W.setCell ⟨rb, 0, none⟩ u) : RG b rb W0 W' l := by
  have g : Grow (fun k => k = rb) W W' := hu ▸ Grow.setCell (own := fun k => k = rb) W _ u rfl
  have := h.g.size
  have := h.lt
  exact ⟨h.env.below (Grow.below g (n := rb) (fun k hk => by have hk : k = rb := hk; omega) (by omega)) h.lt.2, hw, h.g.trans (g.mono (fun k hk => .inl hk)), h.lt⟩
theorem RG.own {b rb v : Nat} {W0 W W' : World} {l : List Bs} (h : RG b rb W0 W l) (hv : W0.heap.size ≤ v) (hb : b + 1 < W0.heap.size) (hvW : v < W.heap.size) (g : Grow (fun k => k = v) W W') : RG b rb W0 W' l := by
  have := h.lt
  refine ⟨h.env.below (Grow.below g (n := v) (fun k hk => by have hk : k = v := hk; omega) (by omega)) (by omega), h.words.grow g (fun hk => by have hk : rb = v := hk; omega) (fun k hk => .inl (by have hk : k = v := hk; show k ≠ b + 1; omega)), h.g.trans (g.mono (fun k hk => .inr (by have hk : k = v := hk; omega))), h.lt⟩
theorem RG.pos {b rb B : Nat} {W0 W : World} {l : List Bs} (h : RG b rb W0 W l) (hB : W.heap.size = B) : rb ≠ B := by have := h.lt; have := h.g.size; omega
theorem RG.new {b rb : Nat} {w W0 W : World} {a : ActL} {l l' : List Bs} (h : PI b rb w W0 a l) (r : RG b rb W0 W l') : Newer w W :=
  Grow.trans h.new (r.g.mono (fun k hk => by
    have := h.hb
    have := h.hrb
    have := h.new.size
    show w.heap.size ≤ k
    rcases hk with hk | hk <;> omega))
theorem RG.fin {b rb : Nat} {w W0 W : World} {a : ActL} {l l' : List Bs} (h : PI b rb w W0 a l) (r : RG b rb W0 W l') (hl : ∀ s ∈ l', s.length ≤ 100000) : PI b rb w W a l' := by
  refine ⟨r.env, h.act.grow r.g (fun hk => ?_) (fun k hk => ?_), r.words, RG.new h r, h.hb, h.hrb, hl⟩
  · have := h.hrb; have := h.act.lt
    rcases hk with hk | hk <;> omega
  · rcases hk with hk | hk
    · exact .inl (.inr (.inl hk))
    · exact .inr hk
theorem own_took {rb B n : Nat} {W W' : World} {k : TypeId} {D : DataW Value} {u : Value} (h : W.ownsMap Tryz.prog k Rv B n D) (hB : rb ≠ B) (hu : W' = W.setCell ⟨rb, 0, none⟩ u) : W'.ownsMap Tryz.prog k Rv B n D := by
  have g : Grow (fun k => k = rb) W W' := hu ▸ Grow.setCell (own := fun k => k = rb) W _ u rfl
  have hl := h.lt
  obtain ⟨es, clock, hb, F, hs, hD⟩ := h
  exact ⟨es, clock, (g.block B hl (fun e => hB e.symm)).trans hb, F, hs, hD⟩

/-- the verb's variable -/
structure Cell5 (rb v : Nat) (W0 W : World) : Prop where
  c0 : W.cell? ⟨v, 0, none⟩ = some (.string ⟨#[]⟩)
  c1 : W.cell? ⟨v, 1, none⟩ = some (.string ⟨#[]⟩)
  f : ∀ k, W.frozen? ⟨v, k, none⟩ = false
  lt : rb < v ∧ W0.heap.size ≤ v
theorem Cell5.made {b rb v : Nat} {W0 W W' : World} {l : List Bs} (h : RG b rb W0 W l) (hv : W.heap.size = v) (hW : W.alloc (.cells #[.string ⟨#[]⟩, .string ⟨#[]⟩] 79) = W') : Cell5 rb v W0 W' := by
  have := h.g.size
  have := h.lt
  subst hv hW
  exact ⟨by simp [go_sem], by simp [go_sem], fun k => by simp [go_sem], by omega, by omega⟩
theorem Cell5.newer {rb v : Nat} {W0 W W' : World} (h : Cell5 rb v W0 W) (n : Newer W W') : Cell5 rb v W0 W' := by
  have hl : v < W.heap.size := by have := World.block_lt_of_cell? _ _ h.c0; simpa using this
  exact ⟨newer_cell h.c0 n, newer_cell h.c1 n, fun k => (World.frozen?_of_block (n.block hl)).trans (h.f k), h.lt⟩
theorem Cell5.took {rb v : Nat} {W0 W W' : World} {u : Value} (h : Cell5 rb v W0 W) (hu : W' = W.setCell ⟨rb, 0, none⟩ u) : Cell5 rb v W0 W' := by
  subst hu
  have := h.lt
  refine ⟨?_, ?_, fun k => ?_, h.lt⟩
  · rw [World.cell?_setCell_other]; exact h.c0; intro e; have e : rb = v := congrArg Addr.block e; omega
  · rw [World.cell?_setCell_other]; exact h.c1; intro e; have e : rb = v := congrArg Addr.block e; omega
  · rw [World.frozen?_setCell]; exact h.f k

theorem Cell5.store {rb v : Nat} {W0 W X : World} {nm nd : Bs} (h : Cell5 rb v W0 W) (hX : (W.setCell ⟨v, 0, none⟩ (.string ⟨nm.toArray⟩)).setCell ⟨v, 1, none⟩ (.string ⟨nd.toArray⟩) = X) :
    (X.cell? ⟨v, 0, none⟩ = some (.string ⟨nm.toArray⟩) ∧ X.cell? ⟨v, 1, none⟩ = some (.string ⟨nd.toArray⟩)) ∧ Grow (fun k => k = v) W X := by
  subst hX
  have e1 : (W.setCell ⟨v, 0, none⟩ (.string ⟨nm.toArray⟩)).cell? ⟨v, 1, none⟩ = some (.string ⟨#[]⟩) := cell_put h.c1 (by decide)
  have e0 : (W.setCell ⟨v, 0, none⟩ (.string ⟨nm.toArray⟩)).cell? ⟨v, 0, none⟩ = some (.string ⟨nm.toArray⟩) := World.cell?_setCell_same _ _ _ h.c0
  exact ⟨⟨cell_put e0 (by decide), World.cell?_setCell_same _ _ _ e1⟩, Grow.trans (Grow.setCell (own := fun k => k = v) _ _ _ rfl) (Grow.setCell (own := fun k => k = v) _ _ _ rfl)⟩
theorem RG.last {b v : Nat} {w W0 W X : World} {a : ActL} {s : Bs} {l : List Bs} (h : PI b (b + 2) w W0 a (s :: l)) (r : RG b (b + 2) W0 W l) (c : Cell5 (b + 2) v W0 W) (g : Grow (fun k => k = v) W X) : PI b (b + 2) w X a l := by
  have hv : v < W.heap.size := by have := World.block_lt_of_cell? _ _ c.c0; simpa using this
  have := c.lt
  have := r.lt
  exact RG.fin h (r.own (v := v) (by omega) (by omega) hv g) (fun x hx => h.small x (List.mem_cons_of_mem _ hx))

theorem parse_nokind {s s0 : Bs} {l0 : List Bs} (h : wordsL 32 s = s0 :: l0) (hk : kindL s0 = none) : parseL s = none := by
  unfold parseL readL
  rw [h]
  simp only [hk]
theorem parse_nofill {s s0 : Bs} {l0 : List Bs} {k : Int} (h : wordsL 32 s = s0 :: l0) (hk : kindL s0 = some k) (hf : fillL (verbL k).2 { ActL.zero with kind := k } l0 = none) : parseL s = none := by
  unfold parseL readL
  rw [h]
  simp only [hk, hf]
theorem parse_end {s s0 : Bs} {l0 l1 : List Bs} {k : Int} {a : ActL} (h : wordsL 32 s = s0 :: l0) (hk : kindL s0 = some k) (hf : fillL (verbL k).2 { ActL.zero with kind := k } l0 = some (a, l1)) (h1 : k ≠ 1) : parseL s = if l1 = [] then some a else none := by
  unfold parseL readL
  rw [h]
  simp only [hk, hf, if_neg h1]
theorem parse_queue {s s0 : Bs} {l0 l1 : List Bs} {a : ActL} (h : wordsL 32 s = s0 :: l0) (hk : kindL s0 = some 1) (hf : fillL (verbL 1).2 { ActL.zero with kind := 1 } l0 = some (a, l1)) : parseL s = match l1 with
          | [] => none
          | o :: l2 => match opkL o with
            | none => none
            | some x => match fillL (opL x).2 { a with okind := x } l2 with
              | none => none
              | some (b, l3) => if l3 = [] then some b else none := by
  unfold parseL readL
  rw [h]
  simp only [hk, hf, if_true]
  cases l1 <;> rfl

theorem SliceB.put1 {w : World} {K : Nat → Prop} {b o : Nat} {x v : Value} {l : Bs} (hk : K b) (h : SliceB w v l ∧ Off K v) : SliceB (w.setCell ⟨b, o, none⟩ x) v l ∧ Off K v := ⟨h.1.put hk h.2, h.2⟩
theorem SliceM.put1 {w : World} {K : Nat → Prop} {b o : Nat} {x v : Value} {l : List Bool} (hk : K b) (h : SliceM w v l ∧ Off K v) : SliceM (w.setCell ⟨b, o, none⟩ x) v l ∧ Off K v := ⟨h.1.put hk h.2, h.2⟩

/-- an act is stored -/
theorem act_put {w : World} {K : Nat → Prop} {b : Nat} {a0 a : ActL} (h : ActAt w K b a0) {v8 v9 u8 u9 : Value} (s8 : SliceB w v8 a.bytes ∧ Off K v8) (s9 : SliceM w v9 a.marks ∧ Off K v9)
    (d8 : w.cell? ⟨b, 8, none⟩ = some u8) (d9 : w.cell? ⟨b, 9, none⟩ = some u9) : ∀ Y,
    ((((((((((w.setCell ⟨b, 0, none⟩ (.int .i64 a.kind)).setCell ⟨b, 1, none⟩ (.int .i64 a.thread)).setCell ⟨b, 2, none⟩ (.int .i64 a.n)).setCell ⟨b, 3, none⟩ (.int .i64 a.okind)).setCell ⟨b, 4, none⟩ (.string ⟨a.path.toArray⟩)).setCell ⟨b, 5, none⟩ (.string ⟨a.dest.toArray⟩)).setCell ⟨b, 6, none⟩ (.int .i64 a.at_)).setCell ⟨b, 7, none⟩ (.int .i64 a.on)).setCell ⟨b, 8, none⟩ v8).setCell ⟨b, 9, none⟩ v9) = Y →
    ActAt Y K b a ∧ Y.cell? ⟨b, 8, none⟩ = some v8 ∧ Y.cell? ⟨b, 9, none⟩ = some v9 ∧ SliceB Y v8 a.bytes ∧ SliceM Y v9 a.marks ∧ Grow (fun k => k = b) w Y := by
  rintro _ rfl
  have hk := h.kb
  have A0 := h.set_kind a.kind
  have A1 := A0.set_thread a.thread
  have A2 := A1.set_n a.n
  have A3 := A2.set_okind a.okind
  have A4 := A3.set_path a.path
  have A5 := A4.set_dest a.dest
  have A6 := A5.set_at_ a.at_
  have A7 := A6.set_on a.on
  have t8 := SliceB.put1 (o := 7) (x := .int .i64 a.on) hk (SliceB.put1 (o := 6) (x := .int .i64 a.at_) hk (SliceB.put1 (o := 5) (x := .string ⟨a.dest.toArray⟩) hk (SliceB.put1 (o := 4) (x := .string ⟨a.path.toArray⟩) hk (SliceB.put1 (o := 3) (x := .int .i64 a.okind) hk (SliceB.put1 (o := 2) (x := .int .i64 a.n) hk (SliceB.put1 (o := 1) (x := .int .i64 a.thread) hk (SliceB.put1 (o := 0) (x := .int .i64 a.kind) hk s8)))))))
  have t9 := SliceM.put1 (o := 7) (x := .int .i64 a.on) hk (SliceM.put1 (o := 6) (x := .int .i64 a.at_) hk (SliceM.put1 (o := 5) (x := .string ⟨a.dest.toArray⟩) hk (SliceM.put1 (o := 4) (x := .string ⟨a.path.toArray⟩) hk (SliceM.put1 (o := 3) (x := .int .i64 a.okind) hk (SliceM.put1 (o := 2) (x := .int .i64 a.n) hk (SliceM.put1 (o := 1) (x := .int .i64 a.thread) hk (SliceM.put1 (o := 0) (x := .int .i64 a.kind) hk s9)))))))
  have A8 := A7.set_bytes a.bytes t8.1 t8.2
  have t8' := SliceB.put1 (o := 8) (x := v8) hk t8
  have t9' := SliceM.put1 (o := 8) (x := v8) hk t9
  have A9 : ActAt _ K b a := A8.set_marks a.marks t9'.1 t9'.2
  have e8 := cell_put (x := .int .i64 a.on) (o' := 7) (cell_put (x := .int .i64 a.at_) (o' := 6) (cell_put (x := .string ⟨a.dest.toArray⟩) (o' := 5) (cell_put (x := .string ⟨a.path.toArray⟩) (o' := 4) (cell_put (x := .int .i64 a.okind) (o' := 3) (cell_put (x := .int .i64 a.n) (o' := 2) (cell_put (x := .int .i64 a.thread) (o' := 1) (cell_put (x := .int .i64 a.kind) (o' := 0) d8 (by decide)) (by decide)) (by decide)) (by decide)) (by decide)) (by decide)) (by decide)) (by decide)
  have e9 := cell_put (x := v8) (o' := 8) (cell_put (x := .int .i64 a.on) (o' := 7) (cell_put (x := .int .i64 a.at_) (o' := 6) (cell_put (x := .string ⟨a.dest.toArray⟩) (o' := 5) (cell_put (x := .string ⟨a.path.toArray⟩) (o' := 4) (cell_put (x := .int .i64 a.okind) (o' := 3) (cell_put (x := .int .i64 a.n) (o' := 2) (cell_put (x := .int .i64 a.thread) (o' := 1) (cell_put (x := .int .i64 a.kind) (o' := 0) d9 (by decide)) (by decide)) (by decide)) (by decide)) (by decide)) (by decide)) (by decide)) (by decide)) (by decide)
  have q8 := World.cell?_setCell_same _ ⟨b, 8, none⟩ v8 e8
  refine ⟨A9, cell_put q8 (by decide), World.cell?_setCell_same _ _ _ e9, (t8'.1.put hk t8'.2), (t9'.1.put hk t9'.2), ?_⟩
  have g : ∀ (W : World) (o : Nat) (x : Value), Grow (fun k => k = b) W (W.setCell ⟨b, o, none⟩ x) := fun W o x => Grow.setCell (own := fun k => k = b) W _ x rfl
  exact Grow.trans (Grow.trans (Grow.trans (Grow.trans (Grow.trans (Grow.trans (Grow.trans (Grow.trans (Grow.trans (g _ _ _) (g _ _ _)) (g _ _ _)) (g _ _ _)) (g _ _ _)) (g _ _ _)) (g _ _ _)) (g _ _ _)) (g _ _ _)) (g _ _ _)

theorem load29 {w : World} {K : Nat → Prop} {b : Nat} {a : ActL} (h : ActAt w K b a) {v8 v9 : Value} (d8 : w.cell? ⟨b, 8, none⟩ = some v8) (d9 : w.cell? ⟨b, 9, none⟩ = some v9) : (loadVar 29 ⟨b, 0, none⟩).run Tryz.prog w = .ok (actV a v8 v9) w := by
  have c0 := h.c0
  have c1 := h.c1
  have c2 := h.c2
  have c3 := h.c3
  have c4 := h.c4
  have c5 := h.c5
  have c6 := h.c6
  have c7 := h.c7
  clear h
  unfold actV
  go_simp

theorem fillL_mem : ∀ (cs : Bs) (a a' : ActL) (l l' : List Bs), fillL cs a l = some (a', l') → ∀ x ∈ l', x ∈ l
  | [], a, a', l, l', h, x, hx => by
    simp only [fillL, Option.some.injEq, Prod.mk.injEq] at h
    rw [h.2]; exact hx
  | c :: cs, a, a', [], l', h, x, hx => by simp [fillL] at h
  | c :: cs, a, a', s :: l, l', h, x, hx => by
    cases hs : setL c a s with
    | none => rw [fillL_none hs] at h; cases h
    | some b => rw [fillL_some hs] at h; exact List.mem_cons_of_mem _ (fillL_mem cs b a' l l' h x hx)

theorem PI.filled {b : Nat} {w X X' : World} {a a' : ActL} {l l' : List Bs} (h : PI b (b + 2) w X a l) (ha : ActAt X' (fun k => k = b ∨ k = b + 2 ∨ k < b) b a') (hw : WordsAt X' (fun k => k ≠ b + 1) (b + 2) l')
    (g : Grow (fun k => k = b ∨ k = b + 2 ∨ X.heap.size ≤ k) X X') (hm : ∀ x ∈ l', x ∈ l) (E : Env w) : PI b (b + 2) w X' a' l' := by
  have z := h.new.size
  have hb := h.hb
  have h5 := E.lt
  have hl := h.act.lt
  refine ⟨h.env.below (Grow.below g (n := b) (fun k hk => by rcases hk with hk | hk | hk <;> omega) (by omega)) (by omega), ha, hw, ?_, hb, rfl, fun x hx => h.small x (hm x hx)⟩
  exact Grow.trans h.new (g.mono (fun k hk => by
    show w.heap.size ≤ k
    rcases hk with hk | hk | hk <;> omega))
theorem PI.newFill {b : Nat} {w X X' : World} {a : ActL} {l : List Bs} (h : PI b (b + 2) w X a l) (g : Grow (fun k => k = b ∨ k = b + 2 ∨ X.heap.size ≤ k) X X') : Newer w X' := by
  have z := h.new.size
  have hb := h.hb
  exact Grow.trans h.new (g.mono (fun k hk => by
    show w.heap.size ≤ k
    rcases hk with hk | hk | hk <;> omega))
theorem PI.put {b : Nat} {w X X' : World} {a a' : ActL} {l : List Bs} (h : PI b (b + 2) w X a l) (ha : ActAt X' (fun k => k = b ∨ k = b + 2 ∨ k < b) b a') (g : Grow (fun k => k = b) X X') (E : Env w) : PI b (b + 2) w X' a' l := by
  refine h.filled ha (h.words.grow g (fun hk => ?_) (fun k hk => .inl ?_)) (g.mono (fun k hk => .inl hk)) (fun _ hx => hx) E
  · have hk : b + 2 = b := hk; omega
  · have hk : k = b := hk; show k ≠ b + 1; omega
theorem PI.fill {b : Nat} {w X : World} {a : ActL} {l : List Bs} (h : PI b (b + 2) w X a l) (E : Env w) (nm needs : Bs) (hn : (∀ c ∈ needs, c ∈ letters) ∧ needs.length ≤ 100) :
    Calls Tryz.prog 51 #[.pointer (some ⟨b + 2, 0, none⟩), .pointer (some ⟨b, 0, none⟩), verb nm needs] X fun e X' => (∃ a' l', fillL needs a l = some (a', l') ∧ e = .returned (.tuple #[]) ∧ PI b (b + 2) w X' a' l') ∨ (fillL needs a l = none ∧ e = .panicked (gaveUp 380) ∧ Newer w X') := by
  have h5 := E.lt
  have hb := h.hb
  have hl := h.act.lt
  have hl2 : b + 2 < X.heap.size := by
    obtain ⟨q, o, cap, c, _⟩ := h.words
    have := World.block_lt_of_cell? _ _ c; simpa using this
  refine (fill_any (fun k => k = b ∨ k = b + 2 ∨ k < b) (fun k => k ≠ b + 1) b (b + 2) (by omega) (.inr (.inl rfl)) (by show b ≠ b + 1; omega) a l nm needs hn.1 hn.2 X (fun k hk => by rcases hk with hk | hk | hk <;> omega) h.env (by omega) (by omega) h.act h.words h.small).mono ?_
  rintro e X' ⟨⟨a', l', hf, rfl, ha, hw⟩ | ⟨hf, rfl⟩, g⟩
  · exact .inl ⟨a', l', hf, rfl, h.filled ha hw g (fillL_mem _ _ _ _ _ hf) E⟩
  · exact .inr ⟨hf, rfl, h.newFill g⟩

end Go.Proofs.YtgdaaafejfjilaaGreatDoor
