/- General laws over any program: a scope that is left by a jump forward, and a range over a function whose iterator keeps cells of its own. -/
import Derived.RangeFuncNested
import Derived.RangeFuncBound
import Derived.RangeFuncCalls
import Derived.RangeFuncLeaves
import Derived.RangeFuncBox
import Derived.WalkKit
import Derived.OwnWalkIn
import Derived.TacticsInMore
namespace Go.Proofs.YtgdaaafejfjilaaGreatDoor
open Go Go.RowKit

/-- Nothing turns but blocks of `own`; there may be new ones. -/
structure Grow (own : Nat → Prop) (W W' : World) : Prop where
  os : W'.os = W.os
  tape : W'.tape = W.tape
  output : W'.output = W.output
  size : W.heap.size ≤ W'.heap.size
  block : ∀ k, k < W.heap.size → ¬ own k → W'.heap[k]? = W.heap[k]?

theorem Grow.refl (own : Nat → Prop) (W : World) : Grow own W W := ⟨rfl, rfl, rfl, Nat.le_refl _, fun _ _ _ => rfl⟩
theorem Grow.trans {own : Nat → Prop} {A B C : World} (h : Grow own A B) (k : Grow own B C) : Grow own A C :=
  ⟨k.os.trans h.os, k.tape.trans h.tape, k.output.trans h.output, Nat.le_trans h.size k.size,
   fun i hi ho => (k.block i (Nat.lt_of_lt_of_le hi h.size) ho).trans (h.block i hi ho)⟩
theorem Grow.mono {own own' : Nat → Prop} {A B : World} (h : Grow own A B) (ho : ∀ k, own k → own' k) : Grow own' A B :=
  ⟨h.os, h.tape, h.output, h.size, fun k hk hn => h.block k hk (fun h' => hn (ho k h'))⟩
theorem Grow.alloc (own : Nat → Prop) (W : World) (o : Obj) : Grow own W (W.alloc o) :=
  ⟨rfl, rfl, rfl, by simp, fun k hk _ => Below.heap_alloc _ _ _ hk⟩
theorem Grow.drew (own : Nat → Prop) (W : World) : Grow own W W.drew := ⟨rfl, rfl, rfl, Nat.le_refl _, fun _ _ _ => rfl⟩
theorem Grow.setCell {own : Nat → Prop} (W : World) (p : Addr) (u : Value) (hp : own p.block) : Grow own W (W.setCell p u) :=
  ⟨rfl, rfl, rfl, by simp [World.setCell], fun k _ hn => Below.heap_setCell _ _ _ _ (fun e => hn (by rw [e]; exact hp))⟩
theorem Grow.putObj {own : Nat → Prop} (W : World) (l : Nat) (o : Obj) (hp : own l) : Grow own W (W.putObj l o) :=
  ⟨rfl, rfl, rfl, by simp, fun k _ hn => World.putObj_heap_other (fun e => hn (by rw [e]; exact hp))⟩
theorem Grow.cell {own : Nat → Prop} {A B : World} (h : Grow own A B) {p : Addr} (hp : p.block < A.heap.size) (hn : ¬ own p.block) : B.cell? p = A.cell? p :=
  World.cell?_of_block (h.block _ hp hn)
theorem Grow.frozen {own : Nat → Prop} {A B : World} (h : Grow own A B) {p : Addr} (hp : p.block < A.heap.size) (hn : ¬ own p.block) : B.frozen? p = A.frozen? p :=
  World.frozen?_of_block (h.block _ hp hn)
theorem Grow.below {own : Nat → Prop} {A B : World} (h : Grow own A B) {n : Nat} (hn : ∀ k, own k → n ≤ k) (hs : n ≤ A.heap.size) : Below n A B :=
  ⟨h.os, h.tape, h.output, h.size, fun k hk => h.block k (by omega) (fun ho => by have := hn k ho; omega)⟩
theorem Grow.ofBelow {A B : World} {n : Nat} (h : Below n A B) : Grow (fun k => n ≤ k) A B :=
  ⟨h.os, h.tape, h.output, h.size, fun k _ hn => h.block k (by omega)⟩

theorem boxed_grow {own : Nat → Prop} {A B : World} {b : Nat} {t : TypeId} {v : Value} (h : Boxed A b t v) (hg : Grow own A B) (hn : ¬ own b) : Boxed B b t v :=
  (hg.block b h.lt hn).trans h
theorem ownsRow_grow {W W' : World} {base : Nat} {e : TypeId} {size : Nat} {v : Value} {n : Nat} {xs : List Value} {own : Nat → Prop} (h : W.ownsRow base e size v n xs) (hg : Grow own W W') (hn : ∀ k, v.ownBlock = some k → ¬ own k) : W'.ownsRow base e size v n xs := by
  refine ⟨h.1, ?_⟩
  rcases h.2 with hh | ⟨g, cap, cur, rfl, hb, hgg, rest⟩
  · exact .inl hh
  · refine .inr ⟨g, cap, cur, rfl, hb, ?_, rest⟩
    rw [hg.block g (Array.getElem?_eq_some_iff.1 hgg).1 (hn g rfl)]
    exact hgg
theorem ownsRow_slice {W : World} {base : Nat} {e : TypeId} {size : Nat} {v : Value} {n : Nat} {xs : List Value} (h : W.ownsRow base e size v n xs) : ∃ a cap, v = .slice a n cap := by
  rcases h.2 with ⟨rfl, rfl⟩ | ⟨g, cap, cur, rfl, _⟩
  · exact ⟨_, _, rfl⟩
  · exact ⟨_, _, rfl⟩

/-- The blocks from S on, below E. -/
def Span (S E : Nat) : Nat → Prop := fun k => S ≤ k ∧ k < E
/-- The blocks of K lie as they lay. -/
def Keep (K : Nat → Prop) (W W' : World) : Prop := ∀ k, K k → W'.heap[k]? = W.heap[k]?

theorem Keep.refl (K : Nat → Prop) (W : World) : Keep K W W := fun _ _ => rfl
theorem Keep.trans {K : Nat → Prop} {A B C : World} (h : Keep K A B) (k : Keep K B C) : Keep K A C := fun i a => (k i a).trans (h i a)
theorem Keep.sub {K K' : Nat → Prop} {A B : World} (h : Keep K A B) (h1 : ∀ k, K' k → K k) : Keep K' A B := fun i a => h i (h1 i a)
theorem Keep.grow {K own : Nat → Prop} {A B : World} (h : Grow own A B) (hs : ∀ k, K k → k < A.heap.size) (hn : ∀ k, K k → ¬ own k) : Keep K A B :=
  fun k a => h.block k (hs k a) (hn k a)
/-- What an iterator leans on: the blocks of cap, and the span from S on, below E. -/
def Leans (cap : Nat → Prop) (S E : Nat) : Nat → Prop := fun k => cap k ∨ Span S E k

theorem cell_alloc_l {W : World} {a : Addr} {v : Value} (o : Obj) (h : W.cell? a = some v) : (W.alloc o).cell? a = some v := cell_kept h (World.grownBy_alloc W o none) (fun r e => by cases e)
theorem frozen_alloc_l {W : World} {a : Addr} {v : Value} (o : Obj) (h : W.cell? a = some v) (hf : W.frozen? a = false) : (W.alloc o).frozen? a = false := (frozen_kept h (World.grownBy_alloc W o none) (fun r e => by cases e)).trans hf

abbrev Wide : Fence := Fence.wide
@[simp, go_sem] theorem wide_fn (f : FuncId) : Fence.wide.fn f = True := rfl
@[simp, go_sem] theorem wide_depth : Fence.wide.depth = none := rfl

/-- THE CONTRACT OF AN ITERATOR'S VALUE, made in w: it hands xs over, one by one; what it keeps for itself lies from the call's beginning on, below E. -/
def Iter {α : Type} (P : Program) (gf : Nat) (lb : Array Value) (encs : α → Array Value) (xs : List α) (cap : Nat → Prop) (w : World) : Prop :=
  ∀ (l : Nat) (W : World), Below w.heap.size w W → ∀ (J Jx : Nat → List α → World → Prop),
    (∀ E pre A B, J E pre A → Grow (Span W.heap.size E) A B → J E pre B) →
    (∀ E pre A B, Jx E pre A → Grow (Span W.heap.size E) A B → Jx E pre B) →
    (∀ E, J E [] W) →
    (∀ E pre x W1, pre ++ [x] <+: xs → W.heap.size ≤ E → E ≤ W1.heap.size → J E pre W1 → YieldAt Wide 0 P l (encs x) W1 fun e W' =>
      Keep (Leans cap W.heap.size E) W1 W' ∧ W1.heap.size ≤ W'.heap.size ∧ ((e = .returned (.bool true) ∧ J E (pre ++ [x]) W') ∨ (e = .returned (.bool false) ∧ Jx E (pre ++ [x]) W'))) →
    CallsIn Wide 0 P gf (#[.func (.yield l) #[] #[]] ++ lb) W fun e W' => (∃ v, e = .returned v) ∧ ∃ E, W.heap.size ≤ E ∧ (J E xs W' ∨ ∃ pre, pre <+: xs ∧ pre ≠ [] ∧ Jx E pre W')

theorem Iter.later {α : Type} {P : Program} {gf : Nat} {lb : Array Value} {encs : α → Array Value} {xs : List α} {cap : Nat → Prop} {w w' : World} (h : Iter P gf lb encs xs cap w) (hb : Below w.heap.size w w') : Iter P gf lb encs xs cap w' :=
  fun l W hW => h l W (hb.trans (hW.mono hb.size))

/-- How the body of a round may be left. -/
def roundEnd {α : Type} (K : Nat → Prop) (I : List α → World → Prop) (Ix : Code → List α → World → Prop) (xs : List α) (W : World) : Exit → Act → World → Prop
  | .normal, _, W' => Keep K W W' ∧ W.heap.size ≤ W'.heap.size ∧ I xs W'
  | .ret, _, W' => Keep K W W' ∧ W.heap.size ≤ W'.heap.size ∧ Ix .ret xs W'
  | .exit id, _, W' => Keep K W W' ∧ W.heap.size ≤ W'.heap.size ∧ Ix (.exit id) xs W'
  | .goto t, _, W' => Keep K W W' ∧ W.heap.size ≤ W'.heap.size ∧ Ix (.goto t) xs W'
  | .panic _, _, _ => False
  | .outgrown, _, _ => False

/-- THE STATEMENT 'for .. := range g', not within a round. -/
theorem wpIn_range {α : Type} {P : Program} {g : Operand} {ps : Array Tmp} {assign body : Code} {Q : Exit → Act → World → Prop} {a : Act} {w : World}
    {gf : Nat} {lb : Array Value} {encs : α → Array Value} {xs : List α} {cap : Nat → Prop} {w0 : World} (hg : a.eval g = .func (.func gf) #[] lb) (eg : ∀ args w, (callFunc gf args).run P w = .ok (.enter gf args) w)
    (hit : Iter P gf lb encs xs cap w0) (hcap : ∀ k, cap k → k < w.heap.size) (hb0 : Below w0.heap.size w0 w) (hps : ∀ x, (encs x).size = ps.size)
    (I : Nat → List α → World → Prop) (Ix : Code → Nat → List α → World → Prop)
    (hI : ∀ E pre A B, I E pre A → Grow (Span w.heap.size E) A B → I E pre B)
    (hIx : ∀ c E pre A B, Ix c E pre A → Grow (Span w.heap.size E) A B → Ix c E pre B)
    (h0 : ∀ E, I E [] w)
    (hround : ∀ (E l : Nat) (pre : List α) (x : α) (W : World), pre ++ [x] <+: xs → w.heap.size + 2 ≤ E → E ≤ W.heap.size → I E pre W →
      assign.wpIn (Wide.inRound l) 0 P (Exit.then (fun a₁ W₁ => Keep (Leans cap w.heap.size E) W W₁ ∧ W.heap.size ≤ W₁.heap.size ∧
          ∃ X : World → Prop, (∀ A B, X A → Grow (Span w.heap.size E) A B → X B) ∧ X W₁ ∧
            ∀ W₂, X W₂ → W₁.heap.size ≤ W₂.heap.size → body.wpIn (Wide.inRound l) 0 P (roundEnd (Leans cap w.heap.size E) (I E) (fun c => Ix c E) (pre ++ [x]) W₂) a₁ W₂) (fun _ _ _ => False))
        { tmps := (ps.zip (encs x)).foldl (fun t (p, v) => t.setIfInBounds p v) a.tmps, defers := [] } W)
    (hdone : ∀ (E : Nat) (W : World), w.heap.size + 2 ≤ E → I E xs W → W.heap[w.heap.size]? = some (.deferred (some [])) → Q .normal { a with defers := { target := .collected w.heap.size, args := #[] } :: a.defers } W)
    (hstop : ∀ (E : Nat) (c : Code) (pre : List α) (W : World), w.heap.size + 2 ≤ E → pre <+: xs → pre ≠ [] → Ix c E pre W → W.heap[w.heap.size]? = some (.deferred (some [])) → c.wpIn Wide 0 P Q { a with defers := { target := .collected w.heap.size, args := #[] } :: a.defers } W) :
    (Code.rangeFunc g ps assign body).wpIn Wide 0 P Q a w := by
  refine wpIn_rangeFunc ?_
  intro fn hfn
  obtain ⟨rec, hrec⟩ : ∃ rec : LoopState → Option Code → Loop, rec = fun st pe => { state := st, pending := pe, fn, tmps := a.tmps, params := ps, assign, body, defers := w.heap.size } := ⟨_, rfl⟩
  obtain ⟨W1, hW1⟩ : ∃ W1, (w.alloc (.deferred (some []))).alloc (.loop (rec .ready none)) = W1 := ⟨_, rfl⟩
  have hs1 : W1.heap.size = w.heap.size + 2 := by rw [← hW1]; simp
  have hL1 : W1.heap[w.heap.size + 1]? = some (.loop (rec .ready none)) := by
    rw [← hW1]; have := World.alloc_heap_new (w.alloc (.deferred (some []))) (.loop (rec .ready none)); rwa [World.size_alloc] at this
  have hK1 : W1.heap[w.heap.size]? = some (.deferred (some [])) := by
    rw [← hW1]; exact (Below.heap_alloc _ _ _ (by simp)).trans (World.alloc_heap_new w _)
  have hg1 : ∀ own, Grow own w W1 := fun own => by rw [← hW1]; exact (Grow.alloc own w _).trans (Grow.alloc own _ _)
  have hb1 : Below w0.heap.size w0 W1 := by
    rw [← hW1]; exact hb0.trans ((((Below.refl _ w).alloc (Nat.le_refl _) _).alloc (by simp) _).mono hb0.size)
  refine ⟨w.heap.size + 1, [{ target := .collected w.heap.size, args := #[] }], W1, { target := .fn (.func gf) lb, args := #[.func (.yield (w.heap.size + 1)) #[] #[]] }, W1, gf,
    #[.func (.yield (w.heap.size + 1)) #[] #[]] ++ lb, W1, ?_, ?_, ?_, ?_, fun h => by simp [Wide, Fence.wide] at h, ?_⟩
  · rw [← hW1, hrec]; exact run_enterLoop_outer _ _ _ _ _
  · simp only [resolve, hg]
    simp [go_sem]
  · intro f' _; trivial
  · simp [invoke, go_sem, eg]
  · have hsub : ∀ E k, Span W1.heap.size E k → Span w.heap.size E k := fun E k hk => ⟨by have := hk.1; omega, hk.2⟩
    refine (hit (w.heap.size + 1) W1 hb1
      (fun E pre W => I E pre W ∧ w.heap.size + 2 ≤ W.heap.size ∧ W.heap[w.heap.size + 1]? = some (.loop (rec .ready none)) ∧ W.heap[w.heap.size]? = some (.deferred (some [])))
      (fun E pre W => ∃ c, Ix c E pre W ∧ w.heap.size + 2 ≤ W.heap.size ∧ W.heap[w.heap.size + 1]? = some (.loop (rec .done (some c))) ∧ W.heap[w.heap.size]? = some (.deferred (some [])))
      ?sJ ?sJx ?init ?round).mono ?fin
    case sJ =>
      rintro E pre A B ⟨hi, hz, hl, hk⟩ hgr
      exact ⟨hI E pre A B hi (hgr.mono (hsub E)), Nat.le_trans hz hgr.size, (hgr.block _ (by omega) (fun h => by have := h.1; omega)).trans hl, (hgr.block _ (by omega) (fun h => by have := h.1; omega)).trans hk⟩
    case sJx =>
      rintro E pre A B ⟨c, hi, hz, hl, hk⟩ hgr
      exact ⟨c, hIx c E pre A B hi (hgr.mono (hsub E)), Nat.le_trans hz hgr.size, (hgr.block _ (by omega) (fun h => by have := h.1; omega)).trans hl, (hgr.block _ (by omega) (fun h => by have := h.1; omega)).trans hk⟩
    case init => exact fun E => ⟨hI E [] w W1 (h0 E) (hg1 _), by omega, hL1, hK1⟩
    case round =>
      rintro E pre x W hpre hE1 hE2 ⟨hi, hz, hl, hk⟩
      have hlt : w.heap.size + 1 < W.heap.size := by omega
      have hy := run_yield (P := P) (args := encs x) hl (by rw [hrec]; exact hps x)
      rw [hrec] at hy
      have hE0 : w.heap.size + 2 ≤ E := by omega
      have hput : ∀ (A : World) (o : Obj), Grow (Span w.heap.size E) A (A.putObj (w.heap.size + 1) o) := fun A o => Grow.putObj A _ o ⟨by omega, by omega⟩
      have hkp : ∀ (A : World) (o : Obj), Keep (Leans cap W1.heap.size E) A (A.putObj (w.heap.size + 1) o) := fun A o k h1 => World.putObj_heap_other (h1.elim (fun h => by have := hcap k h; omega) (fun h => by have := h.1; omega))
      have hin : ∀ k, w.heap.size ≤ k → k < E → Leans cap w.heap.size E k := fun k a b => .inr ⟨a, b⟩
      have hle : ∀ {A B : World}, Keep (Leans cap w.heap.size E) A B → Keep (Leans cap W1.heap.size E) A B := fun h => h.sub (fun k h => h.imp id (fun h => ⟨by have := h.1; omega, h.2⟩))
      refine ⟨fn, _, assign, body, hy, roundIn_of_wpIn (F := Wide) (n := 0) hfn (wpIn_mono (hround E _ pre x W hpre hE0 hE2 hi) ?_)⟩
      intro e₁ a₁ Wa hq
      cases e₁ with
      | normal => ?_
      | exit id => exact hq.elim
      | goto t => exact hq.elim
      | ret => exact hq.elim
      | panic ch => exact hq.elim
      | outgrown => exact hq.elim
      obtain ⟨hka, hza, X, hX, hx1, hbody⟩ := hq
      have hla : Wa.heap[w.heap.size + 1]? = some (.loop (rec .ready none)) := (hka _ (hin _ (by omega) (by omega))).trans hl
      have hkka : Wa.heap[w.heap.size]? = some (.deferred (some [])) := (hka _ (hin _ (by omega) (by omega))).trans hk
      refine ⟨_, run_beginRound hla (by rw [hrec]), ?_⟩
      have hl2 : (Wa.putObj (w.heap.size + 1) (.loop { rec .ready none with state := .busy })).heap[w.heap.size + 1]? = some (.loop { rec .ready none with state := .busy }) := World.putObj_heap_same (by omega)
      have hk2 : (Wa.putObj (w.heap.size + 1) (.loop { rec .ready none with state := .busy })).heap[w.heap.size]? = some (.deferred (some [])) := (World.putObj_heap_other (by omega)).trans hkka
      refine wpIn_mono (hbody _ (hX _ _ hx1 (hput _ _)) (by simp)) ?_
      have fin : ∀ (jump : Option Code) (W3 : World), Keep (Leans cap w.heap.size E) (Wa.putObj (w.heap.size + 1) (.loop { rec .ready none with state := .busy })) W3 → W.heap.size ≤ W3.heap.size →
          (Instr.endRound (w.heap.size + 1) jump).run P W3 = .ok (.bool jump.isNone) (W3.putObj (w.heap.size + 1) (.loop (rec (if jump.isNone then .ready else .done) jump))) ∧
          (W3.putObj (w.heap.size + 1) (.loop (rec (if jump.isNone then .ready else .done) jump))).heap[w.heap.size + 1]? = some (.loop (rec (if jump.isNone then .ready else .done) jump)) ∧
          (W3.putObj (w.heap.size + 1) (.loop (rec (if jump.isNone then .ready else .done) jump))).heap[w.heap.size]? = some (.deferred (some [])) ∧
          w.heap.size + 2 ≤ W3.heap.size ∧ Keep (Leans cap W1.heap.size E) W (W3.putObj (w.heap.size + 1) (.loop (rec (if jump.isNone then .ready else .done) jump))) := fun jump W3 hk3 hz3 => by
        have hl3 : W3.heap[w.heap.size + 1]? = some (.loop { rec .ready none with state := .busy }) := (hk3 _ (hin _ (by omega) (by omega))).trans hl2
        have hk4 : W3.heap[w.heap.size]? = some (.deferred (some [])) := (hk3 _ (hin _ (by omega) (by omega))).trans hk2
        have hr := run_endRound (P := P) jump hl3
        rw [hrec] at hr ⊢
        exact ⟨hr, World.putObj_heap_same (by omega), (World.putObj_heap_other (by omega)).trans hk4, by omega,
          (((hle hka).trans (hkp Wa _)).trans (hle hk3)).trans (hkp W3 _)⟩
      rintro e a3 W3 hp
      cases e with
      | normal =>
        obtain ⟨hk3, hz3, hi3⟩ := hp
        have hz3' : W.heap.size ≤ W3.heap.size := Nat.le_trans hza (by simpa using hz3)
        obtain ⟨hr, hl4, hk4, hz4, hkk⟩ := fin none W3 hk3 hz3'
        exact ⟨_, _, hr, hkk, by simpa using hz3', .inl ⟨rfl, hI E _ _ _ hi3 (hput _ _), by simpa using hz4, hl4, hk4⟩⟩
      | ret =>
        obtain ⟨hk3, hz3, hi3⟩ := hp
        have hz3' : W.heap.size ≤ W3.heap.size := Nat.le_trans hza (by simpa using hz3)
        obtain ⟨hr, hl4, hk4, hz4, hkk⟩ := fin (some .ret) W3 hk3 hz3'
        exact ⟨_, _, hr, hkk, by simpa using hz3', .inr ⟨rfl, .ret, hIx _ E _ _ _ hi3 (hput _ _), by simpa using hz4, hl4, hk4⟩⟩
      | exit id =>
        obtain ⟨hk3, hz3, hi3⟩ := hp
        have hz3' : W.heap.size ≤ W3.heap.size := Nat.le_trans hza (by simpa using hz3)
        obtain ⟨hr, hl4, hk4, hz4, hkk⟩ := fin (some (.exit id)) W3 hk3 hz3'
        exact ⟨_, _, hr, hkk, by simpa using hz3', .inr ⟨rfl, .exit id, hIx _ E _ _ _ hi3 (hput _ _), by simpa using hz4, hl4, hk4⟩⟩
      | goto t =>
        obtain ⟨hk3, hz3, hi3⟩ := hp
        have hz3' : W.heap.size ≤ W3.heap.size := Nat.le_trans hza (by simpa using hz3)
        obtain ⟨hr, hl4, hk4, hz4, hkk⟩ := fin (some (.goto t)) W3 hk3 hz3'
        exact ⟨_, _, hr, hkk, by simpa using hz3', .inr ⟨rfl, .goto t, hIx _ E _ _ _ hi3 (hput _ _), by simpa using hz4, hl4, hk4⟩⟩
      | panic ch => exact hp.elim
      | outgrown => exact hp.elim
    case fin =>
      rintro e W2 ⟨⟨v, rfl⟩, E, hE, (⟨hi, hz, hl, hk⟩ | ⟨pre, hpre, hne, c, hi, hz, hl, hk⟩)⟩
      · refine ⟨none, _, by have := run_endLoop (P := P) hl (by rw [hrec]; simp); rw [hrec] at this; exact this, ?_⟩
        exact hdone E _ (by omega) (hI E _ _ _ hi (Grow.putObj _ _ _ ⟨by omega, by omega⟩)) ((World.putObj_heap_other (by omega)).trans hk)
      · refine ⟨some c, _, by have := run_endLoop (P := P) hl (by rw [hrec]; simp); rw [hrec] at this; exact this, ?_⟩
        exact hstop E c pre _ (by omega) hpre hne (hIx c E _ _ _ hi (Grow.putObj _ _ _ ⟨by omega, by omega⟩)) ((World.putObj_heap_other (by omega)).trans hk)

/-- How the body of a round may be left, where it goes on or leaves its loop by exit id. -/
def roundThru {α : Type} (id : Nat) (K : Nat → Prop) (I Ix : List α → World → Prop) (xs : List α) (W : World) : Exit → Act → World → Prop
  | .normal, _, W' => Keep K W W' ∧ W.heap.size ≤ W'.heap.size ∧ I xs W'
  | .exit i, _, W' => i = id ∧ Keep K W W' ∧ W.heap.size ≤ W'.heap.size ∧ Ix xs W'
  | _, _, _ => False

/-- THE STATEMENT 'for .. := range g', its rounds going on or breaking: both ways lead on behind it. -/
theorem wpIn_range_thru {α : Type} {P : Program} {id : Nat} {g : Operand} {ps : Array Tmp} {assign body : Code} {Q : Exit → Act → World → Prop} {a : Act} {w : World}
    {gf : Nat} {lb : Array Value} {encs : α → Array Value} {xs : List α} {cap : Nat → Prop} {w0 : World} (hg : a.eval g = .func (.func gf) #[] lb) (eg : ∀ args w, (callFunc gf args).run P w = .ok (.enter gf args) w)
    (hit : Iter P gf lb encs xs cap w0) (hcap : ∀ k, cap k → k < w.heap.size) (hb0 : Below w0.heap.size w0 w) (hps : ∀ x, (encs x).size = ps.size)
    (I Ix : Nat → List α → World → Prop)
    (hI : ∀ E pre A B, I E pre A → Grow (Span w.heap.size E) A B → I E pre B)
    (hIx : ∀ E pre A B, Ix E pre A → Grow (Span w.heap.size E) A B → Ix E pre B)
    (h0 : ∀ E, I E [] w)
    (hround : ∀ (E l : Nat) (pre : List α) (x : α) (W : World), pre ++ [x] <+: xs → w.heap.size + 2 ≤ E → E ≤ W.heap.size → I E pre W →
      assign.wpIn (Wide.inRound l) 0 P (Exit.then (fun a₁ W₁ => Keep (Leans cap w.heap.size E) W W₁ ∧ W.heap.size ≤ W₁.heap.size ∧
          ∃ X : World → Prop, (∀ A B, X A → Grow (Span w.heap.size E) A B → X B) ∧ X W₁ ∧
            ∀ W₂, X W₂ → W₁.heap.size ≤ W₂.heap.size → body.wpIn (Wide.inRound l) 0 P (roundThru id (Leans cap w.heap.size E) (I E) (Ix E) (pre ++ [x]) W₂) a₁ W₂) (fun _ _ _ => False))
        { tmps := (ps.zip (encs x)).foldl (fun t (p, v) => t.setIfInBounds p v) a.tmps, defers := [] } W)
    (hafter : ∀ (E : Nat) (W : World), w.heap.size + 2 ≤ E → (I E xs W ∨ ∃ pre, pre <+: xs ∧ pre ≠ [] ∧ Ix E pre W) → W.heap[w.heap.size]? = some (.deferred (some [])) →
      Q .normal { a with defers := { target := .collected w.heap.size, args := #[] } :: a.defers } W) :
    (Code.rangeFunc g ps assign body).wpIn Wide 0 P (Exit.inBlock id Q) a w := by
  refine wpIn_range hg eg hit hcap hb0 hps I (fun c E pre A => c = .exit id ∧ Ix E pre A) hI (fun c E pre A B h hg => ⟨h.1, hIx E pre A B h.2 hg⟩) h0 ?_ ?_ ?_
  · intro E l pre x W h1 h2 h3 h4
    refine wpIn_mono (hround E l pre x W h1 h2 h3 h4) ?_
    intro e a₁ W₁ hq
    cases e with
    | normal =>
      obtain ⟨k1, k2, X, x1, x2, x3⟩ := hq
      refine ⟨k1, k2, X, x1, x2, fun W₂ hx hz => wpIn_mono (x3 W₂ hx hz) ?_⟩
      intro e' a' W' hq'
      cases e' with
      | normal => exact hq'
      | exit i => obtain ⟨rfl, b1, b2, b3⟩ := hq'; exact ⟨b1, b2, rfl, b3⟩
      | goto t => exact hq'.elim
      | ret => exact hq'.elim
      | panic ch => exact hq'.elim
      | outgrown => exact hq'.elim
    | exit i => exact hq.elim
    | goto t => exact hq.elim
    | ret => exact hq.elim
    | panic ch => exact hq.elim
    | outgrown => exact hq.elim
  · exact fun E W hE hi hK => hafter E W hE (.inl hi) hK
  · rintro E c pre W hE hp hne ⟨rfl, hx⟩ hK
    refine wpIn_exit ?_
    simpa [Exit.inBlock] using hafter E W hE (.inr ⟨pre, hp, hne, hx⟩) hK

/-! ### A function's end, where ranges over functions have left their marks -/
theorem leaves_marks {F : Fence} {n : Nat} {P : Program} {fn : Func} {tmps : Array Value} {R : Ending → World → Prop} : ∀ (Ds : List Nat) (w : World),
    (∀ D, D ∈ Ds → w.heap[D]? = some (.deferred (some []))) → Ds.Nodup →
    (∀ w', Grow (fun k => k ∈ Ds) w w' → ∃ v, (results fn tmps).run P w' = .ok v w' ∧ R (.returned v) w') →
    LeavesInM F n P fn tmps R (Ds.map fun D => { target := .collected D, args := #[] }) .returning w := by
  intro Ds
  induction Ds with
  | nil => intro w _ _ hR; exact hR w (Grow.refl _ _)
  | cons D Ds ih =>
    intro w hD hn hR
    obtain ⟨hn1, hn2⟩ := List.nodup_cons.1 hn
    refine ⟨by simp, .inl ⟨D, _, rfl, run_takeDeferred (hD D (by simp)), ?_⟩⟩
    refine ih _ (fun D' h => ?_) hn2 (fun w' hg => hR w' ?_)
    · exact (World.putObj_heap_other (fun e => hn1 (by subst e; exact h))).trans (hD D' (by simp [h]))
    · exact (Grow.putObj w D _ (by simp)).trans (hg.mono (fun k hk => by simp [hk]))

theorem bodyPostM_marks {F : Fence} {n : Nat} {P : Program} {fn : Func} {R : Ending → World → Prop} {a : Act} {w : World} (Ds : List Nat)
    (hd : a.defers = Ds.map fun D => { target := .collected D, args := #[] }) (hD : ∀ D, D ∈ Ds → w.heap[D]? = some (.deferred (some []))) (hn : Ds.Nodup)
    (hR : ∀ w', Grow (fun k => k ∈ Ds) w w' → ∃ v, (results fn a.tmps).run P w' = .ok v w' ∧ R (.returned v) w') :
    bodyPostM F n P fn R .ret a w := by
  show LeavesInM F n P fn a.tmps R a.defers .returning w
  rw [hd]
  exact leaves_marks Ds w hD hn hR

theorem results_cell {P : Program} {fn : Func} {p : Tmp} {ty : TypeId} (h : fn.results = #[.cell p ty]) {tmps : Array Value} {w : World} {ad : Addr} {v : Value} (ha : tmps.getD p undef = .pointer (some ad))
    (hl : (loadVar ty ad).run P w = .ok v w) : (results fn tmps).run P w = .ok v w := by
  have ha' : tmps[p]?.getD undef = .pointer (some ad) := by simpa using ha
  simp [results, h, ha', asAddr, hl]

theorem results_tmp_cell {P : Program} {fn : Func} {u p : Tmp} {ty : TypeId} (h : fn.results = #[.tmp u, .cell p ty]) {tmps : Array Value} {w : World} {ad : Addr} {v : Value} (ha : tmps.getD p undef = .pointer (some ad))
    (hl : (loadVar ty ad).run P w = .ok v w) : (results fn tmps).run P w = .ok (.tuple #[tmps.getD u undef, v]) w := by
  have ha' : tmps[p]?.getD undef = .pointer (some ad) := by simpa using ha
  simp [results, h, ha', asAddr, hl]

/-! ### A scope that is left by a jump to a label of it, once -/
/-- As Q; by a goto to a label of c: on at that label. -/
def Exit.hop (F : Fence) (n : Nat) (P : Program) (c : Code) (Q : Exit → Act → World → Prop) : Exit → Act → World → Prop
  | .goto l, a, w => match findLabel c l with
    | some rest => rest.wpIn F n P (Exit.noGoto Q) a w
    | none => Q (.goto l) a w
  | e, a, w => Q e a w
section
variable {F : Fence} {n : Nat} {P : Program} {c : Code} {Q : Exit → Act → World → Prop} {a : Act} {w : World}
@[go_sem] theorem Exit.hop_normal : Exit.hop F n P c Q .normal a w = Q .normal a w := rfl
@[go_sem] theorem Exit.hop_exit (id : Nat) : Exit.hop F n P c Q (.exit id) a w = Q (.exit id) a w := rfl
@[go_sem] theorem Exit.hop_ret : Exit.hop F n P c Q .ret a w = Q .ret a w := rfl
@[go_sem] theorem Exit.hop_panic (ch : List PanicEntry) : Exit.hop F n P c Q (.panic ch) a w = Q (.panic ch) a w := rfl
theorem Exit.hop_goto {l : Nat} {rest : Code} (hf : findLabel c l = some rest) (h : rest.wpIn F n P (Exit.noGoto Q) a w) : Exit.hop F n P c Q (.goto l) a w := by
  simp only [Exit.hop, hf]; exact h
end

theorem fenced_scope {P : Program} {b : Frame} {a : Act} {k : List Item} {cs : List Frame} {w : World} {c : Code} :
    step P (lone (b.atR a (.code (.scope c) :: k)) cs w) = .next (lone (b.atR a (.code c :: .inScope c :: k)) cs w) :=
  step_lone_go (by simp [stepG, stepG.exec, Frame.atR])
theorem fenced_inScope {P : Program} {b : Frame} {a : Act} {k : List Item} {cs : List Frame} {w : World} {c : Code} :
    step P (lone (b.atR a (.inScope c :: k)) cs w) = .next (lone (b.atR a k) cs w) :=
  step_lone_go (by simp [stepG, stepG.exec, Frame.atR])

/-- A scope in which at most one jump is made, to a label of its own. -/
theorem wpIn_scope_hop {F : Fence} {n : Nat} {P : Program} {c : Code} {Q : Exit → Act → World → Prop} {a : Act} {w : World}
    (h : c.wpIn F n P (Exit.hop F n P c Q) a w) : (Code.scope c).wpIn F n P Q a w := by
  intro b k cs hro hb hr
  have h0 : (lone (b.atR a (.code (.scope c) :: k)) cs w).fenced P F := fenced_calm hb hr rfl
  have hs0 : StepsIn (Machine.fenced P F) P (lone (b.atR a (.code (.scope c) :: k)) cs w) (lone (b.atR a (.code c :: .inScope c :: k)) cs w) := .one h0 fenced_scope
  -- what a way out of the inner code says of the whole
  have out : ∀ (e : Exit) (a₁ : Act) (w₁ : World) (m : Machine), Exit.noGoto Q e a₁ w₁ → ArrivesIn (Machine.fenced P F) P m b (.inScope c :: k) cs e a₁ w₁ →
      ∃ e a' w', Q e a' w' ∧ ArrivesIn (Machine.fenced P F) P m b k cs e a' w' := by
    intro e a₁ w₁ m hq harr
    cases e with
    | normal => exact ⟨.normal, a₁, w₁, hq, StepsIn.trans harr (.one (fenced_calm (fr := b.atR a₁ (.inScope c :: k)) hb hr rfl) fenced_inScope)⟩
    | exit id => exact ⟨.exit id, a₁, w₁, hq, fun k' hk => harr.1 k' (by simp [exitTo, hk]), fun h1 h2 => harr.2 h1 (by simp [exitTo, h2])⟩
    | goto l => exact hq.elim
    | ret => exact ⟨_, a₁, w₁, hq, harr⟩
    | panic ch => exact ⟨_, a₁, w₁, hq, harr⟩
    | outgrown => exact ⟨_, a₁, w₁, hq, harr⟩
  obtain ⟨e, a₁, w₁, hq, harr⟩ := h b (.inScope c :: k) cs hro hb hr
  by_cases hgo : ∃ l, e = .goto l
  · obtain ⟨l, rfl⟩ := hgo
    cases hf : findLabel c l with
    | some rest =>
      simp only [Exit.hop, hf] at hq
      have hg : gotoIn l (.inScope c :: k) = some (.code rest :: .inScope c :: k) := by simp [gotoIn, hf]
      obtain ⟨e₂, a₂, w₂, hq₂, harr₂⟩ := hq b (.inScope c :: k) cs hro hb hr
      obtain ⟨e₃, a₃, w₃, hq₃, harr₃⟩ := out e₂ a₂ w₂ _ hq₂ harr₂
      exact ⟨e₃, a₃, w₃, hq₃, .of_steps (hs0.trans (harr.1 _ hg)) harr₃⟩
    | none =>
      simp only [Exit.hop, hf] at hq
      have hg : gotoIn l (.inScope c :: k) = gotoIn l k := by simp [gotoIn, hf]
      refine ⟨.goto l, a₁, w₁, hq, .of_steps hs0 ⟨fun k' hk => harr.1 k' (by rw [hg]; exact hk), fun h1 h2 => ?_⟩⟩
      exact harr.2 h1 (by rw [hg]; exact h2)
  · obtain ⟨e₃, a₃, w₃, hq₃, harr₃⟩ := out e a₁ w₁ _ (by cases e <;> first | exact hq | exact (hgo ⟨_, rfl⟩).elim) harr
    exact ⟨e₃, a₃, w₃, hq₃, .of_steps hs0 harr₃⟩

theorem run_equalIn_func_nil {P : Program} {t : TypeId} {ps rs : Array TypeId} {v : Bool} (ht : P.underlying t = some (.func ps rs v)) (w : World) (d : Nat) (fn : Fn) (a c : Array Value) :
    (Op.equalIn (d + 1) t (.func fn a c) .nilFunc).run P w = .ok false w := by
  simp [Op.equalIn, run_underlying ht]
/-- 'f == nil' of a function value -/
theorem run_eql_func_nil {P : Program} {t : TypeId} {ps rs : Array TypeId} {v : Bool} (ht : P.underlying t = some (.func ps rs v)) (w : World) (fn : Fn) (a c : Array Value) :
    (binOp .eql t (.func fn a c) .nilFunc).run P w = .ok (.bool false) w := by
  simp only [binOp]
  simp [Op.equal, Op.maxDepth, run_equalIn_func_nil ht w 9999]

theorem wp_of_wide {P : Program} {c : Code} {Q : Exit → Act → World → Prop} {a : Act} {w : World} (h : c.wpIn Fence.wide 0 P Q a w) : c.wp P Q a w := wpIn_wide.1 h

end Go.Proofs.YtgdaaafejfjilaaGreatDoor
