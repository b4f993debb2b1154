/- contracts: script.Print -/
import Derived.Test.YtgdaaafejfjilaaGreatDoorW18
import Derived.Test.YtgdaaafejfjilaaGreatDoorW14
import Derived.Test.YtgdaaafejfjilaaGreatDoorW13
namespace Go.Proofs.YtgdaaafejfjilaaGreatDoor
open Go.RowKit Go.Maps
attribute [local go_sem] Oper.semAt_some undef

/-- what may be handed to Print -/
structure Fit (a : ActL) : Prop where
  k : I64 a.kind ∧ I64 a.okind
  t : I64 a.thread
  n : I64 a.n
  at_ : I64 a.at_
  on : I64 a.on
  b : a.bytes.length ≤ 1000
  m : a.marks.length ≤ 1000
  p : a.path.length ≤ 1000 ∧ a.dest.length ≤ 1000
theorem Fit.shown {a : ActL} (h : Fit a) : Shown a := ⟨h.t, h.n, h.at_, h.on, by have := h.b; omega, by have := h.m; omega⟩

theorem fit_show {a : ActL} (h : Fit a) (c : UInt8) : (showL c a).length ≤ 2001 := by
  have hex : (hexL a.bytes).length ≤ 2001 := by
    unfold hexL
    split
    · simp
    · have : (a.bytes.flatMap fun c => [hexD (c.toNat / 16), hexD (c.toNat % 16)]).length = 2 * a.bytes.length := by
        induction a.bytes with
        | nil => rfl
        | cons x l ih => simp [ih]; omega
      have := h.b
      omega
  have dots : (dotsL a.marks).length ≤ 2001 := by
    unfold dotsL
    split
    · simp
    · have := h.m
      simp; omega
  have := itoa_len _ h.t
  have := itoa_len _ h.n
  have := itoa_len _ h.at_
  have := itoa_len _ h.on
  have := h.p
  unfold showL
  repeat' split
  all_goals first | omega | simp
theorem fit_add {a : ActL} (h : Fit a) (needs : Bs) : (addL needs a).length ≤ 2002 * needs.length := by
  induction needs with
  | nil => simp [addL]
  | cons c l ih =>
    have := fit_show h c
    have e : addL (c :: l) a = (32 :: showL c a) ++ addL l a := by simp [addL]
    rw [e, List.length_append, List.length_cons, List.length_cons]
    omega
theorem needs3 (k : Int) : (verbL k).2.length ≤ 3 ∧ (opL k).2.length ≤ 3 := by
  constructor
  · unfold verbL
    repeat' split
    all_goals decide
  · by_cases h : 1 ≤ k ∧ k ≤ 11
    · rcases int11 h with rfl | rfl | rfl | rfl | rfl | rfl | rfl | rfl | rfl | rfl | rfl <;> decide
    · rw [opL_other h]; decide
theorem fit_laid {a : ActL} (h : Fit a) : (laidL a).length ≤ 20000 := by
  have h1 := fit_add h (verbL a.kind).2
  have h2 := fit_add h (opL a.okind).2
  have h3 := (needs3 a.kind).1
  have h4 := (needs3 a.okind).2
  have h5 := verb_len2 a.kind
  have h6 := op_len a.okind
  unfold laidL
  rw [List.length_append, List.length_append]
  split
  · rw [List.length_append, List.length_cons]; omega
  · simp; omega

def printE (a : ActL) : Bs × Int := match printL a with
  | some s => (s, 0)
  | none => ([], 2)
theorem printE_ok {a b : ActL} (h : parseL (laidL a) = some b) (hs : sameL a b = true) : printE a = (laidL a, 0) := by unfold printE printL; simp only [h, hs, if_true]
theorem printE_no {a b : ActL} (h : parseL (laidL a) = some b) (hs : sameL a b = false) : printE a = ([], 2) := by unfold printE printL; simp only [h, hs, Bool.false_eq_true, if_false]
theorem printE_none {a : ActL} (h : parseL (laidL a) = none) : printE a = ([], 2) := by unfold printE printL; simp only [h]

theorem ret_se {a b : Bs} {c d : Int} (h : b = a ∧ d = c) : Ending.returned (.tuple #[.string ⟨a.toArray⟩, .int .i64 c]) = .returned (.tuple #[.string ⟨b.toArray⟩, .int .i64 d]) := by rw [h.1, h.2]

set_option maxRecDepth 100000 in
set_option maxHeartbeats 3200000 in
theorem print_any (a : ActL) (ha : Fit a) (p8 p9 : Option Addr) (n8 n9 m8 m9 : Nat) (w : World) (E : Env w) (hs : SliceB w (.slice p8 n8 m8) a.bytes ∧ SliceM w (.slice p9 n9 m9) a.marks) :
    Calls Tryz.prog 12 #[actV a (.slice p8 n8 m8) (.slice p9 n9 m9)] w fun e w' => e = .returned (.tuple #[.string ⟨(printE a).1.toArray⟩, .int .i64 (printE a).2]) ∧ Newer w w' := by
  have HA := Lib.hid ha
  have HE := Lib.hid E
  have HS := Lib.hid hs
  clear ha E hs
  unfold actV
  go_enter Tryz.func12, Tryz.ntmps12
  go_wp2_with fail
  obtain ⟨b, hb⟩ : ∃ b, w.heap.size = b := ⟨_, rfl⟩
  obtain ⟨w0, hw0⟩ : ∃ w0, w.alloc (.cells #[.int .i64 a.kind, .int .i64 a.thread, .int .i64 a.n, .int .i64 a.okind, .string ⟨a.path.toArray⟩, .string ⟨a.dest.toArray⟩, .int .i64 a.at_, .int .i64 a.on, .slice p8 n8 m8, .slice p9 n9 m9] 29) = w0 := ⟨_, rfl⟩
  rw [hw0, hb]
  have nw0 : Newer w w0 := hw0 ▸ Newer.alloc _ _
  have hA : ActC w0 b a (.slice p8 n8 m8) (.slice p9 n9 m9) := by
    subst hw0 hb
    constructor <;> simp [go_sem]
  have H0 := Lib.hid (And.intro hA nw0)
  clear hA nw0 hw0 hb
  refine (laid_any w0 (HE.out.newer H0.out.2) a p8 p9 n8 n9 m8 m9 HA.out.k ⟨HS.out.1.newer H0.out.2, HS.out.2.newer H0.out.2⟩ HA.out.shown ⟨by have := HA.out.p; omega, by have := HA.out.p; omega⟩).mono ?_
  rintro e w1 ⟨rfl, n1⟩
  obtain ⟨s, hs⟩ : ∃ s, laidL a = s := ⟨_, rfl⟩
  have hsl : s.length ≤ 100000 := by rw [← hs]; have := fit_laid HA.out; omega
  rw [hs]
  have N1 := Lib.hid (H0.out.2.trans n1)
  have A1 := Lib.hid (H0.out.1.grow n1 (fun hk => by have hk : w0.heap.size ≤ b := hk; have := World.block_lt_of_cell? _ _ H0.out.1.c0; have h2 : b < w0.heap.size := (by simpa using this); omega))
  have HSL := Lib.hid hs
  clear n1 hs H0
  go_wp2_with fail
  refine (parse_any s hsl w1 (HE.out.newer N1.out)).mono ?_
  rintro e w2 ⟨⟨c, v, hp, rfl, v8, v9, rfl, s8, s9⟩ | ⟨hp, rfl⟩, n2⟩
  · obtain ⟨q8, l8, e8, -⟩ := id s8.1
    obtain ⟨q9, l9, e9, -⟩ := id s9.1
    obtain ⟨k8, hk8⟩ : ∃ k, c.bytes.length = k := ⟨_, rfl⟩
    obtain ⟨k9, hk9⟩ : ∃ k, c.marks.length = k := ⟨_, rfl⟩
    rw [hk8] at e8
    rw [hk9] at e9
    subst e8 e9
    have A2 := A1.out.grow n2 (fun hk => by have hk : w1.heap.size ≤ b := hk; have := World.block_lt_of_cell? _ _ A1.out.c0; have h2 : b < w1.heap.size := (by simpa using this); omega)
    have HB := Lib.hid (parse_back (by rw [HSL.out]; exact hp : parseL (laidL a) = some c))
    have hbl : b < w2.heap.size := by have := World.block_lt_of_cell? _ _ A2.c0; simpa using this
    have N2 := Lib.hid (N1.out.trans n2)
    have HP := Lib.hid (by rw [HSL.out]; exact hp : parseL (laidL a) = some c)
    have HC := Lib.hid (And.intro s8.1 s9.1)
    obtain ⟨b0, b1, b2, b3, b4, b5, b6, b7, b8, b9⟩ := A2
    clear s8 s9 n2 hp hk8 hk9 hsl N1 A1
    unfold actV
    go_wp2_with fail
    have nf : Newer w2 (w2.alloc (.cells #[.int .i64 c.kind, .int .i64 c.thread, .int .i64 c.n, .int .i64 c.okind, .string ⟨c.path.toArray⟩, .string ⟨c.dest.toArray⟩, .int .i64 c.at_, .int .i64 c.on, .slice q8 k8 l8, .slice q9 k9 l9] 29)) := Newer.alloc _ _
    refine (same_any a c p8 p9 q8 q9 n8 n9 m8 m9 k8 k9 l8 l9 _ ⟨HS.out.1.newer (N2.out.trans nf), HS.out.2.newer (N2.out.trans nf)⟩ ⟨HC.out.1.newer nf, HC.out.2.newer nf⟩ ⟨by have := HA.out.b; omega, by have := HA.out.m; omega⟩ ⟨by have := HB.out.2.1.bytes; omega, by have := HB.out.2.1.marks; omega⟩).mono ?_
    rintro e w3 ⟨rfl, n3⟩
    have N3 := Lib.hid ((N2.out.trans nf).trans n3)
    clear nf n3 b0 b1 b2 b3 b4 b5 b6 b7 b8 b9
    by_cases hq : sameL a c = true
    · rw [hq]
      have HF := Lib.hid (printE_ok HP.out hq)
      clear hq
      go_wp2
      go_ret2
      exact ⟨ret_se ⟨by rw [HF.out, HSL.out], by rw [HF.out]⟩, N3.out⟩
    · have hq : sameL a c = false := by simpa using hq
      rw [hq]
      have HF := Lib.hid (printE_no HP.out hq)
      clear hq
      go_wp2
      go_ret2
      exact ⟨ret_se ⟨by rw [HF.out], by rw [HF.out]⟩, N3.out⟩
  · have HF := Lib.hid (printE_none (by rw [HSL.out]; exact hp : parseL (laidL a) = none))
    have N2 := Lib.hid (N1.out.trans n2)
    clear hp n2 N1 A1
    unfold zeroV actV
    go_wp2
    go_ret2
    exact ⟨ret_se ⟨by rw [HF.out], by rw [HF.out]⟩, N2.out.trans (Newer.alloc _ _)⟩

end Go.Proofs.YtgdaaafejfjilaaGreatDoor
