/- the plain law of scripts: what is read of a line is what is printed as it -/
import Derived.Test.YtgdaaafejfjilaaGreatDoorW02
import Derived.Lib.ItoaLen
namespace Go.Proofs.YtgdaaafejfjilaaGreatDoor

theorem words_join (c : UInt8) : ∀ (s w : Bs) (l : List Bs), wordsL c s = w :: l → s = w ++ l.flatMap (fun x => c :: x)
  | [], w, l, h => by
    simp only [wordsL, List.cons.injEq] at h
    rw [← h.1, ← h.2]; rfl
  | b :: r, w, l, h => by
    unfold wordsL at h
    have ih := words_join c r
    split at h
    · rename_i hb
      simp only [List.cons.injEq] at h
      obtain ⟨rfl, h2⟩ := h
      cases l with
      | nil =>
        exfalso
        cases r with
        | nil => simp [wordsL] at h2
        | cons d r =>
          unfold wordsL at h2
          split at h2
          · cases h2
          · split at h2 <;> cases h2
      | cons w' l' =>
        rw [hb, List.nil_append, List.flatMap_cons, List.cons_append, ← ih w' l' h2]
    · cases hw : wordsL c r with
      | nil =>
        exfalso
        cases r with
        | nil => simp [wordsL] at hw
        | cons d r =>
          unfold wordsL at hw
          split at hw
          · cases hw
          · split at hw <;> cases hw
      | cons w' l' =>
        rw [hw] at h
        simp only [List.cons.injEq] at h
        obtain ⟨rfl, rfl⟩ := h
        rw [List.cons_append, ← ih w' l' hw]

theorem words_free (c : UInt8) : ∀ (s : Bs), ∀ x ∈ wordsL c s, c ∉ x
  | [], x, h => by simp [wordsL] at h; simp [h]
  | b :: r, x, h => by
    have ih := words_free c r
    unfold wordsL at h
    split at h
    · rcases List.mem_cons.1 h with rfl | h
      · simp
      · exact ih x h
    · rename_i hb
      split at h
      · simp at h; subst h; simp; exact fun e => hb e.symm
      · rename_i y t hw
        rcases List.mem_cons.1 h with rfl | h
        · have := ih y (by rw [hw]; simp)
          simp only [List.mem_cons, not_or]
          exact ⟨fun e => hb e.symm, this⟩
        · exact ih x (by rw [hw]; simp [h])

theorem words_one (c : UInt8) : ∀ (w : Bs), c ∉ w → wordsL c w = [w]
  | [], _ => rfl
  | b :: r, h => by
    simp only [List.mem_cons, not_or] at h
    unfold wordsL
    rw [if_neg (fun e => h.1 e.symm), words_one c r h.2]
theorem words_cons (c : UInt8) (t : Bs) : ∀ (w : Bs), c ∉ w → wordsL c (w ++ c :: t) = w :: wordsL c t
  | [], _ => by simp [wordsL]
  | b :: r, h => by
    simp only [List.mem_cons, not_or] at h
    rw [List.cons_append, wordsL, if_neg (fun e => h.1 e.symm), words_cons c t r h.2]
theorem words_of_join (c : UInt8) : ∀ (l : List Bs) (w : Bs), c ∉ w → (∀ x ∈ l, c ∉ x) → wordsL c (w ++ l.flatMap (fun x => c :: x)) = w :: l
  | [], w, hw, _ => by simpa using words_one c w hw
  | v :: l, w, hw, hl => by
    rw [List.flatMap_cons, List.cons_append, words_cons c _ w hw, words_of_join c l v (hl v (by simp)) (fun x hx => hl x (by simp [hx]))]

/-- numbers -/
theorem numL_parts {s : Bs} {v : Int} (h : numL s = some v) : Lib.atoiAll s = .ok v ∧ s.length ≤ 9 ∧ Lib.itoa v = s ∧ 0 ≤ v := by
  unfold numL at h
  split at h
  · split at h
    · rename_i a b
      simp only [Option.some.injEq] at h
      subst h
      exact ⟨a, b⟩
    · cases h
  · cases h
theorem itoa_nonneg {v : Int} (h : 0 ≤ v) : Lib.itoa v = Lib.decDigits v.toNat := by unfold Lib.itoa; rw [if_neg (by omega)]
theorem numL_range {s : Bs} {v : Int} (h : numL s = some v) : 0 ≤ v ∧ v ≤ 999999999 := by
  obtain ⟨_, h2, h3, h4⟩ := numL_parts h
  refine ⟨h4, ?_⟩
  rw [itoa_nonneg h4] at h3
  have h5 := Lib.decDigits_length v.toNat
  rw [h3] at h5
  have h6 := Lib.lt_pow_nDigits v.toNat
  have h7 : 10 ^ Lib.nDigits v.toNat ≤ 10 ^ 9 := Nat.pow_le_pow_right (by omega) (by omega)
  omega
theorem itoa_len9 {v : Int} (h : 0 ≤ v ∧ v ≤ 999999999) : (Lib.itoa v).length ≤ 9 ∧ 1 ≤ (Lib.itoa v).length := by
  rw [itoa_nonneg h.1, Lib.decDigits_length]
  refine ⟨?_, Lib.nDigits_pos _⟩
  rcases Nat.lt_or_ge 9 (Lib.nDigits v.toNat) with h1 | h1
  · exfalso
    obtain ⟨k, hk⟩ : ∃ k, Lib.nDigits v.toNat = k + 1 := ⟨Lib.nDigits v.toNat - 1, by omega⟩
    have key : ∀ (k u : Nat), Lib.nDigits u = k + 1 → 1 ≤ k → 10 ^ k ≤ u := by
      intro k
      induction k with
      | zero => intro u _ h; omega
      | succ k ih =>
        intro u hu _
        by_cases hs : u < 10
        · rw [Lib.nDigits_small hs] at hu; omega
        · rw [Lib.nDigits_big hs] at hu
          rcases Nat.eq_zero_or_pos k with rfl | hk
          · omega
          · have := ih (u / 10) (by omega) hk
            have h10 : 10 ^ (k + 1) = 10 ^ k * 10 := Nat.pow_succ ..
            omega
    have h2 := key k _ hk (by omega)
    have h3 : 10 ^ 9 ≤ 10 ^ k := Nat.pow_le_pow_right (by omega) (by omega)
    omega
  · exact h1
theorem dec_digits (u : Nat) : ∀ c ∈ Lib.decDigits u, 48 ≤ c.toNat ∧ c.toNat ≤ 57 := by
  intro c hc
  rw [Lib.decDigits_eq] at hc
  obtain ⟨t, _, rfl⟩ := List.mem_map.1 hc
  unfold Lib.dg
  have : u / 10 ^ (Lib.nDigits u - 1 - t) % 10 < 10 := Nat.mod_lt _ (by omega)
  rw [UInt8.toNat_ofNat']
  omega
theorem itoa_digits {v : Int} (h : 0 ≤ v) : ∀ c ∈ Lib.itoa v, 48 ≤ c.toNat ∧ c.toNat ≤ 57 := by
  rw [itoa_nonneg h]; exact dec_digits _

/-- bytes -/
theorem half_back {c : UInt8} {k : Nat} (h : halfL c = some k) : hexD k = c ∧ k < 16 := by
  unfold halfL at h
  split at h
  · rename_i hc
    simp only [Option.some.injEq] at h
    subst h
    unfold hexD
    constructor
    · rw [if_pos (by omega)]
      apply UInt8.toNat_inj.1
      rw [UInt8.toNat_ofNat']
      omega
    · omega
  · split at h
    · rename_i hc
      simp only [Option.some.injEq] at h
      subst h
      unfold hexD
      constructor
      · rw [if_neg (by omega)]
        apply UInt8.toNat_inj.1
        rw [UInt8.toNat_ofNat']
        omega
      · omega
    · cases h
theorem pairs_back : ∀ (s out : Bs), pairsL s = some out → out.flatMap (fun c => [hexD (c.toNat / 16), hexD (c.toNat % 16)]) = s
  | [], out, h => by simp [pairsL] at h; subst h; rfl
  | [_], out, h => by simp [pairsL] at h
  | a :: b :: r, out, h => by
    unfold pairsL at h
    split at h
    · rename_i x y z hx hy hz
      simp only [Option.some.injEq] at h
      subst h
      obtain ⟨e1, l1⟩ := half_back hx
      obtain ⟨e2, l2⟩ := half_back hy
      have ih := pairs_back r z hz
      rw [List.flatMap_cons, ih]
      have e : (UInt8.ofNat (16 * x + y)).toNat = 16 * x + y := by rw [UInt8.toNat_ofNat']; omega
      rw [e, show (16 * x + y) / 16 = x by omega, show (16 * x + y) % 16 = y by omega, e1, e2]
      rfl
    · cases h
theorem pairs_len : ∀ (s out : Bs), pairsL s = some out → s.length = 2 * out.length
  | [], out, h => by simp [pairsL] at h; subst h; rfl
  | [_], out, h => by simp [pairsL] at h
  | a :: b :: r, out, h => by
    unfold pairsL at h
    split at h
    · rename_i x y z hx hy hz
      simp only [Option.some.injEq] at h
      subst h
      have ih := pairs_len r z hz
      simp only [List.length_cons]; omega
    · cases h
theorem bytes_back {s out : Bs} (h : bytesL s = some out) : hexL out = s ∧ out.length ≤ 448 := by
  unfold bytesL at h
  split at h
  · rename_i hs
    simp only [Option.some.injEq] at h
    subst h hs
    exact ⟨rfl, by simp⟩
  · split at h
    · rename_i hs
      have hl := pairs_len _ _ h
      have hb := pairs_back _ _ h
      have hne : out ≠ [] := by rintro rfl; simp only [List.length_nil] at hl; omega
      unfold hexL
      rw [if_neg hne]
      exact ⟨hb, by omega⟩
    · cases h
theorem bits_back {s : Bs} {out : List Bool} (h : bitsL s = some out) : out.map (fun x => if x then (49 : UInt8) else 48) = s ∧ out.length = s.length := by
  unfold bitsL at h
  split at h
  · rename_i hs
    simp only [Option.some.injEq] at h
    subst h
    rw [List.map_map]
    refine ⟨?_, by simp⟩
    conv => rhs; rw [← List.map_id s]
    refine List.map_congr_left fun c hc => ?_
    rcases hs c hc with rfl | rfl <;> rfl
  · cases h
theorem marks_back {s : Bs} {out : List Bool} (h : marksL s = some out) : dotsL out = s ∧ out.length ≤ 60 := by
  unfold marksL at h
  split at h
  · rename_i hs
    simp only [Option.some.injEq] at h
    subst h hs
    exact ⟨rfl, by simp⟩
  · split at h
    · rename_i hs
      obtain ⟨hb, hl⟩ := bits_back h
      have hne : out ≠ [] := by rintro rfl; simp only [List.length_nil] at hl; omega
      unfold dotsL
      rw [if_neg hne]
      exact ⟨hb, by omega⟩
    · cases h
theorem path_back {s p : Bs} (h : pathL s = some p) : p = s ∧ (1 ≤ s.length ∧ s.length ≤ 300 ∧ (10 : UInt8) ∉ s) := by
  unfold pathL at h
  split at h
  · rename_i hs
    simp only [Option.some.injEq] at h
    exact ⟨h.symm, hs⟩
  · cases h

/-- what a printed act keeps to -/
structure InB (a : ActL) : Prop where
  t : 0 ≤ a.thread ∧ a.thread ≤ 999999999
  n : 0 ≤ a.n ∧ a.n ≤ 999999999
  at_ : 0 ≤ a.at_ ∧ a.at_ ≤ 999999999
  on : 0 ≤ a.on ∧ a.on ≤ 999999999
  path : a.path.length ≤ 300 ∧ (10 : UInt8) ∉ a.path
  dest : a.dest.length ≤ 300 ∧ (10 : UInt8) ∉ a.dest
  bytes : a.bytes.length ≤ 448
  marks : a.marks.length ≤ 60

theorem inB_zero (k : Int) : InB { ActL.zero with kind := k } := by constructor <;> simp [ActL.zero]
theorem inB_okind {a : ActL} (h : InB a) (k : Int) : InB { a with okind := k } := ⟨h.t, h.n, h.at_, h.on, h.path, h.dest, h.bytes, h.marks⟩

theorem set_back {c : UInt8} {a b : ActL} {s : Bs} (h : setL c a s = some b) :
    showL c b = s ∧ (∀ d, d ≠ c → showL d b = showL d a) ∧ (InB a → InB b) ∧ b.kind = a.kind ∧ b.okind = a.okind := by
  unfold setL at h
  split at h
  · rename_i hc
    subst hc
    obtain ⟨v, hv, rfl⟩ := Option.map_eq_some_iff.1 h
    refine ⟨(numL_parts hv).2.2.1, fun d hd => by simp [showL, hd], fun hb => ⟨numL_range hv, hb.n, hb.at_, hb.on, hb.path, hb.dest, hb.bytes, hb.marks⟩, rfl, rfl⟩
  split at h
  · rename_i hc
    subst hc
    obtain ⟨v, hv, rfl⟩ := Option.map_eq_some_iff.1 h
    refine ⟨(numL_parts hv).2.2.1, fun d hd => by simp [showL, hd], fun hb => ⟨hb.t, numL_range hv, hb.at_, hb.on, hb.path, hb.dest, hb.bytes, hb.marks⟩, rfl, rfl⟩
  split at h
  · rename_i hc
    subst hc
    obtain ⟨v, hv, rfl⟩ := Option.map_eq_some_iff.1 h
    refine ⟨(numL_parts hv).2.2.1, fun d hd => by simp [showL, hd], fun hb => ⟨hb.t, hb.n, numL_range hv, hb.on, hb.path, hb.dest, hb.bytes, hb.marks⟩, rfl, rfl⟩
  split at h
  · rename_i hc
    subst hc
    obtain ⟨v, hv, rfl⟩ := Option.map_eq_some_iff.1 h
    refine ⟨(numL_parts hv).2.2.1, fun d hd => by simp [showL, hd], fun hb => ⟨hb.t, hb.n, hb.at_, numL_range hv, hb.path, hb.dest, hb.bytes, hb.marks⟩, rfl, rfl⟩
  split at h
  · rename_i hc
    subst hc
    obtain ⟨v, hv, rfl⟩ := Option.map_eq_some_iff.1 h
    obtain ⟨rfl, hp⟩ := path_back hv
    refine ⟨rfl, fun d hd => by simp [showL, hd], fun hb => ⟨hb.t, hb.n, hb.at_, hb.on, ⟨hp.2.1, hp.2.2⟩, hb.dest, hb.bytes, hb.marks⟩, rfl, rfl⟩
  split at h
  · rename_i hc
    subst hc
    obtain ⟨v, hv, rfl⟩ := Option.map_eq_some_iff.1 h
    obtain ⟨rfl, hp⟩ := path_back hv
    refine ⟨rfl, fun d hd => by simp [showL, hd], fun hb => ⟨hb.t, hb.n, hb.at_, hb.on, hb.path, ⟨hp.2.1, hp.2.2⟩, hb.bytes, hb.marks⟩, rfl, rfl⟩
  split at h
  · rename_i hc
    subst hc
    obtain ⟨v, hv, rfl⟩ := Option.map_eq_some_iff.1 h
    obtain ⟨hp, hl⟩ := bytes_back hv
    refine ⟨hp, fun d hd => by simp [showL, hd], fun hb => ⟨hb.t, hb.n, hb.at_, hb.on, hb.path, hb.dest, hl, hb.marks⟩, rfl, rfl⟩
  split at h
  · rename_i hc
    subst hc
    obtain ⟨v, hv, rfl⟩ := Option.map_eq_some_iff.1 h
    obtain ⟨hp, hl⟩ := marks_back hv
    refine ⟨hp, fun d hd => by simp [showL, hd], fun hb => ⟨hb.t, hb.n, hb.at_, hb.on, hb.path, hb.dest, hb.bytes, hl⟩, rfl, rfl⟩
  · cases h

theorem fill_back : ∀ (cs : Bs) (a b : ActL) (l r : List Bs), cs.Nodup → fillL cs a l = some (b, r) →
    l.flatMap (fun x => (32 : UInt8) :: x) = addL cs b ++ r.flatMap (fun x => (32 : UInt8) :: x) ∧ (∀ d, d ∉ cs → showL d b = showL d a) ∧ (InB a → InB b) ∧ b.kind = a.kind ∧ b.okind = a.okind
  | [], a, b, l, r, _, h => by
    simp only [fillL, Option.some.injEq, Prod.mk.injEq] at h
    obtain ⟨rfl, rfl⟩ := h
    exact ⟨by simp [addL], fun _ _ => rfl, fun h => h, rfl, rfl⟩
  | c :: cs, a, b, [], r, _, h => by simp [fillL] at h
  | c :: cs, a, b, s :: l, r, hn, h => by
    unfold fillL at h
    split at h
    · rename_i a' ha
      have hn' := List.nodup_cons.1 hn
      obtain ⟨p1, p2, p3, p4, p5⟩ := set_back ha
      obtain ⟨q1, q2, q3, q4, q5⟩ := fill_back cs a' b l r hn'.2 h
      refine ⟨?_, fun d hd => ?_, fun h => q3 (p3 h), q4.trans p4, q5.trans p5⟩
      · rw [List.flatMap_cons, q1]
        unfold addL
        rw [List.flatMap_cons, q2 c hn'.1, p1, List.append_assoc]
      · simp only [List.mem_cons, not_or] at hd
        rw [q2 d hd.2, p2 d hd.1]
    · cases h

theorem kind_back {s : Bs} {k : Int} (h : kindL s = some k) : (verbL k).1 = s ∧ 1 ≤ k ∧ k ≤ 5 := by
  unfold kindL at h
  have h1 := List.find?_some h
  have h2 := List.mem_of_find?_eq_some h
  refine ⟨by simpa using h1, ?_⟩
  simp at h2
  omega
theorem opk_back {s : Bs} {k : Int} (h : opkL s = some k) : (opL k).1 = s ∧ 1 ≤ k ∧ k ≤ 11 := by
  unfold opkL at h
  have h1 := List.find?_some h
  have h2 := List.mem_of_find?_eq_some h
  refine ⟨by simpa using h1, ?_⟩
  simp at h2
  omega
theorem int5 {k : Int} (h : 1 ≤ k ∧ k ≤ 5) : k = 1 ∨ k = 2 ∨ k = 3 ∨ k = 4 ∨ k = 5 := by omega
theorem int11 {k : Int} (h : 1 ≤ k ∧ k ≤ 11) : k = 1 ∨ k = 2 ∨ k = 3 ∨ k = 4 ∨ k = 5 ∨ k = 6 ∨ k = 7 ∨ k = 8 ∨ k = 9 ∨ k = 10 ∨ k = 11 := by omega
theorem verb_nodup {k : Int} (h : 1 ≤ k ∧ k ≤ 5) : (verbL k).2.Nodup := by
  rcases int5 h with rfl | rfl | rfl | rfl | rfl <;> decide
theorem op_nodup {k : Int} (h : 1 ≤ k ∧ k ≤ 11) : (opL k).2.Nodup ∧ (116 : UInt8) ∉ (opL k).2 := by
  rcases int11 h with rfl | rfl | rfl | rfl | rfl | rfl | rfl | rfl | rfl | rfl | rfl <;> decide

/-- WHAT IS READ OF A LINE IS PRINTED AS IT -/
theorem parse_back {s : Bs} {b : ActL} (h : parseL s = some b) : laidL b = s ∧ InB b ∧ (1 ≤ b.kind ∧ b.kind ≤ 5) ∧ (b.kind = 1 → 1 ≤ b.okind ∧ b.okind ≤ 11) := by
  unfold parseL at h
  cases hw : wordsL 32 s with
  | nil => rw [hw] at h; simp [readL] at h
  | cons v l =>
    rw [hw] at h
    have hs := words_join 32 s v l hw
    unfold readL at h
    simp only at h
    split at h
    · cases h
    · rename_i k hk
      obtain ⟨e1, r1⟩ := kind_back hk
      split at h
      · cases h
      · rename_i a l1 hf
        obtain ⟨f1, f2, f3, f4, f5⟩ := fill_back _ _ _ _ _ (verb_nodup r1) hf
        have f3 := f3 (inB_zero k)
        have f4 : a.kind = k := f4
        split at h
        · rename_i hk1
          cases l1 with
          | nil => cases h
          | cons o l2 =>
            simp only at h
            split at h
            · cases h
            · rename_i x hx
              obtain ⟨o1, o2⟩ := opk_back hx
              split at h
              · cases h
              · rename_i b' l3 hg
                split at h
                · rename_i hl3
                  simp only [Option.some.injEq] at h
                  subst h hl3
                  obtain ⟨g1, g2, g3, g4, g5⟩ := fill_back _ _ _ _ _ (op_nodup o2).1 hg
                  have g4 : b'.kind = 1 := g4.trans (f4.trans hk1)
                  have g5 : b'.okind = x := g5
                  refine ⟨?_, g3 (inB_okind f3 x), by omega, fun _ => by omega⟩
                  subst hk1
                  have e2 : addL (verbL 1).2 b' = addL (verbL 1).2 a := by
                    show addL [116] b' = addL [116] a
                    have := g2 116 (op_nodup o2).2
                    simp only [addL, List.flatMap_cons, List.flatMap_nil, this]
                    rfl
                  rw [hs, f1, List.flatMap_cons, g1, laidL, if_pos g4, g4, g5, e1, e2, o1]
                  simp
                · cases h
        · rename_i hk1
          split at h
          · rename_i hl1
            simp only [Option.some.injEq] at h
            subst h hl1
            refine ⟨?_, f3, by omega, fun h => absurd (f4.symm.trans h) hk1⟩
            rw [hs, f1, laidL, if_neg (by rw [f4]; exact hk1), f4, e1]
            simp
          · cases h

theorem print_some {a : ActL} {s : Bs} (h : printL a = some s) : parseL s = some a ∧ laidL a = s := by
  unfold printL at h
  split at h
  · rename_i b hb
    split at h
    · rename_i hs
      simp only [Option.some.injEq] at h
      have := sameL_iff.1 hs
      subst this
      rw [← h]
      exact ⟨hb, rfl⟩
    · cases h
  · cases h
theorem print_of_parse {a : ActL} {s : Bs} (h : parseL s = some a) : printL a = some s := by
  obtain ⟨hl, _⟩ := parse_back h
  unfold printL
  rw [hl, h]
  simp only [sameL_iff.2 rfl, if_true]
theorem print_iff {a : ActL} {s : Bs} : printL a = some s ↔ parseL s = some a := ⟨fun h => (print_some h).1, print_of_parse⟩

end Go.Proofs.YtgdaaafejfjilaaGreatDoor

/- the plain law of scripts: numbers, digit by digit; the reference's words -/
namespace Go.Proofs.YtgdaaafejfjilaaGreatDoor

def isDig (c : UInt8) : Prop := 48 ≤ c.toNat ∧ c.toNat ≤ 57
instance (c : UInt8) : Decidable (isDig c) := by unfold isDig; infer_instance
/-- what digits spell -/
def valF (acc : Nat) (s : Bs) : Nat := s.foldl (fun n c => 10 * n + (c.toNat - 48)) acc
def valL (s : Bs) : Nat := valF 0 s
theorem valF_snoc (acc : Nat) (s : Bs) (c : UInt8) : valF acc (s ++ [c]) = 10 * valF acc s + (c.toNat - 48) := by simp [valF]
theorem valL_snoc (s : Bs) (c : UInt8) : valL (s ++ [c]) = 10 * valL s + (c.toNat - 48) := valF_snoc 0 s c

theorem head_app {a b : Bs} (h : a ≠ []) : (a ++ b).head? = a.head? := by
  cases a with
  | nil => exact absurd rfl h
  | cons x l => rfl
theorem dec_small {u : Nat} (h : u < 10) : Lib.decDigits u = [UInt8.ofNat (48 + u)] := by rw [Lib.decDigits, dif_pos h]
theorem dec_big {u : Nat} (h : ¬ u < 10) : Lib.decDigits u = Lib.decDigits (u / 10) ++ [UInt8.ofNat (48 + u % 10)] := by rw [Lib.decDigits, dif_neg h]
theorem dig_toNat {d : Nat} (h : d < 10) : (UInt8.ofNat (48 + d)).toNat = 48 + d := by rw [UInt8.toNat_ofNat']; omega

theorem val_dec (u : Nat) : valL (Lib.decDigits u) = u := by
  induction u using Nat.strongRecOn with
  | _ u ih =>
    by_cases h : u < 10
    · rw [dec_small h]
      show 10 * 0 + ((UInt8.ofNat (48 + u)).toNat - 48) = u
      rw [dig_toNat h]; omega
    · rw [dec_big h, valL_snoc, ih (u / 10) (by omega), dig_toNat (Nat.mod_lt _ (by omega))]; omega
theorem dec_ne (u : Nat) : Lib.decDigits u ≠ [] := by
  intro h
  have := Lib.decDigits_length u
  have := Lib.nDigits_pos u
  rw [h] at *; simp at *; omega
theorem dec_head (u : Nat) (h : 1 ≤ u) : (Lib.decDigits u).head? ≠ some 48 := by
  induction u using Nat.strongRecOn with
  | _ u ih =>
    by_cases h1 : u < 10
    · rw [dec_small h1]
      intro e
      simp only [List.head?_cons, Option.some.injEq] at e
      have := congrArg UInt8.toNat e
      rw [dig_toNat h1] at this
      have e48 : (48 : UInt8).toNat = 48 := rfl
      omega
    · rw [dec_big h1, head_app (dec_ne _)]
      exact ih (u / 10) (by omega) (by omega)

/-- digits without a nought ahead are those of what they spell -/
theorem dec_val_rev : ∀ (r : Bs), r ≠ [] → (∀ c ∈ r, isDig c) → (1 < r.length → r.reverse.head? ≠ some 48) → Lib.decDigits (valL r.reverse) = r.reverse ∧ (1 < r.length → 1 ≤ valL r.reverse)
  | [], h, _, _ => absurd rfl h
  | [c], _, hd, _ => by
    have hc := hd c (by simp)
    unfold isDig at hc
    refine ⟨?_, fun h => absurd h (by simp)⟩
    show Lib.decDigits (10 * 0 + (c.toNat - 48)) = [c]
    rw [dec_small (by omega)]
    congr 1
    apply UInt8.toNat_inj.1
    rw [UInt8.toNat_ofNat']; omega
  | c :: d :: r, _, hd, hh => by
    have hc := hd c (by simp)
    unfold isDig at hc
    have hh' := hh (by simp)
    have hne : (d :: r).reverse ≠ [] := by simp
    have e : (c :: d :: r).reverse = (d :: r).reverse ++ [c] := by simp
    rw [e, head_app hne] at hh'
    obtain ⟨ih1, ih2⟩ := dec_val_rev (d :: r) (by simp) (fun x hx => hd x (by simp [hx])) (fun _ => hh')
    have hv : 1 ≤ valL (d :: r).reverse := by
      cases r with
      | nil =>
        have hdd := hd d (by simp)
        unfold isDig at hdd
        show 1 ≤ 10 * 0 + (d.toNat - 48)
        have : d.toNat ≠ 48 := fun e => hh' (by simp; exact UInt8.toNat_inj.1 e)
        omega
      | cons x r => exact ih2 (by simp)
    rw [e, valL_snoc]
    refine ⟨?_, fun _ => by omega⟩
    rw [dec_big (by omega), show (10 * valL (d :: r).reverse + (c.toNat - 48)) / 10 = valL (d :: r).reverse by omega, ih1]
    congr 2
    apply UInt8.toNat_inj.1
    rw [UInt8.toNat_ofNat']; omega
theorem dec_val (s : Bs) (h : s ≠ []) (hd : ∀ c ∈ s, isDig c) (hh : 1 < s.length → s.head? ≠ some 48) : Lib.decDigits (valL s) = s := by
  have := (dec_val_rev s.reverse (by simpa using h) (fun c hc => hd c (by simpa using hc)) (fun hl => by simpa using hh (by simpa using hl))).1
  simpa using this

theorem valF_lt : ∀ (s : Bs) (acc : Nat), (∀ c ∈ s, isDig c) → valF acc s < (acc + 1) * 10 ^ s.length
  | [], acc, _ => by simp [valF]
  | c :: s, acc, h => by
    have hc := h c (by simp)
    unfold isDig at hc
    have ih := valF_lt s (10 * acc + (c.toNat - 48)) (fun x hx => h x (by simp [hx]))
    show valF (10 * acc + (c.toNat - 48)) s < _
    refine Nat.lt_of_lt_of_le ih ?_
    rw [List.length_cons, Nat.pow_succ, Nat.mul_comm (10 ^ s.length) 10, ← Nat.mul_assoc]
    exact Nat.mul_le_mul_right _ (by omega)
theorem valL_lt (s : Bs) (h : ∀ c ∈ s, isDig c) : valL s < 10 ^ s.length := by
  have := valF_lt s 0 h
  simpa [valL] using this
theorem valF_ge : ∀ (s : Bs) (acc : Nat), acc ≤ valF acc s
  | [], _ => Nat.le_refl _
  | c :: s, acc => Nat.le_trans (by omega) (valF_ge s (10 * acc + (c.toNat - 48)))
theorem parse_val : ∀ (s : Bs) (acc : Nat), (∀ c ∈ s, isDig c) → valF acc s < 1000000000000000000 → Lib.parseUint10 acc s = .ok (valF acc s)
  | [], acc, _, _ => rfl
  | c :: s, acc, h, hb => by
    have hc := h c (by simp)
    unfold isDig at hc
    have hb' : valF (10 * acc + (c.toNat - 48)) s < 1000000000000000000 := hb
    have hge := valF_ge s (10 * acc + (c.toNat - 48))
    unfold Lib.parseUint10
    rw [if_pos hc, if_neg (by omega), if_neg (by omega), Nat.mul_comm acc 10, parse_val s _ (fun x hx => h x (by simp [hx])) hb']
    rfl

/-- the reference's number of a word -/
def numR (s : Bs) : Option Int := if s.length < 1 ∨ 9 < s.length ∨ (1 < s.length ∧ s.head? = some 48) ∨ ¬ ∀ c ∈ s, isDig c then none else some (valL s)

theorem numR_eq (s : Bs) : numR s = numL s := by
  unfold numR
  split
  · rename_i h
    symm
    cases hn : numL s with
    | none => rfl
    | some v =>
      exfalso
      obtain ⟨h1, h2, h3, h4⟩ := numL_parts hn
      rw [itoa_nonneg h4] at h3
      rcases h with h | h | ⟨h, h'⟩ | h
      · exact dec_ne v.toNat (by rw [h3]; exact List.length_eq_zero_iff.1 (by omega))
      · omega
      · rcases Nat.lt_or_ge v.toNat 1 with hv | hv
        · have : v.toNat = 0 := by omega
          rw [this, dec_small (by omega)] at h3
          rw [← h3] at h; simp at h
        · have := dec_head v.toNat hv
          rw [h3] at this
          exact this h'
      · exact h (by rw [← h3]; exact dec_digits _)
  · rename_i h
    simp only [not_or, not_and] at h
    obtain ⟨h1, h2, h3, h4⟩ := h
    have h4 : ∀ c ∈ s, isDig c := Classical.not_not.1 h4
    have hne : s ≠ [] := by rintro rfl; simp at h1
    have hd := dec_val s hne h4 h3
    have hlt := valL_lt s h4
    have hp : 10 ^ s.length ≤ 10 ^ 9 := Nat.pow_le_pow_right (by omega) (by omega)
    have ha : Lib.atoiAll s = .ok (valL s : Int) := by
      cases s with
      | nil => exact absurd rfl hne
      | cons c r =>
        have hc := h4 c (by simp)
        unfold isDig at hc
        unfold Lib.atoiAll
        have hp' := parse_val (c :: r) 0 h4 (by have : valF 0 (c :: r) = valL (c :: r) := rfl; omega)
        have hv : valF 0 (c :: r) = valL (c :: r) := rfl
        simp only [show ¬ (c.toNat = 43 ∨ c.toNat = 45) by omega, if_false, Lib.parseMag, show (c :: r : Bs) ≠ [] by simp, hp', hv]
        rw [if_neg (by omega), if_neg (by omega), if_neg (by omega)]
    unfold numL
    rw [ha]
    have hi : Lib.itoa (valL s : Int) = s := by rw [itoa_nonneg (by omega)]; simpa using hd
    simp only [hi]
    rw [if_pos ⟨by omega, trivial, by omega⟩]

end Go.Proofs.YtgdaaafejfjilaaGreatDoor

/- the plain law of scripts: texts -/
namespace Go.Proofs.YtgdaaafejfjilaaGreatDoor

theorem toNat10 : (10 : UInt8).toNat = 10 := rfl
theorem hexD_toNat {n : Nat} (h : n < 16) : (hexD n).toNat = if n < 10 then 48 + n else 87 + n := by
  unfold hexD
  split <;> (rw [UInt8.toNat_ofNat']; omega)
theorem hex_free (b : Bs) : (10 : UInt8) ∉ hexL b := by
  unfold hexL
  split
  · decide
  · intro h
    obtain ⟨c, _, hc⟩ := List.mem_flatMap.1 h
    have key : ∀ n, n < 16 → (10 : UInt8) ≠ hexD n := fun n hn e => by
      have := congrArg UInt8.toNat e
      rw [hexD_toNat hn, toNat10] at this
      split at this <;> omega
    have hl := c.toNat_lt
    simp only [List.mem_cons, List.not_mem_nil, or_false] at hc
    rcases hc with hc | hc
    · exact key _ (by omega) hc
    · exact key _ (by omega) hc
theorem dots_free (l : List Bool) : (10 : UInt8) ∉ dotsL l := by
  unfold dotsL
  split
  · decide
  · intro h
    obtain ⟨c, _, hc⟩ := List.mem_map.1 h
    cases c <;> simp at hc
theorem itoa_free {v : Int} (h : 0 ≤ v) : (10 : UInt8) ∉ Lib.itoa v := fun hm => by
  have := itoa_digits h 10 hm
  rw [toNat10] at this; omega
theorem show_free {a : ActL} (h : InB a) (c : UInt8) : (10 : UInt8) ∉ showL c a := by
  unfold showL
  repeat' split
  · exact itoa_free h.t.1
  · exact itoa_free h.n.1
  · exact itoa_free h.at_.1
  · exact itoa_free h.on.1
  · exact h.path.2
  · exact h.dest.2
  · exact hex_free _
  · exact dots_free _
  · simp
theorem add_free {a : ActL} (h : InB a) (needs : Bs) : (10 : UInt8) ∉ addL needs a := fun hm => by
  obtain ⟨c, _, hc⟩ := List.mem_flatMap.1 hm
  rcases List.mem_cons.1 hc with hc | hc
  · exact absurd hc (by decide)
  · exact show_free h c hc
theorem verb_free {k : Int} (h : 1 ≤ k ∧ k ≤ 5) : (10 : UInt8) ∉ (verbL k).1 := by
  rcases int5 h with rfl | rfl | rfl | rfl | rfl <;> decide
theorem op_free {k : Int} (h : 1 ≤ k ∧ k ≤ 11) : (10 : UInt8) ∉ (opL k).1 := by
  rcases int11 h with rfl | rfl | rfl | rfl | rfl | rfl | rfl | rfl | rfl | rfl | rfl <;> decide

theorem hex_len (b : Bs) (h : b.length ≤ 448) : (hexL b).length ≤ 896 := by
  unfold hexL
  split
  · simp
  · have : (b.flatMap fun c => [hexD (c.toNat / 16), hexD (c.toNat % 16)]).length = 2 * b.length := by
      clear h
      induction b with
      | nil => rfl
      | cons x l ih => simp [List.flatMap_cons]; by_cases hl : l = []
                       · subst hl; rfl
                       · have := ih hl; simp at this; omega
    omega
theorem dots_len (l : List Bool) (h : l.length ≤ 60) : (dotsL l).length ≤ 60 := by
  unfold dotsL
  split
  · simp
  · simpa using h
theorem show_t {a : ActL} (h : InB a) : (showL 116 a).length ≤ 9 := (itoa_len9 h.t).1
theorem show_m {a : ActL} (h : InB a) : (showL 109 a).length ≤ 9 := (itoa_len9 h.n).1
theorem show_a {a : ActL} (h : InB a) : (showL 97 a).length ≤ 9 := (itoa_len9 h.at_).1
theorem show_n {a : ActL} (h : InB a) : (showL 110 a).length ≤ 9 := (itoa_len9 h.on).1
theorem show_p {a : ActL} (h : InB a) : (showL 112 a).length ≤ 300 := h.path.1
theorem show_q {a : ActL} (h : InB a) : (showL 113 a).length ≤ 300 := h.dest.1
theorem show_b {a : ActL} (h : InB a) : (showL 98 a).length ≤ 896 := hex_len _ h.bytes
theorem show_k {a : ActL} (h : InB a) : (showL 107 a).length ≤ 60 := dots_len _ h.marks
theorem addL_nil (a : ActL) : addL [] a = [] := rfl
theorem addL_cons (c : UInt8) (l : Bs) (a : ActL) : (addL (c :: l) a).length = 1 + (showL c a).length + (addL l a).length := by
  simp [addL]; omega

theorem parse_line {s : Bs} {b : ActL} (h : parseL s = some b) : s.length ≤ 1300 ∧ (10 : UInt8) ∉ s ∧ s ≠ [] := by
  obtain ⟨rfl, hb, hk, ho⟩ := parse_back h
  have t := show_t hb
  have m := show_m hb
  have a := show_a hb
  have n := show_n hb
  have p := show_p hb
  have q := show_q hb
  have y := show_b hb
  have k := show_k hb
  refine ⟨?_, ?_, ?_⟩
  · unfold laidL
    have e1 : (addL [116] b).length = 1 + (showL 116 b).length := by rw [addL_cons, addL_nil]; rfl
    have e2 : (addL [116, 109] b).length = 2 + (showL 116 b).length + (showL 109 b).length := by rw [addL_cons, addL_cons, addL_nil]; simp only [List.length_nil]; omega
    have e3 : (addL [109] b).length = 1 + (showL 109 b).length := by rw [addL_cons, addL_nil]; rfl
    have e4 : (addL [107] b).length = 1 + (showL 107 b).length := by rw [addL_cons, addL_nil]; rfl
    have o1 : (addL [112] b).length = 1 + (showL 112 b).length := by rw [addL_cons, addL_nil]; rfl
    have o2 : (addL [112, 113] b).length = 2 + (showL 112 b).length + (showL 113 b).length := by rw [addL_cons, addL_cons, addL_nil]; simp only [List.length_nil]; omega
    have o3 : (addL [112, 110] b).length = 2 + (showL 112 b).length + (showL 110 b).length := by rw [addL_cons, addL_cons, addL_nil]; simp only [List.length_nil]; omega
    have o4 : (addL [112, 97, 110] b).length = 3 + (showL 112 b).length + (showL 97 b).length + (showL 110 b).length := by rw [addL_cons, addL_cons, addL_cons, addL_nil]; simp only [List.length_nil]; omega
    have o5 : (addL [112, 97, 98] b).length = 3 + (showL 112 b).length + (showL 97 b).length + (showL 98 b).length := by rw [addL_cons, addL_cons, addL_cons, addL_nil]; simp only [List.length_nil]; omega
    have hop : b.kind = 1 → (32 :: (opL b.okind).1 ++ addL (opL b.okind).2 b).length ≤ 1250 := fun h1 => by
      rcases int11 (ho h1) with e | e | e | e | e | e | e | e | e | e | e <;> rw [e] <;> simp only [List.length_append, List.length_cons]
      · show 4 + 1 + (addL [112] b).length ≤ 1250; omega
      · show 4 + 1 + (addL [112] b).length ≤ 1250; omega
      · show 4 + 1 + (addL [112, 97, 110] b).length ≤ 1250; omega
      · show 4 + 1 + (addL [112] b).length ≤ 1250; omega
      · show 5 + 1 + (addL [112] b).length ≤ 1250; omega
      · show 6 + 1 + (addL [112] b).length ≤ 1250; omega
      · show 5 + 1 + (addL [112] b).length ≤ 1250; omega
      · show 6 + 1 + (addL [112, 113] b).length ≤ 1250; omega
      · show 4 + 1 + (addL [112, 113] b).length ≤ 1250; omega
      · show 5 + 1 + (addL [112, 97, 98] b).length ≤ 1250; omega
      · show 3 + 1 + (addL [112, 110] b).length ≤ 1250; omega
    rcases int5 hk with e | e | e | e | e
    · have hop := hop e
      rw [if_pos e, List.length_append, e, List.length_append]
      have : (addL (verbL 1).2 b).length = (addL [116] b).length := rfl
      have : (verbL 1).1.length = 5 := rfl
      omega
    all_goals
      rw [if_neg (by omega), List.append_nil, e, List.length_append]
    · show 4 + (addL [116, 109] b).length ≤ _; omega
    · show 5 + (addL [109] b).length ≤ _; omega
    · show 5 + (addL [107] b).length ≤ _; omega
    · show 7 + (addL [109] b).length ≤ _; omega
  · unfold laidL
    simp only [List.mem_append, not_or]
    refine ⟨⟨verb_free hk, add_free hb _⟩, ?_⟩
    split
    · rename_i h1
      have := op_free (ho h1)
      simp only [List.mem_append, List.mem_cons, not_or]
      exact ⟨⟨by decide, this⟩, add_free hb _⟩
    · simp
  · intro e
    rw [e] at h
    have e : parseL [] = none := rfl
    rw [e] at h
    cases h

/-- the lines of acts; none: one has no line -/
def textL : List ActL → Option Bs
  | [] => some []
  | a :: l => match printL a, textL l with
    | some s, some t => some (s ++ 10 :: t)
    | _, _ => none
/-- a text of acts, and an error -/
def textE (l : List ActL) : Bs × Int := match textL l with
  | none => ([], 2)
  | some t => if 2000 < l.length ∨ 65536 < t.length then ([], 3) else (t, 0)

/-- lines are read, each with its number -/
def readFrom : Nat → List Bs → List ActL → List ActL × Nat × Int
  | _, [], out => (out, 0, 0)
  | i, s :: r, out => if s = [] then readFrom (i + 1) r out else match parseL s with
    | none => ([], i, 380)
    | some a => readFrom (i + 1) r (out ++ [a])
/-- a text is read -/
def readE (t : Bs) : List ActL × Nat × Int := if 65536 < t.length then ([], 0, 3) else
  if 2000 < (readFrom 1 (wordsL 10 t) []).1.length then ([], 0, 3) else readFrom 1 (wordsL 10 t) []

theorem textL_cons_some {a : ActL} {l : List ActL} {t : Bs} (h : textL (a :: l) = some t) : ∃ s u, printL a = some s ∧ textL l = some u ∧ t = s ++ 10 :: u := by
  unfold textL at h
  split at h
  · rename_i s u hs hu
    simp only [Option.some.injEq] at h
    exact ⟨s, u, hs, hu, h.symm⟩
  · cases h
theorem textL_app : ∀ (a b : List ActL), textL (a ++ b) = match textL a, textL b with | some x, some y => some (x ++ y) | _, _ => none
  | [], b => by cases h : textL b <;> simp [textL, h]
  | x :: a, b => by
    rw [List.cons_append, textL, textL_app a b, textL]
    cases printL x <;> cases textL a <;> cases textL b <;> simp
theorem textL_len : ∀ (l : List ActL) (t : Bs), textL l = some t → t.length ≤ 1301 * l.length
  | [], t, h => by simp only [textL, Option.some.injEq] at h; subst h; simp
  | a :: l, t, h => by
    obtain ⟨s, u, hs, hu, rfl⟩ := textL_cons_some h
    have := textL_len l u hu
    have := (parse_line (print_some hs).1).1
    simp only [List.length_append, List.length_cons]; omega
theorem textL_none_of {l : List ActL} {a : ActL} (ha : a ∈ l) (h : printL a = none) : textL l = none := by
  induction l with
  | nil => simp at ha
  | cons x l ih =>
    unfold textL
    rcases List.mem_cons.1 ha with rfl | ha
    · rw [h]
    · rw [ih ha]; cases printL x <;> rfl
theorem textL_snoc (l : List ActL) (a : ActL) : textL (l ++ [a]) = match textL l, printL a with | some x, some y => some (x ++ (y ++ [10])) | _, _ => none := by
  rw [textL_app]
  cases textL l <;> cases h : printL a <;> simp [textL, h]

/-- what lies ahead in a text is read as acts -/
def Pre (text : Bs) (l : List ActL) : Prop := ∀ (t : Bs) (i : Nat) (out : List ActL), ∃ j, readFrom i (wordsL 10 (text ++ t)) out = readFrom j (wordsL 10 t) (out ++ l)
theorem Pre.nil : Pre [] [] := fun t i out => ⟨i, by simp⟩
theorem Pre.app {x y : Bs} {a b : List ActL} (h : Pre x a) (k : Pre y b) : Pre (x ++ y) (a ++ b) := fun t i out => by
  obtain ⟨j, hj⟩ := h (y ++ t) i out
  obtain ⟨j', hj'⟩ := k t j (out ++ a)
  exact ⟨j', by rw [List.append_assoc, hj, hj', List.append_assoc]⟩
theorem Pre.line : Pre [10] [] := fun t i out => ⟨i + 1, by
  have : wordsL 10 ([10] ++ t) = [] :: wordsL 10 t := by simp [wordsL]
  rw [this]; simp [readFrom]⟩
theorem Pre.act {s : Bs} {a : ActL} (h : parseL s = some a) : Pre (s ++ [10]) [a] := fun t i out => ⟨i + 1, by
  obtain ⟨_, h1, h2⟩ := parse_line h
  rw [List.append_assoc]
  show readFrom i (wordsL 10 (s ++ 10 :: t)) out = _
  rw [words_cons 10 t s h1, readFrom, if_neg h2, h]⟩
theorem Pre.text : ∀ (l : List ActL) (t : Bs), textL l = some t → Pre t l
  | [], t, h => by simp only [textL, Option.some.injEq] at h; subst h; exact Pre.nil
  | a :: l, t, h => by
    obtain ⟨s, u, hs, hu, rfl⟩ := textL_cons_some h
    have := (Pre.act (print_some hs).1).app (Pre.text l u hu)
    simpa using this
theorem Pre.read {t : Bs} {l : List ActL} (h : Pre t l) : readFrom 1 (wordsL 10 t) [] = (l, 0, 0) := by
  obtain ⟨j, hj⟩ := h [] 1 []
  rw [List.append_nil] at hj
  rw [hj]
  simp [wordsL, readFrom]
theorem Pre.readE {t : Bs} {l : List ActL} (h : Pre t l) (ht : t.length ≤ 65536) (hl : l.length ≤ 2000) : readE t = (l, 0, 0) := by
  unfold Go.Proofs.YtgdaaafejfjilaaGreatDoor.readE
  rw [if_neg (by omega), h.read, if_neg (by show ¬ 2000 < l.length; omega)]
theorem textE_ok {l : List ActL} {t : Bs} (h : textE l = (t, 0)) : textL l = some t ∧ l.length ≤ 2000 ∧ t.length ≤ 65536 := by
  unfold textE at h
  split at h
  · simp at h
  · rename_i u hu
    split at h
    · simp at h
    · simp only [Prod.mk.injEq, and_true] at h
      subst h
      exact ⟨hu, by omega, by omega⟩
theorem text_read {l : List ActL} {t : Bs} (h : textE l = (t, 0)) : readE t = (l, 0, 0) := by
  obtain ⟨h1, h2, h3⟩ := textE_ok h
  exact (Pre.text l t h1).readE h3 h2

/-- acts of texts of 400 bytes, of 500 bytes, 80 marks -/
def FewA (a : ActL) : Prop := a.path.length ≤ 400 ∧ a.dest.length ≤ 400 ∧ a.bytes.length ≤ 500 ∧ a.marks.length ≤ 80

theorem evict_parse (i : Int) (h : 0 ≤ i ∧ i ≤ 999999999) : printL { ActL.zero with kind := 3, n := i } = some (([101, 118, 105, 99, 116] : Bs) ++ 32 :: Lib.itoa i) := by
  apply print_of_parse
  have hd : ∀ c ∈ Lib.itoa i, 48 ≤ c.toNat ∧ c.toNat ≤ 57 := itoa_digits h.1
  have hn : (32 : UInt8) ∉ Lib.itoa i := fun hm => by
    have := hd 32 hm
    have e : (32 : UInt8).toNat = 32 := rfl
    omega
  unfold parseL
  rw [words_cons 32 _ _ (by decide), words_one 32 _ hn]
  have hnum : numL (Lib.itoa i) = some i := by
    rw [← numR_eq]
    unfold numR
    have hl := itoa_len9 h
    rw [itoa_nonneg h.1] at *
    rw [if_neg]
    · rw [val_dec]; congr 1; omega
    · simp only [not_or, not_and]
      refine ⟨by omega, by omega, fun h1 => ?_, fun hc => hc hd⟩
      apply dec_head
      rcases Nat.lt_or_ge i.toNat 1 with hz | hz
      · have : i.toNat = 0 := by omega
        rw [this, dec_small (by omega)] at h1
        simp at h1
      · exact hz
  have hk : kindL [101, 118, 105, 99, 116] = some 3 := by decide
  unfold readL
  simp only [hk]
  have hv : (verbL 3).2 = [109] := rfl
  rw [hv]
  simp [fillL, setL, hnum]

end Go.Proofs.YtgdaaafejfjilaaGreatDoor

/- the plain law of scripts: the reference's reading -/
namespace Go.Proofs.YtgdaaafejfjilaaGreatDoor

/-- the operation of words -/
def readOpL : List Bs → Option ActL
  | [] => none
  | o :: l => match opkL o with
    | none => none
    | some x => match fillL (opL x).2 { ActL.zero with okind := x } l with
      | some (b, []) => some b
      | _ => none

theorem fill_app : ∀ (cs cs' : Bs) (l l' : List Bs) (a : ActL), cs.length = l.length → fillL (cs ++ cs') a (l ++ l') = match fillL cs a l with
    | some (b, _) => fillL cs' b l'
    | none => none
  | [], cs', l, l', a, h => by
    have : l = [] := List.length_eq_zero_iff.1 h.symm
    subst this; rfl
  | c :: cs, cs', [], l', a, h => by simp at h
  | c :: cs, cs', s :: l, l', a, h => by
    rw [List.cons_append, List.cons_append, fillL, fillL]
    cases setL c a s with
    | none => rfl
    | some b => exact fill_app cs cs' l l' b (by simpa using h)
theorem fill_len : ∀ (cs : Bs) (l : List Bs) (a b : ActL) (r : List Bs), fillL cs a l = some (b, r) → l.length = cs.length + r.length
  | [], l, a, b, r, h => by
    simp only [fillL, Option.some.injEq, Prod.mk.injEq] at h
    rw [h.2]; simp
  | c :: cs, [], a, b, r, h => by simp [fillL] at h
  | c :: cs, s :: l, a, b, r, h => by
    rw [fillL] at h
    cases hs : setL c a s with
    | none => rw [hs] at h; cases h
    | some b' =>
      rw [hs] at h
      have := fill_len cs l b' b r h
      simp only [List.length_cons]; omega

/-- a word is read into another field -/
theorem set_kt {c : UInt8} (hc : c ≠ 116) (a : ActL) (k t : Int) (s : Bs) : setL c { a with kind := k, thread := t } s = (setL c a s).map fun b => { b with kind := k, thread := t } := by
  unfold setL
  rw [if_neg hc, if_neg hc]
  repeat' split
  all_goals first
    | rfl
    | (cases numL s <;> rfl)
    | (cases pathL s <;> rfl)
    | (cases bytesL s <;> rfl)
    | (cases marksL s <;> rfl)
theorem fill_kt : ∀ (cs : Bs) (a : ActL) (k t : Int) (l : List Bs), (116 : UInt8) ∉ cs → fillL cs { a with kind := k, thread := t } l = (fillL cs a l).map fun q => ({ q.1 with kind := k, thread := t }, q.2)
  | [], a, k, t, l, _ => rfl
  | c :: cs, a, k, t, [], _ => rfl
  | c :: cs, a, k, t, s :: l, h => by
    simp only [List.mem_cons, not_or] at h
    rw [fillL, fillL, set_kt (fun e => h.1 e.symm)]
    cases setL c a s with
    | none => rfl
    | some b => exact fill_kt cs b k t l h.2

theorem op_no116 (k : Int) : (116 : UInt8) ∉ (opL k).2 := by
  by_cases h : 1 ≤ k ∧ k ≤ 11
  · exact (op_nodup h).2
  · have e : opL k = ([], []) := by
      unfold opL
      repeat rw [if_neg (by omega)]
    rw [e]; simp

/-- queue's line -/
theorem read_queue (v o : Bs) (l : List Bs) (hv : v = [113, 117, 101, 117, 101]) (s : Bs) : readL (v :: s :: o :: l) = match numL s, readOpL (o :: l) with
    | some t, some b => some { b with kind := 1, thread := t }
    | _, _ => none := by
  subst hv
  have hk : kindL [113, 117, 101, 117, 101] = some 1 := by decide
  unfold readL
  simp only [hk]
  have hv : (verbL 1).2 = [116] := rfl
  rw [hv]
  have hs : ∀ a : ActL, setL 116 a s = (numL s).map fun v => { a with thread := v } := fun a => by unfold setL; rw [if_pos rfl]
  simp only [fillL, hs]
  cases hn : numL s with
  | none => rfl
  | some t =>
    simp only [Option.map_some, if_true, readOpL]
    cases ho : opkL o with
    | none => rfl
    | some x =>
      simp only
      have := fill_kt (opL x).2 { ActL.zero with okind := x } 1 t l (op_no116 x)
      have e : ({ ({ ActL.zero with okind := x } : ActL) with kind := 1, thread := t } : ActL) = { ({ ({ ActL.zero with kind := 1 } : ActL) with thread := t } : ActL) with okind := x } := rfl
      rw [e] at this
      rw [this]
      cases hf : fillL (opL x).2 { ActL.zero with okind := x } l with
      | none => rfl
      | some q =>
        obtain ⟨b, r⟩ := q
        simp only [Option.map_some]
        cases r <;> rfl
theorem read_queue1 (v : Bs) (hv : v = [113, 117, 101, 117, 101]) : readL [v] = none := by subst hv; rfl
theorem read_queue2 (v s : Bs) (hv : v = [113, 117, 101, 117, 101]) : readL [v, s] = none := by
  subst hv
  have hk : kindL [113, 117, 101, 117, 101] = some 1 := by decide
  unfold readL
  simp only [hk]
  have hv : (verbL 1).2 = [116] := rfl
  rw [hv]
  have hs : ∀ a : ActL, setL 116 a s = (numL s).map fun v => { a with thread := v } := fun a => by unfold setL; rw [if_pos rfl]
  simp only [fillL, hs]
  cases numL s <;> rfl

/-- step's line -/
theorem read_step (v : Bs) (hv : v = [115, 116, 101, 112]) (l : List Bs) : readL (v :: l) = match l with
    | [s, u] => match numL s, numL u with
      | some t, some n => some { ActL.zero with kind := 2, thread := t, n := n }
      | _, _ => none
    | _ => none := by
  subst hv
  have hk : kindL [115, 116, 101, 112] = some 2 := by decide
  unfold readL
  simp only [hk]
  have hv : (verbL 2).2 = [116, 109] := rfl
  rw [hv]
  have hs : ∀ (a : ActL) s, setL 116 a s = (numL s).map fun v => { a with thread := v } := fun a s => by unfold setL; rw [if_pos rfl]
  have hm : ∀ (a : ActL) s, setL 109 a s = (numL s).map fun v => { a with n := v } := fun a s => by unfold setL; rw [if_neg (by decide), if_pos rfl]
  match l with
  | [] => rfl
  | [s] => simp only [fillL, hs]; cases numL s <;> rfl
  | [s, u] => simp only [fillL, hs]; cases numL s with
    | none => rfl
    | some t => simp only [Option.map_some, hm]; cases numL u <;> rfl
  | s :: u :: x :: r => simp only [fillL, hs]; cases numL s with
    | none => rfl
    | some t => simp only [Option.map_some, hm]; cases numL u <;> rfl
/-- crash's line -/
theorem read_crash (v : Bs) (hv : v = [99, 114, 97, 115, 104]) (l : List Bs) : readL (v :: l) = match l with
    | [s] => (marksL s).map fun m => { ActL.zero with kind := 4, marks := m }
    | _ => none := by
  subst hv
  have hk : kindL [99, 114, 97, 115, 104] = some 4 := by decide
  unfold readL
  simp only [hk]
  have hv : (verbL 4).2 = [107] := rfl
  rw [hv]
  have hs : ∀ (a : ActL) (s : Bs), setL 107 a s = (marksL s).map fun v => { a with marks := v } := fun a s => by
    unfold setL
    repeat rw [if_neg (by decide)]
    rw [if_pos rfl]
  match l with
  | [] => rfl
  | [s] => simp only [fillL, hs]; cases marksL s <;> rfl
  | s :: u :: r => simp only [fillL, hs]; cases marksL s <;> rfl
theorem read_num (v : Bs) (k : Int) (hk : kindL v = some k) (hv : (verbL k).2 = [109]) (h1 : k ≠ 1) (l : List Bs) : readL (v :: l) = match l with
    | [s] => (numL s).map fun m => { ActL.zero with kind := k, n := m }
    | _ => none := by
  unfold readL
  simp only [hk, hv, if_neg h1]
  have hs : ∀ (a : ActL) s, setL 109 a s = (numL s).map fun v => { a with n := v } := fun a s => by unfold setL; rw [if_neg (by decide), if_pos rfl]
  match l with
  | [] => rfl
  | [s] => simp only [fillL, hs]; cases numL s <;> rfl
  | s :: u :: r => simp only [fillL, hs]; cases numL s <;> rfl
theorem read_other (v : Bs) (l : List Bs) (h1 : v ≠ [113, 117, 101, 117, 101]) (h2 : v ≠ [115, 116, 101, 112]) (h3 : v ≠ [101, 118, 105, 99, 116]) (h4 : v ≠ [99, 114, 97, 115, 104]) (h5 : v ≠ [114, 101, 99, 111, 118, 101, 114]) : readL (v :: l) = none := by
  have hk : kindL v = none := by
    cases hk : kindL v with
    | none => rfl
    | some k =>
      obtain ⟨e, r⟩ := kind_back hk
      exfalso
      rcases int5 r with rfl | rfl | rfl | rfl | rfl
      · exact h1 e.symm
      · exact h2 e.symm
      · exact h3 e.symm
      · exact h4 e.symm
      · exact h5 e.symm
  unfold readL
  simp only [hk]

end Go.Proofs.YtgdaaafejfjilaaGreatDoor
