/- contracts of the reference's Parse -/
import Derived.Test.YtgdaaafejfjilaaGreatDoorW25
import Derived.Deep.Cut
namespace Go.Proofs.YtgdaaafejfjilaaGreatDoor
open Go.RowKit
attribute [local go_sem] Oper.semAt_some undef

/-- what has come of a line, of the reference's Parse -/
def RefParsePost (s : Bs) (w : World) (e : Ending) (w' : World) : Prop :=
  ∃ b v8 v9, e = .returned (.tuple #[actV b v8 v9, .bool (parseL s).isSome]) ∧ (∀ c, parseL s = some c → b = c) ∧ ((SliceB w' v8 b.bytes ∧ Off (fun k => k < w.heap.size) v8) ∧ (SliceM w' v9 b.marks ∧ Off (fun k => k < w.heap.size) v9)) ∧ Newer w w'

theorem refparse_fin {s : Bs} {w W : World} {d : Nat} {a0 : ActL} (hA : ActAt W (fun k => k < d + 1) d a0) (hN : Newer w W) (hd : w.heap.size = d) (a : ActL) (p8 : Option Addr) (n8 m8 : Nat) (p9 : Option Addr) (n9 m9 : Nat) (s8 : SliceB W (.slice p8 n8 m8) a.bytes ∧ Off (fun k => k < d + 1) (.slice p8 n8 m8)) (s9 : SliceM W (.slice p9 n9 m9) a.marks ∧ Off (fun k => k < d + 1) (.slice p9 n9 m9))
    (ok : Bool) (hok : ok = (parseL s).isSome) (hb : ∀ c, parseL s = some c → a = c) (tmps : Array Value) (h2 : tmps.getD 2 undef = .pointer (some ⟨d, 0, none⟩)) (h3 : tmps.getD 3 undef = .bool ok) :
    bodyPost Tryz.prog Tryz.f18 (RefParsePost s w) .ret { tmps := tmps, defers := [] } ((((((((((W.setCell ⟨d, 0, none⟩ (.int .i64 a.kind)).setCell ⟨d, 1, none⟩ (.int .i64 a.thread)).setCell ⟨d, 2, none⟩ (.int .i64 a.n)).setCell ⟨d, 3, none⟩ (.int .i64 a.okind)).setCell ⟨d, 4, none⟩ (.string ⟨a.path.toArray⟩)).setCell ⟨d, 5, none⟩ (.string ⟨a.dest.toArray⟩)).setCell ⟨d, 6, none⟩ (.int .i64 a.at_)).setCell ⟨d, 7, none⟩ (.int .i64 a.on)).setCell ⟨d, 8, none⟩ (.slice p8 n8 m8)).setCell ⟨d, 9, none⟩ (.slice p9 n9 m9)) := by
  obtain ⟨u8, d8, -⟩ := hA.c8
  obtain ⟨u9, d9, -⟩ := hA.c9
  obtain ⟨AY, y8, y9, sB, sM, gY⟩ := act_put hA s8 s9 d8 d9 _ rfl
  have hr : (results Tryz.f18 tmps).run Tryz.prog _ = .ok (.tuple #[actV a (.slice p8 n8 m8) (.slice p9 n9 m9), tmps.getD 3 undef]) _ := results_cell_tmp rfl h2 (load29 AY y8 y9)
  refine bodyPost_ret hr rfl ⟨a, _, _, by rw [h3, hok], hb, ⟨⟨sB, s8.2.sub (fun k hk => by have hk : k < w.heap.size := hk; omega)⟩, ⟨sM, s9.2.sub (fun k hk => by have hk : k < w.heap.size := hk; omega)⟩⟩, ?_⟩
  exact Grow.trans hN (gY.mono (fun k hk => by have hk : k = d := hk; show w.heap.size ≤ k; omega))

theorem act_ext {bb : ActL} {t : Int} (h1 : 0 = bb.n) (h2 : [] = bb.marks) : { bb with kind := 1, thread := t, n := 0, marks := [] } = { bb with kind := 1, thread := t } := by
  cases bb
  simp only at h1 h2
  subst h1 h2
  rfl
theorem set_keep {c : UInt8} {a b : ActL} {s : Bs} (hc : c = 112 ∨ c = 113 ∨ c = 97 ∨ c = 110 ∨ c = 98) (h : setL c a s = some b) : b.n = a.n ∧ b.marks = a.marks := by
  rcases hc with rfl | rfl | rfl | rfl | rfl
  · have e : setL 112 a s = (pathL s).map fun v => { a with path := v } := rfl
    rw [e] at h; obtain ⟨v, -, rfl⟩ := Option.map_eq_some_iff.1 h; exact ⟨rfl, rfl⟩
  · have e : setL 113 a s = (pathL s).map fun v => { a with dest := v } := rfl
    rw [e] at h; obtain ⟨v, -, rfl⟩ := Option.map_eq_some_iff.1 h; exact ⟨rfl, rfl⟩
  · have e : setL 97 a s = (numL s).map fun v => { a with at_ := v } := rfl
    rw [e] at h; obtain ⟨v, -, rfl⟩ := Option.map_eq_some_iff.1 h; exact ⟨rfl, rfl⟩
  · have e : setL 110 a s = (numL s).map fun v => { a with on := v } := rfl
    rw [e] at h; obtain ⟨v, -, rfl⟩ := Option.map_eq_some_iff.1 h; exact ⟨rfl, rfl⟩
  · have e : setL 98 a s = (bytesL s).map fun v => { a with bytes := v } := rfl
    rw [e] at h; obtain ⟨v, -, rfl⟩ := Option.map_eq_some_iff.1 h; exact ⟨rfl, rfl⟩
theorem fill_keep : ∀ (cs : Bs) (l : List Bs) (a b : ActL) (r : List Bs), (∀ c ∈ cs, c = 112 ∨ c = 113 ∨ c = 97 ∨ c = 110 ∨ c = 98) → fillL cs a l = some (b, r) → b.n = a.n ∧ b.marks = a.marks
  | [], l, a, b, r, _, h => by
    simp only [fillL, Option.some.injEq, Prod.mk.injEq] at h
    rw [h.1]; exact ⟨rfl, rfl⟩
  | c :: cs, [], a, b, r, _, h => by simp [fillL] at h
  | c :: cs, s :: l, a, b, r, hc, h => by
    rw [fillL] at h
    cases hs : setL c a s with
    | none => rw [hs] at h; cases h
    | some b' =>
      rw [hs] at h
      have h1 := fill_keep cs l b' b r (fun x hx => hc x (by simp [hx])) h
      have h2 := set_keep (hc c (by simp)) hs
      exact ⟨h1.1.trans h2.1, h1.2.trans h2.2⟩
theorem readOp_keep {l : List Bs} {b : ActL} (h : readOpL l = some b) : b.n = 0 ∧ b.marks = [] := by
  unfold readOpL at h
  split at h
  · cases h
  · split at h
    · cases h
    · rename_i x hx
      split at h
      · rename_i b' hf
        simp only [Option.some.injEq] at h
        subst h
        exact fill_keep _ _ _ _ _ (op_letters x).1 hf
      · cases h
set_option maxRecDepth 100000 in
set_option maxHeartbeats 6400000 in
theorem refParse_queue (s : Bs) (hs : s.length ≤ 100000) (w : World) (x0 : Bs) (rest : List Bs) (hx : wordsL 32 s = x0 :: rest) (hx0 : x0 = [113, 117, 101, 117, 101]) : Calls Tryz.prog 18 #[.string ⟨s.toArray⟩] w (RefParsePost s w) := by
  obtain ⟨d, hd⟩ : ∃ d, w.heap.size = d := ⟨_, rfl⟩
  have A0 := zero_act w (fun k => k < d + 1) (by show w.heap.size < d + 1; omega)
  have HB := Lib.hid hd
  rw [hd] at A0
  have HA0 := Lib.hid A0
  clear A0
  go_enter Tryz.func18, Tryz.ntmps18
  go_wp2_with fail
  refine (refWords_any s hs _).mono ?_
  rintro e w1 ⟨v, rfl, hwv, n1⟩
  have H1 := Lib.hid (And.intro (HA0.out.newer n1) ((Newer.alloc w _).trans n1))
  clear n1 HA0 hd
  subst hx0
  have hpp : parseL s = readL (wordsL 32 s) := rfl
  rw [hx] at hpp
  have HP := Lib.hid hpp
  clear hpp
  have HWL : Hid (∀ x ∈ rest, (32 : UInt8) ∉ x ∧ x.length ≤ 100000) := Lib.hid (fun x hm => ⟨words_free 32 s x (by rw [hx]; exact List.mem_cons_of_mem _ hm), Nat.le_trans (words_len 32 s x (by rw [hx]; exact List.mem_cons_of_mem _ hm)) hs⟩)
  have HCNT : Hid (rest.length + 1 ≤ 100001) := Lib.hid (by have := words_cnt 32 s; rw [hx] at this; simp at this; omega)
  rw [hx] at hwv
  obtain ⟨g, o, cap, rfl, hlc, hcm, hcell⟩ := hwv
  have HCAP := Lib.hid hcm
  clear hx hcm
  cases rest with
  | nil =>
    have hLn : (([113, 117, 101, 117, 101] : Bs) :: [] : List Bs).length = 1 := rfl
    rw [hLn] at hlc ⊢
    clear hLn
    have c0 := hcell 0 (by simp)
    simp only [Nat.add_zero, List.getElem_cons_zero] at c0
    have HNO : Hid (parseL s = none) := Lib.hid (by rw [HP.out, read_queue1 _ rfl])
    clear hcell HWL
    obtain ⟨k0, k1, k2, k3, k4, k5, k6, k7, ⟨u8, k8, -⟩, ⟨u9, k9, -⟩, kf, -⟩ := H1.out.1
    go_wp2_with fail
    exact refparse_fin H1.out.1 H1.out.2 HB.out (ActL.zero) none 0 0 none 0 0 ⟨SliceB.nil _, Off.nil _⟩ ⟨SliceM.nil _, Off.nil _⟩ _ (by rw [HNO.out]; rfl) (fun c hc => absurd (HNO.out.symm.trans hc) (by simp)) _ rfl rfl
  | cons a rest =>
    cases rest with
    | nil =>
      have hLn : (([113, 117, 101, 117, 101] : Bs) :: a :: [] : List Bs).length = 2 := rfl
      rw [hLn] at hlc ⊢
      clear hLn
      have c0 := hcell 0 (by simp)
      simp only [Nat.add_zero, List.getElem_cons_zero] at c0
      have c1 := hcell 1 (by simp)
      simp only [List.getElem_cons_succ, List.getElem_cons_zero] at c1
      have HNO : Hid (parseL s = none) := Lib.hid (by rw [HP.out, read_queue2 _ _ rfl])
      clear hcell HWL
      obtain ⟨k0, k1, k2, k3, k4, k5, k6, k7, ⟨u8, k8, -⟩, ⟨u9, k9, -⟩, kf, -⟩ := H1.out.1
      go_wp2_with fail
      exact refparse_fin H1.out.1 H1.out.2 HB.out (ActL.zero) none 0 0 none 0 0 ⟨SliceB.nil _, Off.nil _⟩ ⟨SliceM.nil _, Off.nil _⟩ _ (by rw [HNO.out]; rfl) (fun c hc => absurd (HNO.out.symm.trans hc) (by simp)) _ rfl rfl
    | cons b rest =>
      cases rest with
      | nil =>
        have hLn : (([113, 117, 101, 117, 101] : Bs) :: a :: b :: [] : List Bs).length = 3 := rfl
        rw [hLn] at hlc ⊢
        clear hLn
        have c0 := hcell 0 (by simp)
        simp only [Nat.add_zero, List.getElem_cons_zero] at c0
        have c1 := hcell 1 (by simp)
        simp only [List.getElem_cons_succ, List.getElem_cons_zero] at c1
        have c2 := hcell 2 (by simp)
        simp only [List.getElem_cons_succ, List.getElem_cons_zero] at c2
        have HPP : Hid (parseL s = match numL a, readOpL [b] with | some t, some b => some { b with kind := 1, thread := t } | _, _ => none) := Lib.hid (by rw [HP.out]; exact read_queue _ _ _ rfl _)
        have hwv : WordsV w1 (.slice (some ⟨g, o + 2, none⟩) (1) (cap - 2)) [b] := ⟨g, o + 2, cap - 2, by rw [show [b].length = 1 by simp], by simp; omega, by have := HCAP.out; omega, fun j hj => by have := hcell (j + 2) (by simp at hj ⊢; omega); simp only [List.getElem_cons_succ] at this; rw [show o + 2 + j = o + (j + 2) by omega]; exact this⟩
        have HWV := Lib.hid hwv
        have HLA := Lib.hid (And.intro (HWL.out a (by simp)).2 (And.intro (fun x (hx : x ∈ [b]) => HWL.out x (List.mem_cons_of_mem _ hx)) (by have := HCNT.out; simp only [List.length_cons] at this ⊢; omega : [b].length ≤ 100001)))
        have hc2 : ¬ cap = 2 := by omega
        have hc3 : (2 : Int) ≤ (cap : Int) := by omega
        have hc4 : cap ≤ 9223372036854775807 := HCAP.out
        clear hcell HWL hwv
        go_wp2_with fail
        refine (refNumber_any a HLA.out.1 _).mono ?_
        rintro e w' ⟨rfl, rfl⟩
        go_wp2_with fail
        refine (refReadOp_any _ [b] w1 HWV.out (by simp) (fun x hx => (HLA.out.2.1 x hx).1) (fun x hx => (HLA.out.2.1 x hx).2) HLA.out.2.2).mono ?_
        rintro e w2 ⟨b0, v8, rfl, hb0, hv8, n2⟩
        have H2 := Lib.hid (And.intro (H1.out.1.newer n2) (H1.out.2.trans n2))
        obtain ⟨p8, m8, e8, -⟩ := id hv8.1
        obtain ⟨n8, hn8⟩ : ∃ n, b0.bytes.length = n := ⟨_, rfl⟩
        rw [hn8] at e8
        subst e8
        have HV := Lib.hid (And.intro hv8.1 (hv8.2.sub (K' := fun k => k < d + 1) (fun k hk => by have := H1.out.1.lt; omega)))
        have HB0 := Lib.hid hb0
        clear hb0 hv8 n2 hn8
        unfold opV
        go_upto_region 5 with fail
        obtain ⟨w3, hw3⟩ : ∃ w3, w2.alloc (.cells #[.int .i64 b0.okind, .string ⟨b0.path.toArray⟩, .string ⟨b0.dest.toArray⟩, .int .i64 b0.at_, .int .i64 b0.on, .slice p8 n8 m8] 26) = w3 := ⟨_, rfl⟩
        rw [hw3]
        obtain ⟨q, hq⟩ : ∃ q, w2.heap.size = q := ⟨_, rfl⟩
        rw [hq]
        have hqq : OpAt w3 q b0 (.slice p8 n8 m8) := by
          subst hw3 hq
          constructor <;> simp [go_sem]
        have n3 : Newer w2 w3 := hw3 ▸ Newer.alloc _ _
        have H3 := Lib.hid (And.intro (H2.out.1.newer n3) (H2.out.2.trans n3))
        have HV3 := Lib.hid (And.intro (HV.out.1.newer n3) HV.out.2)
        have HQ := Lib.hid hqq
        clear hqq hw3 hq n3
        unfold numW numOk
        cases hna : numL a with
        | none =>
          have HNO : Hid (parseL s = none) := Lib.hid (by rw [HPP.out, hna])
          clear hna
          obtain ⟨k0, k1, k2, k3, k4, k5, k6, k7, ⟨u8, k8, -⟩, ⟨u9, k9, -⟩, kf, -⟩ := H3.out.1
          simp only [Option.getD_none, Option.isSome_none]
          go_wp2_with fail
          exact refparse_fin H3.out.1 H3.out.2 HB.out (ActL.zero) none 0 0 none 0 0 ⟨SliceB.nil _, Off.nil _⟩ ⟨SliceM.nil _, Off.nil _⟩ _ (by rw [HNO.out]; rfl) (fun c hc => absurd (HNO.out.symm.trans hc) (by simp)) _ rfl rfl
        | some t =>
          cases ho : readOpL [b] with
          | none =>
            have HNO : Hid (parseL s = none) := Lib.hid (by rw [HPP.out, hna, ho])
            clear hna ho
            obtain ⟨k0, k1, k2, k3, k4, k5, k6, k7, ⟨u8, k8, -⟩, ⟨u9, k9, -⟩, kf, -⟩ := H3.out.1
            simp only [Option.getD_some, Option.isSome_some, Option.isSome_none]
            go_wp2_with fail
            exact refparse_fin H3.out.1 H3.out.2 HB.out (ActL.zero) none 0 0 none 0 0 ⟨SliceB.nil _, Off.nil _⟩ ⟨SliceM.nil _, Off.nil _⟩ _ (by rw [HNO.out]; rfl) (fun c hc => absurd (HNO.out.symm.trans hc) (by simp)) _ rfl rfl
          | some bb =>
            have HYES : Hid (parseL s = some { bb with kind := 1, thread := t }) := Lib.hid (by rw [HPP.out, hna, ho])
            have HBB := Lib.hid (HB0.out bb ho)
            have HKEEP := Lib.hid (readOp_keep ho)
            clear hna ho
            obtain ⟨k0, k1, k2, k3, k4, k5, k6, k7, ⟨u8, k8, -⟩, ⟨u9, k9, -⟩, kf, -⟩ := H3.out.1
            obtain ⟨q0, q1, q2, q3, q4, q5, qf⟩ := HQ.out
            simp only [Option.getD_some, Option.isSome_some]
            go_wp2_with fail
            exact refparse_fin H3.out.1 H3.out.2 HB.out ({ b0 with kind := 1, thread := t, n := 0, marks := [] }) p8 n8 m8 none 0 0 HV3.out ⟨SliceM.nil _, Off.nil _⟩ _ (by rw [HYES.out]; rfl) (fun c hc => by rw [← Option.some.inj (HYES.out.symm.trans hc), HBB.out]; exact act_ext HKEEP.out.1.symm HKEEP.out.2.symm) _ rfl rfl
      | cons c r =>
        obtain ⟨n, hn⟩ : ∃ n, r.length = n := ⟨_, rfl⟩
        have hLn : (([113, 117, 101, 117, 101] : Bs) :: a :: b :: c :: r).length = n + 4 := by simp [hn]
        rw [hLn] at hlc ⊢
        have n1 : ((n : Int) + 4 != 2) = true := by simp; omega
        have n2 : ((n : Int) + 4 == 2) = false := by simp; omega
        have n3 : ((n : Int) + 4 == 3) = false := by simp; omega
        have n4 : (2 : Int) < (n : Int) + 4 := by omega
        have n5 : 2 < n + 4 := by omega
        have c0 := hcell 0 (by simp)
        simp only [Nat.add_zero, List.getElem_cons_zero] at c0
        have c1 := hcell 1 (by simp)
        simp only [List.getElem_cons_succ, List.getElem_cons_zero] at c1
        have c2 := hcell 2 (by simp)
        simp only [List.getElem_cons_succ, List.getElem_cons_zero] at c2
        have HPP : Hid (parseL s = match numL a, readOpL (b :: c :: r) with | some t, some b => some { b with kind := 1, thread := t } | _, _ => none) := Lib.hid (by rw [HP.out]; exact read_queue _ _ _ rfl _)
        have hwv : WordsV w1 (.slice (some ⟨g, o + 2, none⟩) (n + 2) (cap - 2)) (b :: c :: r) := ⟨g, o + 2, cap - 2, by rw [show (b :: c :: r).length = n + 2 by simp [hn]], by simp [hn]; omega, by have := HCAP.out; omega, fun j hj => by have := hcell (j + 2) (by simp at hj ⊢; omega); simp only [List.getElem_cons_succ] at this; rw [show o + 2 + j = o + (j + 2) by omega]; exact this⟩
        have HWV := Lib.hid hwv
        have HLA := Lib.hid (And.intro (HWL.out a (by simp)).2 (And.intro (fun x (hx : x ∈ (b :: c :: r)) => HWL.out x (List.mem_cons_of_mem _ hx)) (by have := HCNT.out; simp only [List.length_cons] at this ⊢; omega : (b :: c :: r).length ≤ 100001)))
        have hc2 : ¬ cap = 2 := by omega
        have hc3 : (2 : Int) ≤ (cap : Int) := by omega
        have hc4 : cap ≤ 9223372036854775807 := HCAP.out
        clear hcell HWL hwv
        go_wp2_with fail
        refine (refNumber_any a HLA.out.1 _).mono ?_
        rintro e w' ⟨rfl, rfl⟩
        go_wp2_with fail
        refine (refReadOp_any _ (b :: c :: r) w1 HWV.out (by simp) (fun x hx => (HLA.out.2.1 x hx).1) (fun x hx => (HLA.out.2.1 x hx).2) HLA.out.2.2).mono ?_
        rintro e w2 ⟨b0, v8, rfl, hb0, hv8, n2⟩
        have H2 := Lib.hid (And.intro (H1.out.1.newer n2) (H1.out.2.trans n2))
        obtain ⟨p8, m8, e8, -⟩ := id hv8.1
        obtain ⟨n8, hn8⟩ : ∃ n, b0.bytes.length = n := ⟨_, rfl⟩
        rw [hn8] at e8
        subst e8
        have HV := Lib.hid (And.intro hv8.1 (hv8.2.sub (K' := fun k => k < d + 1) (fun k hk => by have := H1.out.1.lt; omega)))
        have HB0 := Lib.hid hb0
        clear hb0 hv8 n2 hn8
        unfold opV
        go_upto_region 5 with fail
        obtain ⟨w3, hw3⟩ : ∃ w3, w2.alloc (.cells #[.int .i64 b0.okind, .string ⟨b0.path.toArray⟩, .string ⟨b0.dest.toArray⟩, .int .i64 b0.at_, .int .i64 b0.on, .slice p8 n8 m8] 26) = w3 := ⟨_, rfl⟩
        rw [hw3]
        obtain ⟨q, hq⟩ : ∃ q, w2.heap.size = q := ⟨_, rfl⟩
        rw [hq]
        have hqq : OpAt w3 q b0 (.slice p8 n8 m8) := by
          subst hw3 hq
          constructor <;> simp [go_sem]
        have n3 : Newer w2 w3 := hw3 ▸ Newer.alloc _ _
        have H3 := Lib.hid (And.intro (H2.out.1.newer n3) (H2.out.2.trans n3))
        have HV3 := Lib.hid (And.intro (HV.out.1.newer n3) HV.out.2)
        have HQ := Lib.hid hqq
        clear hqq hw3 hq n3
        unfold numW numOk
        cases hna : numL a with
        | none =>
          have HNO : Hid (parseL s = none) := Lib.hid (by rw [HPP.out, hna])
          clear hna
          obtain ⟨k0, k1, k2, k3, k4, k5, k6, k7, ⟨u8, k8, -⟩, ⟨u9, k9, -⟩, kf, -⟩ := H3.out.1
          simp only [Option.getD_none, Option.isSome_none]
          go_wp2_with fail
          exact refparse_fin H3.out.1 H3.out.2 HB.out (ActL.zero) none 0 0 none 0 0 ⟨SliceB.nil _, Off.nil _⟩ ⟨SliceM.nil _, Off.nil _⟩ _ (by rw [HNO.out]; rfl) (fun c hc => absurd (HNO.out.symm.trans hc) (by simp)) _ rfl rfl
        | some t =>
          cases ho : readOpL (b :: c :: r) with
          | none =>
            have HNO : Hid (parseL s = none) := Lib.hid (by rw [HPP.out, hna, ho])
            clear hna ho
            obtain ⟨k0, k1, k2, k3, k4, k5, k6, k7, ⟨u8, k8, -⟩, ⟨u9, k9, -⟩, kf, -⟩ := H3.out.1
            simp only [Option.getD_some, Option.isSome_some, Option.isSome_none]
            go_wp2_with fail
            exact refparse_fin H3.out.1 H3.out.2 HB.out (ActL.zero) none 0 0 none 0 0 ⟨SliceB.nil _, Off.nil _⟩ ⟨SliceM.nil _, Off.nil _⟩ _ (by rw [HNO.out]; rfl) (fun c hc => absurd (HNO.out.symm.trans hc) (by simp)) _ rfl rfl
          | some bb =>
            have HYES : Hid (parseL s = some { bb with kind := 1, thread := t }) := Lib.hid (by rw [HPP.out, hna, ho])
            have HBB := Lib.hid (HB0.out bb ho)
            have HKEEP := Lib.hid (readOp_keep ho)
            clear hna ho
            obtain ⟨k0, k1, k2, k3, k4, k5, k6, k7, ⟨u8, k8, -⟩, ⟨u9, k9, -⟩, kf, -⟩ := H3.out.1
            obtain ⟨q0, q1, q2, q3, q4, q5, qf⟩ := HQ.out
            simp only [Option.getD_some, Option.isSome_some]
            go_wp2_with fail
            exact refparse_fin H3.out.1 H3.out.2 HB.out ({ b0 with kind := 1, thread := t, n := 0, marks := [] }) p8 n8 m8 none 0 0 HV3.out ⟨SliceM.nil _, Off.nil _⟩ _ (by rw [HYES.out]; rfl) (fun c hc => by rw [← Option.some.inj (HYES.out.symm.trans hc), HBB.out]; exact act_ext HKEEP.out.1.symm HKEEP.out.2.symm) _ rfl rfl

set_option maxRecDepth 100000 in
set_option maxHeartbeats 6400000 in
theorem refParse_step (s : Bs) (hs : s.length ≤ 100000) (w : World) (x0 : Bs) (rest : List Bs) (hx : wordsL 32 s = x0 :: rest) (hx0 : x0 = [115, 116, 101, 112]) : Calls Tryz.prog 18 #[.string ⟨s.toArray⟩] w (RefParsePost s w) := by
  obtain ⟨d, hd⟩ : ∃ d, w.heap.size = d := ⟨_, rfl⟩
  have A0 := zero_act w (fun k => k < d + 1) (by show w.heap.size < d + 1; omega)
  have HB := Lib.hid hd
  rw [hd] at A0
  have HA0 := Lib.hid A0
  clear A0
  go_enter Tryz.func18, Tryz.ntmps18
  go_wp2_with fail
  refine (refWords_any s hs _).mono ?_
  rintro e w1 ⟨v, rfl, hwv, n1⟩
  have H1 := Lib.hid (And.intro (HA0.out.newer n1) ((Newer.alloc w _).trans n1))
  clear n1 HA0 hd
  subst hx0
  have hpp : parseL s = readL (wordsL 32 s) := rfl
  rw [hx] at hpp
  have HP := Lib.hid hpp
  clear hpp
  have HWL : Hid (∀ x ∈ rest, (32 : UInt8) ∉ x ∧ x.length ≤ 100000) := Lib.hid (fun x hm => ⟨words_free 32 s x (by rw [hx]; exact List.mem_cons_of_mem _ hm), Nat.le_trans (words_len 32 s x (by rw [hx]; exact List.mem_cons_of_mem _ hm)) hs⟩)
  have HCNT : Hid (rest.length + 1 ≤ 100001) := Lib.hid (by have := words_cnt 32 s; rw [hx] at this; simp at this; omega)
  rw [hx] at hwv
  obtain ⟨g, o, cap, rfl, hlc, hcm, hcell⟩ := hwv
  have HCAP := Lib.hid hcm
  clear hx hcm
  cases rest with
  | nil =>
    have hLn : (([115, 116, 101, 112] : Bs) :: [] : List Bs).length = 1 := rfl
    rw [hLn] at hlc ⊢
    clear hLn
    have c0 := hcell 0 (by simp)
    simp only [Nat.add_zero, List.getElem_cons_zero] at c0
    have HNO : Hid (parseL s = none) := Lib.hid (by rw [HP.out, read_step _ rfl _])
    clear hcell HWL
    obtain ⟨k0, k1, k2, k3, k4, k5, k6, k7, ⟨u8, k8, -⟩, ⟨u9, k9, -⟩, kf, -⟩ := H1.out.1
    go_wp2_with fail
    exact refparse_fin H1.out.1 H1.out.2 HB.out (ActL.zero) none 0 0 none 0 0 ⟨SliceB.nil _, Off.nil _⟩ ⟨SliceM.nil _, Off.nil _⟩ _ (by rw [HNO.out]; rfl) (fun c hc => absurd (HNO.out.symm.trans hc) (by simp)) _ rfl rfl
  | cons a rest =>
    cases rest with
    | nil =>
      have hLn : (([115, 116, 101, 112] : Bs) :: a :: [] : List Bs).length = 2 := rfl
      rw [hLn] at hlc ⊢
      clear hLn
      have c0 := hcell 0 (by simp)
      simp only [Nat.add_zero, List.getElem_cons_zero] at c0
      have c1 := hcell 1 (by simp)
      simp only [List.getElem_cons_succ, List.getElem_cons_zero] at c1
      have HNO : Hid (parseL s = none) := Lib.hid (by rw [HP.out, read_step _ rfl _])
      clear hcell HWL
      obtain ⟨k0, k1, k2, k3, k4, k5, k6, k7, ⟨u8, k8, -⟩, ⟨u9, k9, -⟩, kf, -⟩ := H1.out.1
      go_wp2_with fail
      exact refparse_fin H1.out.1 H1.out.2 HB.out (ActL.zero) none 0 0 none 0 0 ⟨SliceB.nil _, Off.nil _⟩ ⟨SliceM.nil _, Off.nil _⟩ _ (by rw [HNO.out]; rfl) (fun c hc => absurd (HNO.out.symm.trans hc) (by simp)) _ rfl rfl
    | cons b rest =>
      cases rest with
      | nil =>
        have hLn : (([115, 116, 101, 112] : Bs) :: a :: b :: [] : List Bs).length = 3 := rfl
        rw [hLn] at hlc ⊢
        clear hLn
        have c0 := hcell 0 (by simp)
        simp only [Nat.add_zero, List.getElem_cons_zero] at c0
        have c1 := hcell 1 (by simp)
        simp only [List.getElem_cons_succ, List.getElem_cons_zero] at c1
        have c2 := hcell 2 (by simp)
        simp only [List.getElem_cons_succ, List.getElem_cons_zero] at c2
        have HPP : Hid (parseL s = match numL a, numL b with | some t, some n => some { ActL.zero with kind := 2, thread := t, n := n } | _, _ => none) := Lib.hid (by rw [HP.out]; exact read_step _ rfl _)
        have HLA := Lib.hid (And.intro (HWL.out a (by simp)).2 (HWL.out b (by simp)).2)
        clear hcell HWL
        go_wp2_with fail
        refine (refNumber_any a HLA.out.1 _).mono ?_
        rintro e w' ⟨rfl, rfl⟩
        go_wp2_with fail
        refine (refNumber_any b HLA.out.2 _).mono ?_
        rintro e w' ⟨rfl, rfl⟩
        unfold numW numOk
        cases hna : numL a with
        | none =>
          have HNO : Hid (parseL s = none) := Lib.hid (by rw [HPP.out, hna])
          clear hna
          obtain ⟨k0, k1, k2, k3, k4, k5, k6, k7, ⟨u8, k8, -⟩, ⟨u9, k9, -⟩, kf, -⟩ := H1.out.1
          go_wp2_with fail
          exact refparse_fin H1.out.1 H1.out.2 HB.out (ActL.zero) none 0 0 none 0 0 ⟨SliceB.nil _, Off.nil _⟩ ⟨SliceM.nil _, Off.nil _⟩ _ (by rw [HNO.out]; rfl) (fun c hc => absurd (HNO.out.symm.trans hc) (by simp)) _ rfl rfl
        | some t =>
          cases hnb : numL b with
          | none =>
            have HNO : Hid (parseL s = none) := Lib.hid (by rw [HPP.out, hna, hnb])
            clear hna hnb
            obtain ⟨k0, k1, k2, k3, k4, k5, k6, k7, ⟨u8, k8, -⟩, ⟨u9, k9, -⟩, kf, -⟩ := H1.out.1
            go_wp2_with fail
            exact refparse_fin H1.out.1 H1.out.2 HB.out (ActL.zero) none 0 0 none 0 0 ⟨SliceB.nil _, Off.nil _⟩ ⟨SliceM.nil _, Off.nil _⟩ _ (by rw [HNO.out]; rfl) (fun c hc => absurd (HNO.out.symm.trans hc) (by simp)) _ rfl rfl
          | some m =>
            have HYES : Hid (parseL s = some { ActL.zero with kind := 2, thread := t, n := m }) := Lib.hid (by rw [HPP.out, hna, hnb])
            clear hna hnb
            obtain ⟨k0, k1, k2, k3, k4, k5, k6, k7, ⟨u8, k8, -⟩, ⟨u9, k9, -⟩, kf, -⟩ := H1.out.1
            simp only [Option.getD_some, Option.isSome_some]
            go_wp2_with fail
            exact refparse_fin H1.out.1 H1.out.2 HB.out ({ ActL.zero with kind := 2, thread := t, n := m }) none 0 0 none 0 0 ⟨SliceB.nil _, Off.nil _⟩ ⟨SliceM.nil _, Off.nil _⟩ _ (by rw [HYES.out]; rfl) (fun c hc => Option.some.inj (HYES.out.symm.trans hc)) _ rfl rfl
      | cons c r =>
        obtain ⟨n, hn⟩ : ∃ n, r.length = n := ⟨_, rfl⟩
        have hLn : (([115, 116, 101, 112] : Bs) :: a :: b :: c :: r).length = n + 4 := by simp [hn]
        rw [hLn] at hlc ⊢
        have n1 : ((n : Int) + 4 != 2) = true := by simp; omega
        have n2 : ((n : Int) + 4 == 2) = false := by simp; omega
        have n3 : ((n : Int) + 4 == 3) = false := by simp; omega
        have n4 : (2 : Int) < (n : Int) + 4 := by omega
        have n5 : 2 < n + 4 := by omega
        have c0 := hcell 0 (by simp)
        simp only [Nat.add_zero, List.getElem_cons_zero] at c0
        have c1 := hcell 1 (by simp)
        simp only [List.getElem_cons_succ, List.getElem_cons_zero] at c1
        have c2 := hcell 2 (by simp)
        simp only [List.getElem_cons_succ, List.getElem_cons_zero] at c2
        have HNO : Hid (parseL s = none) := Lib.hid (by rw [HP.out, read_step _ rfl _])
        clear hcell HWL
        obtain ⟨k0, k1, k2, k3, k4, k5, k6, k7, ⟨u8, k8, -⟩, ⟨u9, k9, -⟩, kf, -⟩ := H1.out.1
        go_wp2_with fail
        exact refparse_fin H1.out.1 H1.out.2 HB.out (ActL.zero) none 0 0 none 0 0 ⟨SliceB.nil _, Off.nil _⟩ ⟨SliceM.nil _, Off.nil _⟩ _ (by rw [HNO.out]; rfl) (fun c hc => absurd (HNO.out.symm.trans hc) (by simp)) _ rfl rfl

set_option maxRecDepth 100000 in
set_option maxHeartbeats 6400000 in
theorem refParse_crash (s : Bs) (hs : s.length ≤ 100000) (w : World) (x0 : Bs) (rest : List Bs) (hx : wordsL 32 s = x0 :: rest) (hx0 : x0 = [99, 114, 97, 115, 104]) : Calls Tryz.prog 18 #[.string ⟨s.toArray⟩] w (RefParsePost s w) := by
  obtain ⟨d, hd⟩ : ∃ d, w.heap.size = d := ⟨_, rfl⟩
  have A0 := zero_act w (fun k => k < d + 1) (by show w.heap.size < d + 1; omega)
  have HB := Lib.hid hd
  rw [hd] at A0
  have HA0 := Lib.hid A0
  clear A0
  go_enter Tryz.func18, Tryz.ntmps18
  go_wp2_with fail
  refine (refWords_any s hs _).mono ?_
  rintro e w1 ⟨v, rfl, hwv, n1⟩
  have H1 := Lib.hid (And.intro (HA0.out.newer n1) ((Newer.alloc w _).trans n1))
  clear n1 HA0 hd
  subst hx0
  have hpp : parseL s = readL (wordsL 32 s) := rfl
  rw [hx] at hpp
  have HP := Lib.hid hpp
  clear hpp
  have HWL : Hid (∀ x ∈ rest, (32 : UInt8) ∉ x ∧ x.length ≤ 100000) := Lib.hid (fun x hm => ⟨words_free 32 s x (by rw [hx]; exact List.mem_cons_of_mem _ hm), Nat.le_trans (words_len 32 s x (by rw [hx]; exact List.mem_cons_of_mem _ hm)) hs⟩)
  have HCNT : Hid (rest.length + 1 ≤ 100001) := Lib.hid (by have := words_cnt 32 s; rw [hx] at this; simp at this; omega)
  rw [hx] at hwv
  obtain ⟨g, o, cap, rfl, hlc, hcm, hcell⟩ := hwv
  have HCAP := Lib.hid hcm
  clear hx hcm
  cases rest with
  | nil =>
    have hLn : (([99, 114, 97, 115, 104] : Bs) :: [] : List Bs).length = 1 := rfl
    rw [hLn] at hlc ⊢
    clear hLn
    have c0 := hcell 0 (by simp)
    simp only [Nat.add_zero, List.getElem_cons_zero] at c0
    have HNO : Hid (parseL s = none) := Lib.hid (by rw [HP.out, read_crash _ rfl _])
    clear hcell HWL
    obtain ⟨k0, k1, k2, k3, k4, k5, k6, k7, ⟨u8, k8, -⟩, ⟨u9, k9, -⟩, kf, -⟩ := H1.out.1
    go_wp2_with fail
    exact refparse_fin H1.out.1 H1.out.2 HB.out (ActL.zero) none 0 0 none 0 0 ⟨SliceB.nil _, Off.nil _⟩ ⟨SliceM.nil _, Off.nil _⟩ _ (by rw [HNO.out]; rfl) (fun c hc => absurd (HNO.out.symm.trans hc) (by simp)) _ rfl rfl
  | cons a rest =>
    cases rest with
    | nil =>
      have hLn : (([99, 114, 97, 115, 104] : Bs) :: a :: [] : List Bs).length = 2 := rfl
      rw [hLn] at hlc ⊢
      clear hLn
      have c0 := hcell 0 (by simp)
      simp only [Nat.add_zero, List.getElem_cons_zero] at c0
      have c1 := hcell 1 (by simp)
      simp only [List.getElem_cons_succ, List.getElem_cons_zero] at c1
      have HPP : Hid (parseL s = (marksL a).map fun m => { ActL.zero with kind := 4, marks := m }) := Lib.hid (by rw [HP.out]; exact read_crash _ rfl _)
      have HLA := Lib.hid (HWL.out a (by simp)).2
      clear hcell HWL
      go_wp2_with fail
      refine (refMarksR_any a HLA.out _).mono ?_
      rintro e w2 ⟨v, rfl, hv, n2⟩
      have H2 := Lib.hid (And.intro (H1.out.1.newer n2) (H1.out.2.trans n2))
      have hz2 := n2.size
      cases hna : marksL a with
      | none =>
        have HNO : Hid (parseL s = none) := Lib.hid (by rw [HPP.out, hna]; rfl)
        clear hna hv n2
        obtain ⟨k0, k1, k2, k3, k4, k5, k6, k7, ⟨u8, k8, -⟩, ⟨u9, k9, -⟩, kf, -⟩ := H2.out.1
        simp only [Option.isSome_none]
        go_wp2_with fail
        exact refparse_fin H2.out.1 H2.out.2 HB.out (ActL.zero) none 0 0 none 0 0 ⟨SliceB.nil _, Off.nil _⟩ ⟨SliceM.nil _, Off.nil _⟩ _ (by rw [HNO.out]; rfl) (fun c hc => absurd (HNO.out.symm.trans hc) (by simp)) _ rfl rfl
      | some m =>
        have HYES : Hid (parseL s = some { ActL.zero with kind := 4, marks := m }) := Lib.hid (by rw [HPP.out, hna]; rfl)
        obtain ⟨hv1, hv2⟩ := hv m hna
        obtain ⟨p9, m9, e9, -⟩ := id hv1
        obtain ⟨n9, hn9⟩ : ∃ n, m.length = n := ⟨_, rfl⟩
        rw [hn9] at e9
        subst e9
        have HV := Lib.hid (And.intro hv1 (hv2.sub (K' := fun k => k < d + 1) (fun k hk => by have := H1.out.1.lt; omega)))
        clear hna hv n2 hv1 hv2 hn9
        obtain ⟨k0, k1, k2, k3, k4, k5, k6, k7, ⟨u8, k8, -⟩, ⟨u9, k9, -⟩, kf, -⟩ := H2.out.1
        simp only [Option.isSome_some]
        go_wp2_with fail
        exact refparse_fin H2.out.1 H2.out.2 HB.out ({ ActL.zero with kind := 4, marks := m }) none 0 0 p9 n9 m9 ⟨SliceB.nil _, Off.nil _⟩ HV.out _ (by rw [HYES.out]; rfl) (fun c hc => Option.some.inj (HYES.out.symm.trans hc)) _ rfl rfl
    | cons b rest =>
      cases rest with
      | nil =>
        have hLn : (([99, 114, 97, 115, 104] : Bs) :: a :: b :: [] : List Bs).length = 3 := rfl
        rw [hLn] at hlc ⊢
        clear hLn
        have c0 := hcell 0 (by simp)
        simp only [Nat.add_zero, List.getElem_cons_zero] at c0
        have c1 := hcell 1 (by simp)
        simp only [List.getElem_cons_succ, List.getElem_cons_zero] at c1
        have c2 := hcell 2 (by simp)
        simp only [List.getElem_cons_succ, List.getElem_cons_zero] at c2
        have HNO : Hid (parseL s = none) := Lib.hid (by rw [HP.out, read_crash _ rfl _])
        clear hcell HWL
        obtain ⟨k0, k1, k2, k3, k4, k5, k6, k7, ⟨u8, k8, -⟩, ⟨u9, k9, -⟩, kf, -⟩ := H1.out.1
        go_wp2_with fail
        exact refparse_fin H1.out.1 H1.out.2 HB.out (ActL.zero) none 0 0 none 0 0 ⟨SliceB.nil _, Off.nil _⟩ ⟨SliceM.nil _, Off.nil _⟩ _ (by rw [HNO.out]; rfl) (fun c hc => absurd (HNO.out.symm.trans hc) (by simp)) _ rfl rfl
      | cons c r =>
        obtain ⟨n, hn⟩ : ∃ n, r.length = n := ⟨_, rfl⟩
        have hLn : (([99, 114, 97, 115, 104] : Bs) :: a :: b :: c :: r).length = n + 4 := by simp [hn]
        rw [hLn] at hlc ⊢
        have n1 : ((n : Int) + 4 != 2) = true := by simp; omega
        have n2 : ((n : Int) + 4 == 2) = false := by simp; omega
        have n3 : ((n : Int) + 4 == 3) = false := by simp; omega
        have n4 : (2 : Int) < (n : Int) + 4 := by omega
        have n5 : 2 < n + 4 := by omega
        have c0 := hcell 0 (by simp)
        simp only [Nat.add_zero, List.getElem_cons_zero] at c0
        have c1 := hcell 1 (by simp)
        simp only [List.getElem_cons_succ, List.getElem_cons_zero] at c1
        have c2 := hcell 2 (by simp)
        simp only [List.getElem_cons_succ, List.getElem_cons_zero] at c2
        have HNO : Hid (parseL s = none) := Lib.hid (by rw [HP.out, read_crash _ rfl _])
        clear hcell HWL
        obtain ⟨k0, k1, k2, k3, k4, k5, k6, k7, ⟨u8, k8, -⟩, ⟨u9, k9, -⟩, kf, -⟩ := H1.out.1
        go_wp2_with fail
        exact refparse_fin H1.out.1 H1.out.2 HB.out (ActL.zero) none 0 0 none 0 0 ⟨SliceB.nil _, Off.nil _⟩ ⟨SliceM.nil _, Off.nil _⟩ _ (by rw [HNO.out]; rfl) (fun c hc => absurd (HNO.out.symm.trans hc) (by simp)) _ rfl rfl

set_option maxRecDepth 100000 in
set_option maxHeartbeats 6400000 in
theorem refParse_evict (s : Bs) (hs : s.length ≤ 100000) (w : World) (x0 : Bs) (rest : List Bs) (hx : wordsL 32 s = x0 :: rest) (hx0 : x0 = [101, 118, 105, 99, 116]) : Calls Tryz.prog 18 #[.string ⟨s.toArray⟩] w (RefParsePost s w) := by
  obtain ⟨d, hd⟩ : ∃ d, w.heap.size = d := ⟨_, rfl⟩
  have A0 := zero_act w (fun k => k < d + 1) (by show w.heap.size < d + 1; omega)
  have HB := Lib.hid hd
  rw [hd] at A0
  have HA0 := Lib.hid A0
  clear A0
  go_enter Tryz.func18, Tryz.ntmps18
  go_wp2_with fail
  refine (refWords_any s hs _).mono ?_
  rintro e w1 ⟨v, rfl, hwv, n1⟩
  have H1 := Lib.hid (And.intro (HA0.out.newer n1) ((Newer.alloc w _).trans n1))
  clear n1 HA0 hd
  subst hx0
  have hpp : parseL s = readL (wordsL 32 s) := rfl
  rw [hx] at hpp
  have HP := Lib.hid hpp
  clear hpp
  have HWL : Hid (∀ x ∈ rest, (32 : UInt8) ∉ x ∧ x.length ≤ 100000) := Lib.hid (fun x hm => ⟨words_free 32 s x (by rw [hx]; exact List.mem_cons_of_mem _ hm), Nat.le_trans (words_len 32 s x (by rw [hx]; exact List.mem_cons_of_mem _ hm)) hs⟩)
  have HCNT : Hid (rest.length + 1 ≤ 100001) := Lib.hid (by have := words_cnt 32 s; rw [hx] at this; simp at this; omega)
  rw [hx] at hwv
  obtain ⟨g, o, cap, rfl, hlc, hcm, hcell⟩ := hwv
  have HCAP := Lib.hid hcm
  clear hx hcm
  cases rest with
  | nil =>
    have hLn : (([101, 118, 105, 99, 116] : Bs) :: [] : List Bs).length = 1 := rfl
    rw [hLn] at hlc ⊢
    clear hLn
    have c0 := hcell 0 (by simp)
    simp only [Nat.add_zero, List.getElem_cons_zero] at c0
    have HNO : Hid (parseL s = none) := Lib.hid (by rw [HP.out, read_num _ 3 (by decide) rfl (by decide) _])
    clear hcell HWL
    obtain ⟨k0, k1, k2, k3, k4, k5, k6, k7, ⟨u8, k8, -⟩, ⟨u9, k9, -⟩, kf, -⟩ := H1.out.1
    go_wp2_with fail
    exact refparse_fin H1.out.1 H1.out.2 HB.out (ActL.zero) none 0 0 none 0 0 ⟨SliceB.nil _, Off.nil _⟩ ⟨SliceM.nil _, Off.nil _⟩ _ (by rw [HNO.out]; rfl) (fun c hc => absurd (HNO.out.symm.trans hc) (by simp)) _ rfl rfl
  | cons a rest =>
    cases rest with
    | nil =>
      have hLn : (([101, 118, 105, 99, 116] : Bs) :: a :: [] : List Bs).length = 2 := rfl
      rw [hLn] at hlc ⊢
      clear hLn
      have c0 := hcell 0 (by simp)
      simp only [Nat.add_zero, List.getElem_cons_zero] at c0
      have c1 := hcell 1 (by simp)
      simp only [List.getElem_cons_succ, List.getElem_cons_zero] at c1
      have HPP : Hid (parseL s = (numL a).map fun m => { ActL.zero with kind := 3, n := m }) := Lib.hid (by rw [HP.out]; exact read_num _ 3 (by decide) rfl (by decide) _)
      have HLA := Lib.hid (HWL.out a (by simp)).2
      clear hcell HWL
      go_wp2_with fail
      refine (refNumber_any a HLA.out _).mono ?_
      rintro e w' ⟨rfl, rfl⟩
      unfold numW numOk
      cases hna : numL a with
      | none =>
        have HNO : Hid (parseL s = none) := Lib.hid (by rw [HPP.out, hna]; rfl)
        clear hna
        obtain ⟨k0, k1, k2, k3, k4, k5, k6, k7, ⟨u8, k8, -⟩, ⟨u9, k9, -⟩, kf, -⟩ := H1.out.1
        go_wp2_with fail
        exact refparse_fin H1.out.1 H1.out.2 HB.out (ActL.zero) none 0 0 none 0 0 ⟨SliceB.nil _, Off.nil _⟩ ⟨SliceM.nil _, Off.nil _⟩ _ (by rw [HNO.out]; rfl) (fun c hc => absurd (HNO.out.symm.trans hc) (by simp)) _ rfl rfl
      | some m =>
        have HYES : Hid (parseL s = some { ActL.zero with kind := 3, n := m }) := Lib.hid (by rw [HPP.out, hna]; rfl)
        clear hna
        obtain ⟨k0, k1, k2, k3, k4, k5, k6, k7, ⟨u8, k8, -⟩, ⟨u9, k9, -⟩, kf, -⟩ := H1.out.1
        simp only [Option.getD_some, Option.isSome_some]
        go_wp2_with fail
        exact refparse_fin H1.out.1 H1.out.2 HB.out ({ ActL.zero with kind := 3, n := m }) none 0 0 none 0 0 ⟨SliceB.nil _, Off.nil _⟩ ⟨SliceM.nil _, Off.nil _⟩ _ (by rw [HYES.out]; rfl) (fun c hc => Option.some.inj (HYES.out.symm.trans hc)) _ rfl rfl
    | cons b rest =>
      cases rest with
      | nil =>
        have hLn : (([101, 118, 105, 99, 116] : Bs) :: a :: b :: [] : List Bs).length = 3 := rfl
        rw [hLn] at hlc ⊢
        clear hLn
        have c0 := hcell 0 (by simp)
        simp only [Nat.add_zero, List.getElem_cons_zero] at c0
        have c1 := hcell 1 (by simp)
        simp only [List.getElem_cons_succ, List.getElem_cons_zero] at c1
        have c2 := hcell 2 (by simp)
        simp only [List.getElem_cons_succ, List.getElem_cons_zero] at c2
        have HNO : Hid (parseL s = none) := Lib.hid (by rw [HP.out, read_num _ 3 (by decide) rfl (by decide) _])
        clear hcell HWL
        obtain ⟨k0, k1, k2, k3, k4, k5, k6, k7, ⟨u8, k8, -⟩, ⟨u9, k9, -⟩, kf, -⟩ := H1.out.1
        go_wp2_with fail
        exact refparse_fin H1.out.1 H1.out.2 HB.out (ActL.zero) none 0 0 none 0 0 ⟨SliceB.nil _, Off.nil _⟩ ⟨SliceM.nil _, Off.nil _⟩ _ (by rw [HNO.out]; rfl) (fun c hc => absurd (HNO.out.symm.trans hc) (by simp)) _ rfl rfl
      | cons c r =>
        obtain ⟨n, hn⟩ : ∃ n, r.length = n := ⟨_, rfl⟩
        have hLn : (([101, 118, 105, 99, 116] : Bs) :: a :: b :: c :: r).length = n + 4 := by simp [hn]
        rw [hLn] at hlc ⊢
        have n1 : ((n : Int) + 4 != 2) = true := by simp; omega
        have n2 : ((n : Int) + 4 == 2) = false := by simp; omega
        have n3 : ((n : Int) + 4 == 3) = false := by simp; omega
        have n4 : (2 : Int) < (n : Int) + 4 := by omega
        have n5 : 2 < n + 4 := by omega
        have c0 := hcell 0 (by simp)
        simp only [Nat.add_zero, List.getElem_cons_zero] at c0
        have c1 := hcell 1 (by simp)
        simp only [List.getElem_cons_succ, List.getElem_cons_zero] at c1
        have c2 := hcell 2 (by simp)
        simp only [List.getElem_cons_succ, List.getElem_cons_zero] at c2
        have HNO : Hid (parseL s = none) := Lib.hid (by rw [HP.out, read_num _ 3 (by decide) rfl (by decide) _])
        clear hcell HWL
        obtain ⟨k0, k1, k2, k3, k4, k5, k6, k7, ⟨u8, k8, -⟩, ⟨u9, k9, -⟩, kf, -⟩ := H1.out.1
        go_wp2_with fail
        exact refparse_fin H1.out.1 H1.out.2 HB.out (ActL.zero) none 0 0 none 0 0 ⟨SliceB.nil _, Off.nil _⟩ ⟨SliceM.nil _, Off.nil _⟩ _ (by rw [HNO.out]; rfl) (fun c hc => absurd (HNO.out.symm.trans hc) (by simp)) _ rfl rfl

set_option maxRecDepth 100000 in
set_option maxHeartbeats 6400000 in
theorem refParse_recover (s : Bs) (hs : s.length ≤ 100000) (w : World) (x0 : Bs) (rest : List Bs) (hx : wordsL 32 s = x0 :: rest) (hx0 : x0 = [114, 101, 99, 111, 118, 101, 114]) : Calls Tryz.prog 18 #[.string ⟨s.toArray⟩] w (RefParsePost s w) := by
  obtain ⟨d, hd⟩ : ∃ d, w.heap.size = d := ⟨_, rfl⟩
  have A0 := zero_act w (fun k => k < d + 1) (by show w.heap.size < d + 1; omega)
  have HB := Lib.hid hd
  rw [hd] at A0
  have HA0 := Lib.hid A0
  clear A0
  go_enter Tryz.func18, Tryz.ntmps18
  go_wp2_with fail
  refine (refWords_any s hs _).mono ?_
  rintro e w1 ⟨v, rfl, hwv, n1⟩
  have H1 := Lib.hid (And.intro (HA0.out.newer n1) ((Newer.alloc w _).trans n1))
  clear n1 HA0 hd
  subst hx0
  have hpp : parseL s = readL (wordsL 32 s) := rfl
  rw [hx] at hpp
  have HP := Lib.hid hpp
  clear hpp
  have HWL : Hid (∀ x ∈ rest, (32 : UInt8) ∉ x ∧ x.length ≤ 100000) := Lib.hid (fun x hm => ⟨words_free 32 s x (by rw [hx]; exact List.mem_cons_of_mem _ hm), Nat.le_trans (words_len 32 s x (by rw [hx]; exact List.mem_cons_of_mem _ hm)) hs⟩)
  have HCNT : Hid (rest.length + 1 ≤ 100001) := Lib.hid (by have := words_cnt 32 s; rw [hx] at this; simp at this; omega)
  rw [hx] at hwv
  obtain ⟨g, o, cap, rfl, hlc, hcm, hcell⟩ := hwv
  have HCAP := Lib.hid hcm
  clear hx hcm
  cases rest with
  | nil =>
    have hLn : (([114, 101, 99, 111, 118, 101, 114] : Bs) :: [] : List Bs).length = 1 := rfl
    rw [hLn] at hlc ⊢
    clear hLn
    have c0 := hcell 0 (by simp)
    simp only [Nat.add_zero, List.getElem_cons_zero] at c0
    have HNO : Hid (parseL s = none) := Lib.hid (by rw [HP.out, read_num _ 5 (by decide) rfl (by decide) _])
    clear hcell HWL
    obtain ⟨k0, k1, k2, k3, k4, k5, k6, k7, ⟨u8, k8, -⟩, ⟨u9, k9, -⟩, kf, -⟩ := H1.out.1
    go_wp2_with fail
    exact refparse_fin H1.out.1 H1.out.2 HB.out (ActL.zero) none 0 0 none 0 0 ⟨SliceB.nil _, Off.nil _⟩ ⟨SliceM.nil _, Off.nil _⟩ _ (by rw [HNO.out]; rfl) (fun c hc => absurd (HNO.out.symm.trans hc) (by simp)) _ rfl rfl
  | cons a rest =>
    cases rest with
    | nil =>
      have hLn : (([114, 101, 99, 111, 118, 101, 114] : Bs) :: a :: [] : List Bs).length = 2 := rfl
      rw [hLn] at hlc ⊢
      clear hLn
      have c0 := hcell 0 (by simp)
      simp only [Nat.add_zero, List.getElem_cons_zero] at c0
      have c1 := hcell 1 (by simp)
      simp only [List.getElem_cons_succ, List.getElem_cons_zero] at c1
      have HPP : Hid (parseL s = (numL a).map fun m => { ActL.zero with kind := 5, n := m }) := Lib.hid (by rw [HP.out]; exact read_num _ 5 (by decide) rfl (by decide) _)
      have HLA := Lib.hid (HWL.out a (by simp)).2
      clear hcell HWL
      go_wp2_with fail
      refine (refNumber_any a HLA.out _).mono ?_
      rintro e w' ⟨rfl, rfl⟩
      unfold numW numOk
      cases hna : numL a with
      | none =>
        have HNO : Hid (parseL s = none) := Lib.hid (by rw [HPP.out, hna]; rfl)
        clear hna
        obtain ⟨k0, k1, k2, k3, k4, k5, k6, k7, ⟨u8, k8, -⟩, ⟨u9, k9, -⟩, kf, -⟩ := H1.out.1
        go_wp2_with fail
        exact refparse_fin H1.out.1 H1.out.2 HB.out (ActL.zero) none 0 0 none 0 0 ⟨SliceB.nil _, Off.nil _⟩ ⟨SliceM.nil _, Off.nil _⟩ _ (by rw [HNO.out]; rfl) (fun c hc => absurd (HNO.out.symm.trans hc) (by simp)) _ rfl rfl
      | some m =>
        have HYES : Hid (parseL s = some { ActL.zero with kind := 5, n := m }) := Lib.hid (by rw [HPP.out, hna]; rfl)
        clear hna
        obtain ⟨k0, k1, k2, k3, k4, k5, k6, k7, ⟨u8, k8, -⟩, ⟨u9, k9, -⟩, kf, -⟩ := H1.out.1
        simp only [Option.getD_some, Option.isSome_some]
        go_wp2_with fail
        exact refparse_fin H1.out.1 H1.out.2 HB.out ({ ActL.zero with kind := 5, n := m }) none 0 0 none 0 0 ⟨SliceB.nil _, Off.nil _⟩ ⟨SliceM.nil _, Off.nil _⟩ _ (by rw [HYES.out]; rfl) (fun c hc => Option.some.inj (HYES.out.symm.trans hc)) _ rfl rfl
    | cons b rest =>
      cases rest with
      | nil =>
        have hLn : (([114, 101, 99, 111, 118, 101, 114] : Bs) :: a :: b :: [] : List Bs).length = 3 := rfl
        rw [hLn] at hlc ⊢
        clear hLn
        have c0 := hcell 0 (by simp)
        simp only [Nat.add_zero, List.getElem_cons_zero] at c0
        have c1 := hcell 1 (by simp)
        simp only [List.getElem_cons_succ, List.getElem_cons_zero] at c1
        have c2 := hcell 2 (by simp)
        simp only [List.getElem_cons_succ, List.getElem_cons_zero] at c2
        have HNO : Hid (parseL s = none) := Lib.hid (by rw [HP.out, read_num _ 5 (by decide) rfl (by decide) _])
        clear hcell HWL
        obtain ⟨k0, k1, k2, k3, k4, k5, k6, k7, ⟨u8, k8, -⟩, ⟨u9, k9, -⟩, kf, -⟩ := H1.out.1
        go_wp2_with fail
        exact refparse_fin H1.out.1 H1.out.2 HB.out (ActL.zero) none 0 0 none 0 0 ⟨SliceB.nil _, Off.nil _⟩ ⟨SliceM.nil _, Off.nil _⟩ _ (by rw [HNO.out]; rfl) (fun c hc => absurd (HNO.out.symm.trans hc) (by simp)) _ rfl rfl
      | cons c r =>
        obtain ⟨n, hn⟩ : ∃ n, r.length = n := ⟨_, rfl⟩
        have hLn : (([114, 101, 99, 111, 118, 101, 114] : Bs) :: a :: b :: c :: r).length = n + 4 := by simp [hn]
        rw [hLn] at hlc ⊢
        have n1 : ((n : Int) + 4 != 2) = true := by simp; omega
        have n2 : ((n : Int) + 4 == 2) = false := by simp; omega
        have n3 : ((n : Int) + 4 == 3) = false := by simp; omega
        have n4 : (2 : Int) < (n : Int) + 4 := by omega
        have n5 : 2 < n + 4 := by omega
        have c0 := hcell 0 (by simp)
        simp only [Nat.add_zero, List.getElem_cons_zero] at c0
        have c1 := hcell 1 (by simp)
        simp only [List.getElem_cons_succ, List.getElem_cons_zero] at c1
        have c2 := hcell 2 (by simp)
        simp only [List.getElem_cons_succ, List.getElem_cons_zero] at c2
        have HNO : Hid (parseL s = none) := Lib.hid (by rw [HP.out, read_num _ 5 (by decide) rfl (by decide) _])
        clear hcell HWL
        obtain ⟨k0, k1, k2, k3, k4, k5, k6, k7, ⟨u8, k8, -⟩, ⟨u9, k9, -⟩, kf, -⟩ := H1.out.1
        go_wp2_with fail
        exact refparse_fin H1.out.1 H1.out.2 HB.out (ActL.zero) none 0 0 none 0 0 ⟨SliceB.nil _, Off.nil _⟩ ⟨SliceM.nil _, Off.nil _⟩ _ (by rw [HNO.out]; rfl) (fun c hc => absurd (HNO.out.symm.trans hc) (by simp)) _ rfl rfl

set_option maxRecDepth 100000 in
set_option maxHeartbeats 6400000 in
theorem refParse_other (s : Bs) (hs : s.length ≤ 100000) (w : World) (x0 : Bs) (rest : List Bs) (hx : wordsL 32 s = x0 :: rest) (h1 : x0 ≠ [113, 117, 101, 117, 101]) (h2 : x0 ≠ [115, 116, 101, 112]) (h3 : x0 ≠ [101, 118, 105, 99, 116]) (h4 : x0 ≠ [99, 114, 97, 115, 104]) (h5 : x0 ≠ [114, 101, 99, 111, 118, 101, 114]) : Calls Tryz.prog 18 #[.string ⟨s.toArray⟩] w (RefParsePost s w) := by
  obtain ⟨d, hd⟩ : ∃ d, w.heap.size = d := ⟨_, rfl⟩
  have A0 := zero_act w (fun k => k < d + 1) (by show w.heap.size < d + 1; omega)
  have HB := Lib.hid hd
  rw [hd] at A0
  have HA0 := Lib.hid A0
  clear A0
  go_enter Tryz.func18, Tryz.ntmps18
  go_wp2_with fail
  refine (refWords_any s hs _).mono ?_
  rintro e w1 ⟨v, rfl, hwv, n1⟩
  have H1 := Lib.hid (And.intro (HA0.out.newer n1) ((Newer.alloc w _).trans n1))
  clear n1 HA0 hd
  have hpp : parseL s = readL (wordsL 32 s) := rfl
  rw [hx] at hpp
  have HP := Lib.hid hpp
  clear hpp
  have HWL : Hid (∀ x ∈ rest, (32 : UInt8) ∉ x ∧ x.length ≤ 100000) := Lib.hid (fun x hm => ⟨words_free 32 s x (by rw [hx]; exact List.mem_cons_of_mem _ hm), Nat.le_trans (words_len 32 s x (by rw [hx]; exact List.mem_cons_of_mem _ hm)) hs⟩)
  have HCNT : Hid (rest.length + 1 ≤ 100001) := Lib.hid (by have := words_cnt 32 s; rw [hx] at this; simp at this; omega)
  rw [hx] at hwv
  obtain ⟨g, o, cap, rfl, hlc, hcm, hcell⟩ := hwv
  have HCAP := Lib.hid hcm
  clear hx hcm
  cases rest with
  | nil =>
    have hLn : (x0 :: [] : List Bs).length = 1 := rfl
    rw [hLn] at hlc ⊢
    clear hLn
    have c0 := hcell 0 (by simp)
    simp only [Nat.add_zero, List.getElem_cons_zero] at c0
    have HNO : Hid (parseL s = none) := Lib.hid (by rw [HP.out, read_other _ _ h1 h2 h3 h4 h5])
    have q1 : (x0 == [113, 117, 101, 117, 101]) = false := by simpa using h1
    have q2 : (x0 == [115, 116, 101, 112]) = false := by simpa using h2
    have q3 : (x0 == [101, 118, 105, 99, 116]) = false := by simpa using h3
    have q4 : (x0 == [99, 114, 97, 115, 104]) = false := by simpa using h4
    have q5 : (x0 == [114, 101, 99, 111, 118, 101, 114]) = false := by simpa using h5
    clear h1 h2 h3 h4 h5
    clear hcell HWL
    obtain ⟨k0, k1, k2, k3, k4, k5, k6, k7, ⟨u8, k8, -⟩, ⟨u9, k9, -⟩, kf, -⟩ := H1.out.1
    go_wp2_with fail
    exact refparse_fin H1.out.1 H1.out.2 HB.out (ActL.zero) none 0 0 none 0 0 ⟨SliceB.nil _, Off.nil _⟩ ⟨SliceM.nil _, Off.nil _⟩ _ (by rw [HNO.out]; rfl) (fun c hc => absurd (HNO.out.symm.trans hc) (by simp)) _ rfl rfl
  | cons a rest =>
    cases rest with
    | nil =>
      have hLn : (x0 :: a :: [] : List Bs).length = 2 := rfl
      rw [hLn] at hlc ⊢
      clear hLn
      have c0 := hcell 0 (by simp)
      simp only [Nat.add_zero, List.getElem_cons_zero] at c0
      have c1 := hcell 1 (by simp)
      simp only [List.getElem_cons_succ, List.getElem_cons_zero] at c1
      have HNO : Hid (parseL s = none) := Lib.hid (by rw [HP.out, read_other _ _ h1 h2 h3 h4 h5])
      have q1 : (x0 == [113, 117, 101, 117, 101]) = false := by simpa using h1
      have q2 : (x0 == [115, 116, 101, 112]) = false := by simpa using h2
      have q3 : (x0 == [101, 118, 105, 99, 116]) = false := by simpa using h3
      have q4 : (x0 == [99, 114, 97, 115, 104]) = false := by simpa using h4
      have q5 : (x0 == [114, 101, 99, 111, 118, 101, 114]) = false := by simpa using h5
      clear h1 h2 h3 h4 h5
      clear hcell HWL
      obtain ⟨k0, k1, k2, k3, k4, k5, k6, k7, ⟨u8, k8, -⟩, ⟨u9, k9, -⟩, kf, -⟩ := H1.out.1
      go_wp2_with fail
      exact refparse_fin H1.out.1 H1.out.2 HB.out (ActL.zero) none 0 0 none 0 0 ⟨SliceB.nil _, Off.nil _⟩ ⟨SliceM.nil _, Off.nil _⟩ _ (by rw [HNO.out]; rfl) (fun c hc => absurd (HNO.out.symm.trans hc) (by simp)) _ rfl rfl
    | cons b rest =>
      cases rest with
      | nil =>
        have hLn : (x0 :: a :: b :: [] : List Bs).length = 3 := rfl
        rw [hLn] at hlc ⊢
        clear hLn
        have c0 := hcell 0 (by simp)
        simp only [Nat.add_zero, List.getElem_cons_zero] at c0
        have c1 := hcell 1 (by simp)
        simp only [List.getElem_cons_succ, List.getElem_cons_zero] at c1
        have c2 := hcell 2 (by simp)
        simp only [List.getElem_cons_succ, List.getElem_cons_zero] at c2
        have HNO : Hid (parseL s = none) := Lib.hid (by rw [HP.out, read_other _ _ h1 h2 h3 h4 h5])
        have q1 : (x0 == [113, 117, 101, 117, 101]) = false := by simpa using h1
        have q2 : (x0 == [115, 116, 101, 112]) = false := by simpa using h2
        have q3 : (x0 == [101, 118, 105, 99, 116]) = false := by simpa using h3
        have q4 : (x0 == [99, 114, 97, 115, 104]) = false := by simpa using h4
        have q5 : (x0 == [114, 101, 99, 111, 118, 101, 114]) = false := by simpa using h5
        clear h1 h2 h3 h4 h5
        clear hcell HWL
        obtain ⟨k0, k1, k2, k3, k4, k5, k6, k7, ⟨u8, k8, -⟩, ⟨u9, k9, -⟩, kf, -⟩ := H1.out.1
        go_wp2_with fail
        exact refparse_fin H1.out.1 H1.out.2 HB.out (ActL.zero) none 0 0 none 0 0 ⟨SliceB.nil _, Off.nil _⟩ ⟨SliceM.nil _, Off.nil _⟩ _ (by rw [HNO.out]; rfl) (fun c hc => absurd (HNO.out.symm.trans hc) (by simp)) _ rfl rfl
      | cons c r =>
        obtain ⟨n, hn⟩ : ∃ n, r.length = n := ⟨_, rfl⟩
        have hLn : (x0 :: a :: b :: c :: r : List Bs).length = n + 4 := by simp [hn]
        rw [hLn] at hlc ⊢
        have n1 : ((n : Int) + 4 != 2) = true := by simp; omega
        have n2 : ((n : Int) + 4 == 2) = false := by simp; omega
        have n3 : ((n : Int) + 4 == 3) = false := by simp; omega
        have n4 : (2 : Int) < (n : Int) + 4 := by omega
        have n5 : 2 < n + 4 := by omega
        have c0 := hcell 0 (by simp)
        simp only [Nat.add_zero, List.getElem_cons_zero] at c0
        have c1 := hcell 1 (by simp)
        simp only [List.getElem_cons_succ, List.getElem_cons_zero] at c1
        have c2 := hcell 2 (by simp)
        simp only [List.getElem_cons_succ, List.getElem_cons_zero] at c2
        have HNO : Hid (parseL s = none) := Lib.hid (by rw [HP.out, read_other _ _ h1 h2 h3 h4 h5])
        have q1 : (x0 == [113, 117, 101, 117, 101]) = false := by simpa using h1
        have q2 : (x0 == [115, 116, 101, 112]) = false := by simpa using h2
        have q3 : (x0 == [101, 118, 105, 99, 116]) = false := by simpa using h3
        have q4 : (x0 == [99, 114, 97, 115, 104]) = false := by simpa using h4
        have q5 : (x0 == [114, 101, 99, 111, 118, 101, 114]) = false := by simpa using h5
        clear h1 h2 h3 h4 h5
        clear hcell HWL
        obtain ⟨k0, k1, k2, k3, k4, k5, k6, k7, ⟨u8, k8, -⟩, ⟨u9, k9, -⟩, kf, -⟩ := H1.out.1
        go_wp2_with fail
        exact refparse_fin H1.out.1 H1.out.2 HB.out (ActL.zero) none 0 0 none 0 0 ⟨SliceB.nil _, Off.nil _⟩ ⟨SliceM.nil _, Off.nil _⟩ _ (by rw [HNO.out]; rfl) (fun c hc => absurd (HNO.out.symm.trans hc) (by simp)) _ rfl rfl

theorem refParse_any (s : Bs) (hs : s.length ≤ 100000) (w : World) : Calls Tryz.prog 18 #[.string ⟨s.toArray⟩] w (RefParsePost s w) := by
  obtain ⟨x0, rest, hx⟩ := words_some 32 s
  by_cases h1 : x0 = [113, 117, 101, 117, 101]
  · exact refParse_queue s hs w x0 rest hx h1
  by_cases h2 : x0 = [115, 116, 101, 112]
  · exact refParse_step s hs w x0 rest hx h2
  by_cases h3 : x0 = [101, 118, 105, 99, 116]
  · exact refParse_evict s hs w x0 rest hx h3
  by_cases h4 : x0 = [99, 114, 97, 115, 104]
  · exact refParse_crash s hs w x0 rest hx h4
  by_cases h5 : x0 = [114, 101, 99, 111, 118, 101, 114]
  · exact refParse_recover s hs w x0 rest hx h5
  exact refParse_other s hs w x0 rest hx h1 h2 h3 h4 h5

end Go.Proofs.YtgdaaafejfjilaaGreatDoor
