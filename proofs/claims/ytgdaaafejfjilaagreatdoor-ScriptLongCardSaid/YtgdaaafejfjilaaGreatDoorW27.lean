/- contracts of the reference's SameOp -/
import Derived.Test.YtgdaaafejfjilaaGreatDoorW26
import Derived.Test.YtgdaaafejfjilaaGreatDoorW18
import Derived.Laws.BytesArg
namespace Go.Proofs.YtgdaaafejfjilaaGreatDoor
open Go.RowKit
attribute [local go_sem] Oper.semAt_some undef

def sameOpL (a b : ActL) : Bool := decide (a.okind = b.okind ∧ a.path = b.path ∧ a.dest = b.dest ∧ a.at_ = b.at_ ∧ a.on = b.on ∧ a.bytes = b.bytes)
theorem sameOp_yes {a b : ActL} (h : a.okind = b.okind ∧ a.path = b.path ∧ a.dest = b.dest ∧ a.at_ = b.at_ ∧ a.on = b.on ∧ a.bytes = b.bytes) : sameOpL a b = true := decide_eq_true h
theorem sameOp_no {a b : ActL} (h : ¬ (a.okind = b.okind ∧ a.path = b.path ∧ a.dest = b.dest ∧ a.at_ = b.at_ ∧ a.on = b.on ∧ a.bytes = b.bytes)) : sameOpL a b = false := decide_eq_false h

theorem conv_sliceB {w : World} {p : Option Addr} {n m : Nat} {l : Bs} (h : SliceB w (.slice p n m) l) : (convert 24 9 (.slice p n m)).run Tryz.prog w = .ok (.string ⟨l.toArray⟩) w := by
  obtain ⟨p', m', e, hc⟩ := h
  simp only [Value.slice.injEq] at e
  obtain ⟨rfl, rfl, rfl⟩ := e
  cases p with
  | none =>
    have h0 : l.length = 0 := by
      rcases Nat.eq_zero_or_pos l.length with h | h
      · exact h
      · obtain ⟨A, hA, _⟩ := hc 0 h; cases hA
    have hl : l = [] := List.length_eq_zero_iff.1 h0
    subst hl
    exact run_convert_bytes_nil w 24 5 Tryz.underlying24 Tryz.underlying5 0 m 9 Tryz.underlying9
  | some A =>
    have := run_convert_bytes_back w 24 9 5 A m l Tryz.underlying24 Tryz.underlying5 Tryz.underlying9 (fun j hj => by
      obtain ⟨A', hA, hcell⟩ := hc j hj
      simp only [Option.some.injEq] at hA
      subst hA
      exact hcell)
    exact this

set_option maxRecDepth 100000 in
set_option maxHeartbeats 3200000 in
theorem refSameOp_any (a b : ActL) (p8 q8 : Option Addr) (n8 m8 k8 l8 : Nat) (w : World) (ha : SliceB w (.slice p8 n8 m8) a.bytes) (hb : SliceB w (.slice q8 k8 l8) b.bytes) :
    Calls Tryz.prog 32 #[opV a (.slice p8 n8 m8), opV b (.slice q8 k8 l8)] w fun e w' => e = .returned (.bool (sameOpL a b)) ∧ Newer w w' := by
  obtain ⟨ka, ta, na, oa, pa, da, xa, ga, ya, ma⟩ := a
  obtain ⟨kb, tb, nb, ob, pb, db, xb, gb, yb, mb⟩ := b
  unfold opV
  simp only at ha hb ⊢
  have NW : Hid (Newer w ((w.alloc (.cells #[.int .i64 oa, .string ⟨pa.toArray⟩, .string ⟨da.toArray⟩, .int .i64 xa, .int .i64 ga, .slice p8 n8 m8] 26)).alloc (.cells #[.int .i64 ob, .string ⟨pb.toArray⟩, .string ⟨db.toArray⟩, .int .i64 xb, .int .i64 gb, .slice q8 k8 l8] 26))) := Lib.hid ((Newer.alloc _ _).trans (Newer.alloc _ _))
  have HCA := Lib.hid (conv_sliceB (ha.newer NW.out))
  have HCB := Lib.hid (conv_sliceB (hb.newer NW.out))
  clear ha hb
  by_cases ho : oa = ob
  · subst ho
    by_cases hp : pa = pb
    · subst hp
      by_cases hd : da = db
      · subst hd
        by_cases hx : xa = xb
        · subst hx
          by_cases hg : ga = gb
          · subst hg
            by_cases hy : ya = yb
            · subst hy
              have cv1 := HCA.out
              have cv2 := HCB.out
              go_enter Tryz.func32, Tryz.ntmps32
              go_wp2
              go_ret
              exact ⟨ret_bool (sameOp_yes ⟨rfl, rfl, rfl, rfl, rfl, rfl⟩).symm, NW.out⟩
            · have fy : (ya == yb) = false := by simpa using hy
              have HF := Lib.hid hy
              clear hy
              have cv1 := HCA.out
              have cv2 := HCB.out
              go_enter Tryz.func32, Tryz.ntmps32
              go_wp2
              go_ret
              exact ⟨ret_bool (sameOp_no (fun e => HF.out e.2.2.2.2.2)).symm, NW.out⟩
          · have fg : (ga == gb) = false := by simpa using hg
            have HF := Lib.hid hg
            clear hg
            go_enter Tryz.func32, Tryz.ntmps32
            go_wp2
            go_ret
            exact ⟨ret_bool (sameOp_no (fun e => HF.out e.2.2.2.2.1)).symm, NW.out⟩
        · have fx : (xa == xb) = false := by simpa using hx
          have HF := Lib.hid hx
          clear hx
          go_enter Tryz.func32, Tryz.ntmps32
          go_wp2
          go_ret
          exact ⟨ret_bool (sameOp_no (fun e => HF.out e.2.2.2.1)).symm, NW.out⟩
      · have fd : (da == db) = false := by simpa using hd
        have HF := Lib.hid hd
        clear hd
        go_enter Tryz.func32, Tryz.ntmps32
        go_wp2
        go_ret
        exact ⟨ret_bool (sameOp_no (fun e => HF.out e.2.2.1)).symm, NW.out⟩
    · have fp : (pa == pb) = false := by simpa using hp
      have HF := Lib.hid hp
      clear hp
      go_enter Tryz.func32, Tryz.ntmps32
      go_wp2
      go_ret
      exact ⟨ret_bool (sameOp_no (fun e => HF.out e.2.1)).symm, NW.out⟩
  · have fo : (oa == ob) = false := by simpa using ho
    have HF := Lib.hid ho
    clear ho
    go_enter Tryz.func32, Tryz.ntmps32
    go_wp2
    go_ret
    exact ⟨ret_bool (sameOp_no (fun e => HF.out e.1)).symm, NW.out⟩

end Go.Proofs.YtgdaaafejfjilaaGreatDoor

/- contracts of the reference's Same -/
namespace Go.Proofs.YtgdaaafejfjilaaGreatDoor
open Go.RowKit
attribute [local go_sem] Oper.semAt_some undef

theorem sameL_parts (a b : ActL) : sameL a b = (decide (a.kind = b.kind) && (decide (a.thread = b.thread) && (decide (a.n = b.n) && (sameOpL a b && decide (a.marks = b.marks))))) := by
  rw [Bool.eq_iff_iff, sameL_iff]
  simp only [Bool.and_eq_true, decide_eq_true_eq, sameOpL]
  constructor
  · rintro rfl; simp
  · cases a; cases b; simp only; rintro ⟨rfl, rfl, rfl, ⟨rfl, rfl, rfl, rfl, rfl, rfl⟩, rfl⟩; rfl

set_option maxRecDepth 100000 in
set_option maxHeartbeats 3200000 in
theorem refSame_any (a b : ActL) (p8 p9 q8 q9 : Option Addr) (n8 n9 m8 m9 k8 k9 l8 l9 : Nat) (w : World) (ha : SliceB w (.slice p8 n8 m8) a.bytes ∧ SliceM w (.slice p9 n9 m9) a.marks) (hb : SliceB w (.slice q8 k8 l8) b.bytes ∧ SliceM w (.slice q9 k9 l9) b.marks)
    (hla : a.marks.length ≤ 1000000) (hlb : b.marks.length ≤ 1000000) :
    Calls Tryz.prog 16 #[actV a (.slice p8 n8 m8) (.slice p9 n9 m9), actV b (.slice q8 k8 l8) (.slice q9 k9 l9)] w fun e w' => e = .returned (.bool (sameL a b)) ∧ Newer w w' := by
  have HS := Lib.hid (And.intro ha hb)
  have HL := Lib.hid (And.intro hla hlb)
  have HP := Lib.hid (sameL_parts a b)
  obtain ⟨x, hx⟩ : ∃ x, w.heap.size = x := ⟨_, rfl⟩
  obtain ⟨w0, hw0⟩ : ∃ w0, (w.alloc (.cells #[.int .i64 a.kind, .int .i64 a.thread, .int .i64 a.n, .int .i64 a.okind, .string ⟨a.path.toArray⟩, .string ⟨a.dest.toArray⟩, .int .i64 a.at_, .int .i64 a.on, .slice p8 n8 m8, .slice p9 n9 m9] 29)).alloc (.cells #[.int .i64 b.kind, .int .i64 b.thread, .int .i64 b.n, .int .i64 b.okind, .string ⟨b.path.toArray⟩, .string ⟨b.dest.toArray⟩, .int .i64 b.at_, .int .i64 b.on, .slice q8 k8 l8, .slice q9 k9 l9] 29) = w0 := ⟨_, rfl⟩
  have hA : ActC w0 x a (.slice p8 n8 m8) (.slice p9 n9 m9) := by
    subst hw0 hx
    constructor <;> simp [go_sem]
  have hB : ActC w0 (x + 1) b (.slice q8 k8 l8) (.slice q9 k9 l9) := by
    subst hw0 hx
    constructor <;> simp [go_sem]
  have nw : Newer w w0 := hw0 ▸ (Newer.alloc _ _).trans (Newer.alloc _ _)
  have H0 := Lib.hid (And.intro hA (And.intro hB nw))
  have HW := Lib.hid hw0
  have HX := Lib.hid hx
  clear ha hb hla hlb hA hB nw hw0 hx
  unfold actV
  by_cases h1 : a.kind = b.kind
  · by_cases h2 : a.thread = b.thread
    · by_cases h3 : a.n = b.n
      · have f1 : (a.kind != b.kind) = false := by simp [h1]
        have f2 : (a.thread != b.thread) = false := by simp [h2]
        have f3 : (a.n != b.n) = false := by simp [h3]
        have HQ : Hid (sameL a b = (sameOpL a b && decide (a.marks = b.marks))) := Lib.hid (by rw [HP.out, decide_eq_true h1, decide_eq_true h2, decide_eq_true h3]; simp)
        clear h1 h2 h3 HP
        have g1 : (a.kind == b.kind) = true := by simpa using f1
        have g2 : (a.thread == b.thread) = true := by simpa using f2
        have g3 : (a.n == b.n) = true := by simpa using f3
        go_enter Tryz.func16, Tryz.ntmps16
        go_wp2_with fail
        have hw := HW.out
        have hx := HX.out
        rw [hw, hx]
        clear hw hx
        refine (refSameOp_any a b p8 q8 n8 m8 k8 l8 w0 (HS.out.1.1.newer H0.out.2.2) (HS.out.2.1.newer H0.out.2.2)).mono ?_
        rintro e w1 ⟨rfl, n1⟩
        have hxl : x < w0.heap.size := by have := World.block_lt_of_cell? _ _ H0.out.1.c0; simpa using this
        have hxl1 : x + 1 < w0.heap.size := by have := World.block_lt_of_cell? _ _ H0.out.2.1.c0; simpa using this
        have a9 := newer_cell H0.out.1.c9 n1
        have b9 := newer_cell H0.out.2.1.c9 n1
        have HN1 := Lib.hid (H0.out.2.2.trans n1)
        clear n1 g1 g2 g3 f1 f2 f3 hxl hxl1
        cases ho : sameOpL a b with
        | false =>
          have HF : Hid (false = sameL a b) := Lib.hid (by rw [HQ.out, ho]; rfl)
          clear ho
          go_wp2_with fail
          go_ret
          exact ⟨ret_bool HF.out, HN1.out⟩
        | true =>
          have HR : Hid (sameL a b = decide (a.marks = b.marks)) := Lib.hid (by rw [HQ.out, ho]; rfl)
          clear ho HQ
          obtain ⟨p, cp, e1, hp⟩ := HS.out.1.2.newer HN1.out
          obtain ⟨q, cq, e2, hq⟩ := HS.out.2.2.newer HN1.out
          simp only [Value.slice.injEq] at e1 e2
          obtain ⟨rfl, e1, rfl⟩ := e1
          obtain ⟨rfl, e2, rfl⟩ := e2
          have HM1 := Lib.hid (And.intro e1 hp)
          have HM2 := Lib.hid (And.intro e2 hq)
          have hn9 : n9 ≤ 1000000 := by rw [e1]; exact HL.out.1
          have hk9 : k9 ≤ 1000000 := by rw [e2]; exact HL.out.2
          clear e1 e2 hp hq
          by_cases hnm : n9 = k9
          · subst hnm
            go_wp2_with fail
            go_loopw [5] (fun i wr => ∃ j k : Nat, j ≤ n9 ∧ i = .int .i64 j ∧ wr = w1.drewN k ∧ a.marks.take j = b.marks.take j) (fun i _ => n9 - (intOf i).toNat)
            case atStart => exact ⟨0, 0, Nat.zero_le _, rfl, rfl, rfl⟩
            case round =>
              obtain ⟨j, k, hj, rfl, rfl, he⟩ := hrel
              have HE := Lib.hid he
              clear he
              by_cases hlt : j < n9
              · obtain ⟨A, rfl, c1⟩ := HM1.out.2 j (by rw [← HM1.out.1]; exact hlt)
                obtain ⟨B, rfl, c2⟩ := HM2.out.2 j (by rw [← HM2.out.1]; exact hlt)
                obtain ⟨u, hu⟩ : ∃ x, a.marks[j]'(by rw [← HM1.out.1]; exact hlt) = x := ⟨_, rfl⟩
                obtain ⟨v, hv⟩ : ∃ x, b.marks[j]'(by rw [← HM2.out.1]; exact hlt) = x := ⟨_, rfl⟩
                rw [hu] at c1
                rw [hv] at c2
                unfold boolV at c1 c2
                have HUV := Lib.hid (And.intro hu hv)
                clear hu hv
                have hfin : ∀ nq, Newer w (w1.drewN (k + nq)) := fun nq => HN1.out.trans (Newer.drewN _ _)
                have HFIN := Lib.hid hfin
                have hnx : u = v → a.marks.take (j + 1) = b.marks.take (j + 1) := fun e => by
                  rw [List.take_succ_eq_append_getElem (by rw [← HM1.out.1]; exact hlt), List.take_succ_eq_append_getElem (by rw [← HM2.out.1]; exact hlt), HE.out, HUV.out.1, HUV.out.2, e]
                have hno : u ≠ v → false = sameL a b := fun e => by
                  rw [HR.out]
                  symm
                  rw [decide_eq_false_iff_not]
                  intro hm
                  have h1 := HUV.out.1
                  have h2 := HUV.out.2
                  have : a.marks[j]'(by rw [← HM1.out.1]; exact hlt) = b.marks[j]'(by rw [← HM2.out.1]; exact hlt) := by simp only [hm]
                  exact e (h1.symm.trans (this.trans h2))
                have HNX := Lib.hid (And.intro hnx hno)
                clear hfin hnx hno
                cases u <;> cases v
                · go_wp2_with fail
                  go_quiet (fail)
                  go_wp2_with fail
                  go_roundw
                  case rel => exact ⟨j + 1, k + nq, by omega, by go_num, (by first | rfl | rw [World.drewN_drewN]), (by first | exact HNX.out.1 rfl | exact HNX.out.1 trivial)⟩
                  case measure => simp [intOf]; omega
                · go_wp2_with fail
                  go_quiet (fail)
                  go_wp2_with fail
                  go_ret
                  exact ⟨ret_bool (HNX.out.2 (by decide)), by first | exact HFIN.out nq | (rw [World.drewN_drewN]; exact HFIN.out nq)⟩
                · go_wp2_with fail
                  go_quiet (fail)
                  go_wp2_with fail
                  go_ret
                  exact ⟨ret_bool (HNX.out.2 (by decide)), by first | exact HFIN.out nq | (rw [World.drewN_drewN]; exact HFIN.out nq)⟩
                · go_wp2_with fail
                  go_quiet (fail)
                  go_wp2_with fail
                  go_roundw
                  case rel => exact ⟨j + 1, k + nq, by omega, by go_num, (by first | rfl | rw [World.drewN_drewN]), (by first | exact HNX.out.1 rfl | exact HNX.out.1 trivial)⟩
                  case measure => simp [intOf]; omega
              · have HT : Hid (true = sameL a b) := Lib.hid (by
                  have := HE.out
                  rw [List.take_of_length_le (by rw [← HM1.out.1]; omega), List.take_of_length_le (by rw [← HM2.out.1]; omega)] at this
                  rw [HR.out, decide_eq_true this])
                go_wp2_with fail
                go_ret
                exact ⟨ret_bool HT.out, HN1.out.trans (Newer.drewN _ _)⟩
          · have t1 : ((n9 : Int) != (k9 : Int)) = true := by simp; omega
            have HF : Hid (false = sameL a b) := Lib.hid (by
              rw [HR.out]
              symm
              rw [decide_eq_false_iff_not]
              intro hm
              exact hnm (by rw [HM1.out.1, HM2.out.1, hm]))
            clear hnm
            go_wp2_with fail
            go_ret
            exact ⟨ret_bool HF.out, HN1.out⟩
      · have f1 : (a.kind != b.kind) = false := by simp [h1]
        have f2 : (a.thread != b.thread) = false := by simp [h2]
        have f3 : (a.n != b.n) = true := by simpa using h3
        have HF : Hid (false = sameL a b) := Lib.hid (by rw [HP.out, decide_eq_false h3]; simp)
        clear h1 h2 h3
        go_enter Tryz.func16, Tryz.ntmps16
        go_wp2
        go_ret
        exact ⟨ret_bool HF.out, (Newer.alloc _ _).trans (Newer.alloc _ _)⟩
    · have f1 : (a.kind != b.kind) = false := by simp [h1]
      have f2 : (a.thread != b.thread) = true := by simpa using h2
      have HF : Hid (false = sameL a b) := Lib.hid (by rw [HP.out, decide_eq_false h2]; simp)
      clear h1 h2
      go_enter Tryz.func16, Tryz.ntmps16
      go_wp2
      go_ret
      exact ⟨ret_bool HF.out, (Newer.alloc _ _).trans (Newer.alloc _ _)⟩
  · have f1 : (a.kind != b.kind) = true := by simpa using h1
    have HF : Hid (false = sameL a b) := Lib.hid (by rw [HP.out, decide_eq_false h1]; simp)
    clear h1
    go_enter Tryz.func16, Tryz.ntmps16
    go_wp2
    go_ret
    exact ⟨ret_bool HF.out, (Newer.alloc _ _).trans (Newer.alloc _ _)⟩

end Go.Proofs.YtgdaaafejfjilaaGreatDoor

/- contracts of the reference's Print -/
namespace Go.Proofs.YtgdaaafejfjilaaGreatDoor
open Go.RowKit
attribute [local go_sem] Oper.semAt_some undef

def inL (n : Int) : Bool := decide (0 ≤ n ∧ n ≤ 999999999)
theorem inL_yes {n : Int} (h : 0 ≤ n ∧ n ≤ 999999999) : inL n = true := decide_eq_true h
theorem inL_no {n : Int} (h : ¬ (0 ≤ n ∧ n ≤ 999999999)) : inL n = false := decide_eq_false h
theorem in_any (n : Int) (w : World) : Calls Tryz.prog 27 #[.int .i64 n] w fun e w' => e = .returned (.bool (inL n)) ∧ w = w' := by
  by_cases h : 0 ≤ n ∧ n ≤ 999999999
  · rw [inL_yes h]; exact in_yes n h.1 h.2 w
  · rw [inL_no h]; exact in_no n h w
theorem ret_sb {a b : Bs} {c d : Bool} (h : a = b ∧ c = d) : Ending.returned (.tuple #[.string ⟨a.toArray⟩, .bool c]) = .returned (.tuple #[.string ⟨b.toArray⟩, .bool d]) := by rw [h.1, h.2]
theorem refPrint_out {a : ActL} (h : ¬ (InB a ∧ (1 ≤ a.kind ∧ a.kind ≤ 5) ∧ True)) : [] = (printL a).getD [] ∧ false = (printL a).isSome := by
  cases hp : printL a with
  | none => exact ⟨rfl, rfl⟩
  | some s =>
    obtain ⟨_, h2, h3, _⟩ := parse_back (print_some hp).1
    exact absurd ⟨h2, h3, trivial⟩ h
theorem inr_laid {a : ActL} (h : InR a) : (laidL a).length ≤ 20000 := by
  have hf : Fit { a with okind := 0 } := ⟨⟨⟨by have := h.k; show _ ≤ a.kind; omega, by have := h.k; show a.kind ≤ _; omega⟩, (by show _ ≤ (0 : Int); decide), (by show (0 : Int) ≤ _; decide)⟩, ⟨by have := h.t; show _ ≤ a.thread; omega, by have := h.t; show a.thread ≤ _; omega⟩, ⟨by have := h.n; show _ ≤ a.n; omega, by have := h.n; show a.n ≤ _; omega⟩, ⟨by have := h.o.at_; show _ ≤ a.at_; omega, by have := h.o.at_; show a.at_ ≤ _; omega⟩, ⟨by have := h.o.on; show _ ≤ a.on; omega, by have := h.o.on; show a.on ≤ _; omega⟩, h.o.b, h.m, h.o.p⟩
  have e : ∀ needs : Bs, addL needs { a with okind := 0 } = addL needs a := fun _ => rfl
  have h1 := fit_add hf (verbL a.kind).2
  have h2 := fit_add hf (opL a.okind).2
  rw [e] at h1 h2
  have h3 := (needs3 a.kind).1
  have h4 := (needs3 a.okind).2
  have h5 := verb_len2 a.kind
  have h6 := op_len a.okind
  unfold laidL
  rw [List.length_append, List.length_append]
  split
  · rw [List.length_append, List.length_cons]; omega
  · simp; omega

set_option maxRecDepth 100000 in
set_option maxHeartbeats 6400000 in
theorem refPrint_any (a : ActL) (p8 p9 : Option Addr) (n8 n9 m8 m9 : Nat) (w : World) (hs : SliceB w (.slice p8 n8 m8) a.bytes ∧ SliceM w (.slice p9 n9 m9) a.marks) :
    Calls Tryz.prog 13 #[actV a (.slice p8 n8 m8) (.slice p9 n9 m9)] w fun e w' => e = .returned (.tuple #[.string ⟨((printL a).getD []).toArray⟩, .bool (printL a).isSome]) ∧ Newer w w' := by
  have HS := Lib.hid hs
  have HN : Hid (n8 = a.bytes.length ∧ n9 = a.marks.length) := Lib.hid (by
    obtain ⟨⟨p, c, e, -⟩, ⟨q, d, f, -⟩⟩ := hs
    simp only [Value.slice.injEq] at e f
    exact ⟨e.2.1, f.2.1⟩)
  clear hs
  unfold actV
  by_cases hk0 : 1 ≤ a.kind
  · have fk0 : decide (a.kind < 1) = false := by simp; omega
    by_cases hk1 : a.kind ≤ 5
    · have fk1 : decide (5 < a.kind) = false := by simp; omega
      by_cases ht : 0 ≤ a.thread ∧ a.thread ≤ 999999999
      · have ft : inL a.thread = true := inL_yes ht
        by_cases hn : 0 ≤ a.n ∧ a.n ≤ 999999999
        · have fn : inL a.n = true := inL_yes hn
          by_cases ha : 0 ≤ a.at_ ∧ a.at_ ≤ 999999999
          · have fa : inL a.at_ = true := inL_yes ha
            by_cases ho : 0 ≤ a.on ∧ a.on ≤ 999999999
            · have fo : inL a.on = true := inL_yes ho
              by_cases hb : n8 ≤ 448
              · have fb : decide ((448 : Int) < (n8 : Int)) = false := by simp; omega
                by_cases hm : n9 ≤ 60
                · have fm : decide ((60 : Int) < (n9 : Int)) = false := by simp; omega
                  by_cases hp : a.path.length ≤ 300
                  · have fp : decide ((300 : Int) < (a.path.length : Int)) = false := by simp; omega
                    by_cases hd : a.dest.length ≤ 300
                    · have fd : decide ((300 : Int) < (a.dest.length : Int)) = false := by simp; omega
                      have HIN : Hid (InR a) := Lib.hid ⟨⟨hk0, hk1⟩, ht, hn, ⟨ha, ho, ⟨by omega, by omega⟩, by rw [← HN.out.1]; omega⟩, by rw [← HN.out.2]; omega⟩
                      have HLN := Lib.hid (And.intro hb (And.intro hm (And.intro hp hd)))
                      clear hk0 hk1 ht hn ha ho hb hm hp hd
                      go_enter Tryz.func13, Tryz.ntmps13
                      go_upto_region 2 with fail
                      obtain ⟨x, hx⟩ : ∃ x, w.heap.size = x := ⟨_, rfl⟩
                      obtain ⟨w0, hw0⟩ : ∃ w0, (w.alloc (.cells #[.int .i64 a.kind, .int .i64 a.thread, .int .i64 a.n, .int .i64 a.okind, .string ⟨a.path.toArray⟩, .string ⟨a.dest.toArray⟩, .int .i64 a.at_, .int .i64 a.on, .slice p8 n8 m8, .slice p9 n9 m9] 29)).alloc (.cells #[.int .i64 a.okind, .string ⟨a.path.toArray⟩, .string ⟨a.dest.toArray⟩, .int .i64 a.at_, .int .i64 a.on, .slice p8 n8 m8] 26) = w0 := ⟨_, rfl⟩
                      rw [hw0, hx]
                      have hA : ActC w0 x a (.slice p8 n8 m8) (.slice p9 n9 m9) := by
                        subst hw0 hx
                        constructor <;> simp [go_sem]
                      have hO : OpC w0 (x + 1) a (.slice p8 n8 m8) := by
                        subst hw0 hx
                        constructor <;> simp [go_sem]
                      have nw : Newer w w0 := hw0 ▸ (Newer.alloc _ _).trans (Newer.alloc _ _)
                      have H0 := Lib.hid (And.intro hA nw)
                      obtain ⟨a0, a1, a2, a3, a4, a5, a6, a7, a8, a9⟩ := hA
                      obtain ⟨o0, o1, o2, o3, o4, o5⟩ := hO
                      clear nw hw0 hx
                      go_wp2_with (go_at_call 27; refine (in_any _ _).mono ?_; rintro e w' ⟨rfl, rfl⟩)
                      refine (refLaid_any a HIN.out p8 p9 n8 n9 m8 m9 w0 ⟨HS.out.1.newer H0.out.2, HS.out.2.newer H0.out.2⟩).mono ?_
                      rintro e w1 ⟨rfl, n1⟩
                      obtain ⟨s, hs⟩ : ∃ s, laidL a = s := ⟨_, rfl⟩
                      have hsl : s.length ≤ 100000 := by rw [← hs]; exact Nat.le_trans (inr_laid HIN.out) (by decide)
                      rw [hs]
                      have HSL := Lib.hid hs
                      have N1 := Lib.hid (H0.out.2.trans n1)
                      have hxl : x < w0.heap.size := by have := World.block_lt_of_cell? _ _ a0; simpa using this
                      have HA1 := Lib.hid (H0.out.1.grow n1 (fun hk => by have hk : w0.heap.size ≤ x := hk; omega))
                      clear n1 hs a0 a1 a2 a3 a4 a5 a6 a7 a8 a9 o0 o1 o2 o3 o4 o5 hxl
                      go_wp2_with fail
                      refine (refParse_any s hsl w1).mono ?_
                      rintro e w2 ⟨b, v8, v9, rfl, hb, ⟨⟨s8, -⟩, ⟨s9, -⟩⟩, n2⟩
                      obtain ⟨q8, l8, e8, -⟩ := id s8
                      obtain ⟨q9, l9, e9, -⟩ := id s9
                      obtain ⟨k8, hk8⟩ : ∃ k, b.bytes.length = k := ⟨_, rfl⟩
                      obtain ⟨k9, hk9⟩ : ∃ k, b.marks.length = k := ⟨_, rfl⟩
                      rw [hk8] at e8
                      rw [hk9] at e9
                      subst e8 e9
                      have N2 := Lib.hid (N1.out.trans n2)
                      have hxl : x < w1.heap.size := by have := World.block_lt_of_cell? _ _ HA1.out.c0; simpa using this
                      have HA2 := Lib.hid (HA1.out.grow n2 (fun hk => by have hk : w1.heap.size ≤ x := hk; omega))
                      have HV := Lib.hid (And.intro s8 s9)
                      have HBB := Lib.hid hb
                      clear n2 s8 s9 hb hk8 hk9 hxl
                      unfold actV
                      go_upto_region 6 with fail
                      obtain ⟨w3, hw3⟩ : ∃ w3, w2.alloc (.cells #[.int .i64 b.kind, .int .i64 b.thread, .int .i64 b.n, .int .i64 b.okind, .string ⟨b.path.toArray⟩, .string ⟨b.dest.toArray⟩, .int .i64 b.at_, .int .i64 b.on, .slice q8 k8 l8, .slice q9 k9 l9] 29) = w3 := ⟨_, rfl⟩
                      obtain ⟨y, hy⟩ : ∃ y, w2.heap.size = y := ⟨_, rfl⟩
                      rw [hw3, hy]
                      have hB : ActC w3 y b (.slice q8 k8 l8) (.slice q9 k9 l9) := by
                        subst hw3 hy
                        constructor <;> simp [go_sem]
                      have n3 : Newer w2 w3 := hw3 ▸ Newer.alloc _ _
                      have hxl : x < w2.heap.size := by have := World.block_lt_of_cell? _ _ HA2.out.c0; simpa using this
                      have hA3 := HA2.out.grow n3 (fun hk => by have hk : w2.heap.size ≤ x := hk; omega)
                      have N3 := Lib.hid (N2.out.trans n3)
                      have HV3 := Lib.hid (And.intro (HV.out.1.newer n3) (HV.out.2.newer n3))
                      clear n3 hw3 hy hxl
                      cases hp : parseL s with
                      | none =>
                        have HF : Hid ([] = (printL a).getD [] ∧ false = (printL a).isSome) := Lib.hid (by
                          have : printL a = none := by unfold printL; rw [HSL.out, hp]
                          rw [this]; exact ⟨rfl, rfl⟩)
                        clear hp hA3 hB
                        simp only [Option.isSome_none]
                        go_wp2_with fail
                        go_ret2
                        exact ⟨ret_sb HF.out, N3.out⟩
                      | some c =>
                        have hbc := HBB.out c hp
                        subst hbc
                        have HPB := Lib.hid (parse_back (by rw [HSL.out]; exact hp : parseL (laidL a) = some b))
                        have HPR : Hid (printL a = if sameL a b = true then some s else none) := Lib.hid (by unfold printL; rw [HSL.out, hp])
                        obtain ⟨a0, a1, a2, a3, a4, a5, a6, a7, a8, a9⟩ := hA3
                        obtain ⟨b0, b1, b2, b3, b4, b5, b6, b7, b8, b9⟩ := hB
                        clear hp
                        simp only [Option.isSome_some]
                        go_wp2_with fail
                        refine (refSame_any a b p8 p9 q8 q9 n8 n9 m8 m9 k8 k9 l8 l9 w3 ⟨HS.out.1.newer N3.out, HS.out.2.newer N3.out⟩ HV3.out (by have := HIN.out.m; omega) (by have := HPB.out.2.1.marks; omega)).mono ?_
                        rintro e w4 ⟨rfl, n4⟩
                        have N4 := Lib.hid (N3.out.trans n4)
                        clear n4 a0 a1 a2 a3 a4 a5 a6 a7 a8 a9 b0 b1 b2 b3 b4 b5 b6 b7 b8 b9
                        cases hsm : sameL a b with
                        | true =>
                          have HF : Hid (s = (printL a).getD [] ∧ true = (printL a).isSome) := Lib.hid (by rw [HPR.out, if_pos hsm]; exact ⟨rfl, rfl⟩)
                          clear hsm
                          go_wp2_with fail
                          go_ret2
                          exact ⟨ret_sb HF.out, N4.out⟩
                        | false =>
                          have HF : Hid ([] = (printL a).getD [] ∧ false = (printL a).isSome) := Lib.hid (by rw [HPR.out, if_neg (by rw [hsm]; decide)]; exact ⟨rfl, rfl⟩)
                          clear hsm
                          go_wp2_with fail
                          go_ret2
                          exact ⟨ret_sb HF.out, N4.out⟩
                    · have fd : decide ((300 : Int) < (a.dest.length : Int)) = true := by simp; omega
                      have HF := Lib.hid (refPrint_out (a := a) (fun h => by have := h.1.dest; omega))
                      clear hk0 hk1 ht hn ha ho hb hm hp hd
                      go_enter Tryz.func13, Tryz.ntmps13
                      go_upto_region 2 with fail
                      obtain ⟨x, hx⟩ : ∃ x, w.heap.size = x := ⟨_, rfl⟩
                      obtain ⟨w0, hw0⟩ : ∃ w0, (w.alloc (.cells #[.int .i64 a.kind, .int .i64 a.thread, .int .i64 a.n, .int .i64 a.okind, .string ⟨a.path.toArray⟩, .string ⟨a.dest.toArray⟩, .int .i64 a.at_, .int .i64 a.on, .slice p8 n8 m8, .slice p9 n9 m9] 29)).alloc (.cells #[.int .i64 a.okind, .string ⟨a.path.toArray⟩, .string ⟨a.dest.toArray⟩, .int .i64 a.at_, .int .i64 a.on, .slice p8 n8 m8] 26) = w0 := ⟨_, rfl⟩
                      rw [hw0, hx]
                      have hA : ActC w0 x a (.slice p8 n8 m8) (.slice p9 n9 m9) := by
                        subst hw0 hx
                        constructor <;> simp [go_sem]
                      have hO : OpC w0 (x + 1) a (.slice p8 n8 m8) := by
                        subst hw0 hx
                        constructor <;> simp [go_sem]
                      have nw : Newer w w0 := hw0 ▸ (Newer.alloc _ _).trans (Newer.alloc _ _)
                      have H0 := Lib.hid (And.intro hA nw)
                      obtain ⟨a0, a1, a2, a3, a4, a5, a6, a7, a8, a9⟩ := hA
                      obtain ⟨o0, o1, o2, o3, o4, o5⟩ := hO
                      clear nw hw0 hx
                      go_wp2_with (go_at_call 27; refine (in_any _ _).mono ?_; rintro e w' ⟨rfl, rfl⟩)
                      go_ret2
                      exact ⟨ret_sb ⟨HF.out.1, HF.out.2⟩, H0.out.2⟩
                  · have fp : decide ((300 : Int) < (a.path.length : Int)) = true := by simp; omega
                    have HF := Lib.hid (refPrint_out (a := a) (fun h => by have := h.1.path; omega))
                    clear hk0 hk1 ht hn ha ho hb hm hp
                    go_enter Tryz.func13, Tryz.ntmps13
                    go_upto_region 2 with fail
                    obtain ⟨x, hx⟩ : ∃ x, w.heap.size = x := ⟨_, rfl⟩
                    obtain ⟨w0, hw0⟩ : ∃ w0, (w.alloc (.cells #[.int .i64 a.kind, .int .i64 a.thread, .int .i64 a.n, .int .i64 a.okind, .string ⟨a.path.toArray⟩, .string ⟨a.dest.toArray⟩, .int .i64 a.at_, .int .i64 a.on, .slice p8 n8 m8, .slice p9 n9 m9] 29)).alloc (.cells #[.int .i64 a.okind, .string ⟨a.path.toArray⟩, .string ⟨a.dest.toArray⟩, .int .i64 a.at_, .int .i64 a.on, .slice p8 n8 m8] 26) = w0 := ⟨_, rfl⟩
                    rw [hw0, hx]
                    have hA : ActC w0 x a (.slice p8 n8 m8) (.slice p9 n9 m9) := by
                      subst hw0 hx
                      constructor <;> simp [go_sem]
                    have hO : OpC w0 (x + 1) a (.slice p8 n8 m8) := by
                      subst hw0 hx
                      constructor <;> simp [go_sem]
                    have nw : Newer w w0 := hw0 ▸ (Newer.alloc _ _).trans (Newer.alloc _ _)
                    have H0 := Lib.hid (And.intro hA nw)
                    obtain ⟨a0, a1, a2, a3, a4, a5, a6, a7, a8, a9⟩ := hA
                    obtain ⟨o0, o1, o2, o3, o4, o5⟩ := hO
                    clear nw hw0 hx
                    go_wp2_with (go_at_call 27; refine (in_any _ _).mono ?_; rintro e w' ⟨rfl, rfl⟩)
                    go_ret2
                    exact ⟨ret_sb ⟨HF.out.1, HF.out.2⟩, H0.out.2⟩
                · have fm : decide ((60 : Int) < (n9 : Int)) = true := by simp; omega
                  have HF := Lib.hid (refPrint_out (a := a) (fun h => by have := h.1.marks; have := HN.out.2; omega))
                  clear hk0 hk1 ht hn ha ho hb hm
                  go_enter Tryz.func13, Tryz.ntmps13
                  go_upto_region 2 with fail
                  obtain ⟨x, hx⟩ : ∃ x, w.heap.size = x := ⟨_, rfl⟩
                  obtain ⟨w0, hw0⟩ : ∃ w0, (w.alloc (.cells #[.int .i64 a.kind, .int .i64 a.thread, .int .i64 a.n, .int .i64 a.okind, .string ⟨a.path.toArray⟩, .string ⟨a.dest.toArray⟩, .int .i64 a.at_, .int .i64 a.on, .slice p8 n8 m8, .slice p9 n9 m9] 29)).alloc (.cells #[.int .i64 a.okind, .string ⟨a.path.toArray⟩, .string ⟨a.dest.toArray⟩, .int .i64 a.at_, .int .i64 a.on, .slice p8 n8 m8] 26) = w0 := ⟨_, rfl⟩
                  rw [hw0, hx]
                  have hA : ActC w0 x a (.slice p8 n8 m8) (.slice p9 n9 m9) := by
                    subst hw0 hx
                    constructor <;> simp [go_sem]
                  have hO : OpC w0 (x + 1) a (.slice p8 n8 m8) := by
                    subst hw0 hx
                    constructor <;> simp [go_sem]
                  have nw : Newer w w0 := hw0 ▸ (Newer.alloc _ _).trans (Newer.alloc _ _)
                  have H0 := Lib.hid (And.intro hA nw)
                  obtain ⟨a0, a1, a2, a3, a4, a5, a6, a7, a8, a9⟩ := hA
                  obtain ⟨o0, o1, o2, o3, o4, o5⟩ := hO
                  clear nw hw0 hx
                  go_wp2_with (go_at_call 27; refine (in_any _ _).mono ?_; rintro e w' ⟨rfl, rfl⟩)
                  go_ret2
                  exact ⟨ret_sb ⟨HF.out.1, HF.out.2⟩, H0.out.2⟩
              · have fb : decide ((448 : Int) < (n8 : Int)) = true := by simp; omega
                have HF := Lib.hid (refPrint_out (a := a) (fun h => by have := h.1.bytes; have := HN.out.1; omega))
                clear hk0 hk1 ht hn ha ho hb
                go_enter Tryz.func13, Tryz.ntmps13
                go_upto_region 2 with fail
                obtain ⟨x, hx⟩ : ∃ x, w.heap.size = x := ⟨_, rfl⟩
                obtain ⟨w0, hw0⟩ : ∃ w0, (w.alloc (.cells #[.int .i64 a.kind, .int .i64 a.thread, .int .i64 a.n, .int .i64 a.okind, .string ⟨a.path.toArray⟩, .string ⟨a.dest.toArray⟩, .int .i64 a.at_, .int .i64 a.on, .slice p8 n8 m8, .slice p9 n9 m9] 29)).alloc (.cells #[.int .i64 a.okind, .string ⟨a.path.toArray⟩, .string ⟨a.dest.toArray⟩, .int .i64 a.at_, .int .i64 a.on, .slice p8 n8 m8] 26) = w0 := ⟨_, rfl⟩
                rw [hw0, hx]
                have hA : ActC w0 x a (.slice p8 n8 m8) (.slice p9 n9 m9) := by
                  subst hw0 hx
                  constructor <;> simp [go_sem]
                have hO : OpC w0 (x + 1) a (.slice p8 n8 m8) := by
                  subst hw0 hx
                  constructor <;> simp [go_sem]
                have nw : Newer w w0 := hw0 ▸ (Newer.alloc _ _).trans (Newer.alloc _ _)
                have H0 := Lib.hid (And.intro hA nw)
                obtain ⟨a0, a1, a2, a3, a4, a5, a6, a7, a8, a9⟩ := hA
                obtain ⟨o0, o1, o2, o3, o4, o5⟩ := hO
                clear nw hw0 hx
                go_wp2_with (go_at_call 27; refine (in_any _ _).mono ?_; rintro e w' ⟨rfl, rfl⟩)
                go_ret2
                exact ⟨ret_sb ⟨HF.out.1, HF.out.2⟩, H0.out.2⟩
            · have fo : inL a.on = false := inL_no ho
              have HF := Lib.hid (refPrint_out (a := a) (fun h => by have := h.1.on; omega))
              clear hk0 hk1 ht hn ha ho
              go_enter Tryz.func13, Tryz.ntmps13
              go_upto_region 2 with fail
              obtain ⟨x, hx⟩ : ∃ x, w.heap.size = x := ⟨_, rfl⟩
              obtain ⟨w0, hw0⟩ : ∃ w0, (w.alloc (.cells #[.int .i64 a.kind, .int .i64 a.thread, .int .i64 a.n, .int .i64 a.okind, .string ⟨a.path.toArray⟩, .string ⟨a.dest.toArray⟩, .int .i64 a.at_, .int .i64 a.on, .slice p8 n8 m8, .slice p9 n9 m9] 29)).alloc (.cells #[.int .i64 a.okind, .string ⟨a.path.toArray⟩, .string ⟨a.dest.toArray⟩, .int .i64 a.at_, .int .i64 a.on, .slice p8 n8 m8] 26) = w0 := ⟨_, rfl⟩
              rw [hw0, hx]
              have hA : ActC w0 x a (.slice p8 n8 m8) (.slice p9 n9 m9) := by
                subst hw0 hx
                constructor <;> simp [go_sem]
              have hO : OpC w0 (x + 1) a (.slice p8 n8 m8) := by
                subst hw0 hx
                constructor <;> simp [go_sem]
              have nw : Newer w w0 := hw0 ▸ (Newer.alloc _ _).trans (Newer.alloc _ _)
              have H0 := Lib.hid (And.intro hA nw)
              obtain ⟨a0, a1, a2, a3, a4, a5, a6, a7, a8, a9⟩ := hA
              obtain ⟨o0, o1, o2, o3, o4, o5⟩ := hO
              clear nw hw0 hx
              go_wp2_with (go_at_call 27; refine (in_any _ _).mono ?_; rintro e w' ⟨rfl, rfl⟩)
              go_ret2
              exact ⟨ret_sb ⟨HF.out.1, HF.out.2⟩, H0.out.2⟩
          · have fa : inL a.at_ = false := inL_no ha
            have HF := Lib.hid (refPrint_out (a := a) (fun h => by have := h.1.at_; omega))
            clear hk0 hk1 ht hn ha
            go_enter Tryz.func13, Tryz.ntmps13
            go_upto_region 2 with fail
            obtain ⟨x, hx⟩ : ∃ x, w.heap.size = x := ⟨_, rfl⟩
            obtain ⟨w0, hw0⟩ : ∃ w0, (w.alloc (.cells #[.int .i64 a.kind, .int .i64 a.thread, .int .i64 a.n, .int .i64 a.okind, .string ⟨a.path.toArray⟩, .string ⟨a.dest.toArray⟩, .int .i64 a.at_, .int .i64 a.on, .slice p8 n8 m8, .slice p9 n9 m9] 29)).alloc (.cells #[.int .i64 a.okind, .string ⟨a.path.toArray⟩, .string ⟨a.dest.toArray⟩, .int .i64 a.at_, .int .i64 a.on, .slice p8 n8 m8] 26) = w0 := ⟨_, rfl⟩
            rw [hw0, hx]
            have hA : ActC w0 x a (.slice p8 n8 m8) (.slice p9 n9 m9) := by
              subst hw0 hx
              constructor <;> simp [go_sem]
            have hO : OpC w0 (x + 1) a (.slice p8 n8 m8) := by
              subst hw0 hx
              constructor <;> simp [go_sem]
            have nw : Newer w w0 := hw0 ▸ (Newer.alloc _ _).trans (Newer.alloc _ _)
            have H0 := Lib.hid (And.intro hA nw)
            obtain ⟨a0, a1, a2, a3, a4, a5, a6, a7, a8, a9⟩ := hA
            obtain ⟨o0, o1, o2, o3, o4, o5⟩ := hO
            clear nw hw0 hx
            go_wp2_with (go_at_call 27; refine (in_any _ _).mono ?_; rintro e w' ⟨rfl, rfl⟩)
            go_ret2
            exact ⟨ret_sb ⟨HF.out.1, HF.out.2⟩, H0.out.2⟩
        · have fn : inL a.n = false := inL_no hn
          have HF := Lib.hid (refPrint_out (a := a) (fun h => by have := h.1.n; omega))
          clear hk0 hk1 ht hn
          go_enter Tryz.func13, Tryz.ntmps13
          go_upto_region 2 with fail
          obtain ⟨x, hx⟩ : ∃ x, w.heap.size = x := ⟨_, rfl⟩
          obtain ⟨w0, hw0⟩ : ∃ w0, (w.alloc (.cells #[.int .i64 a.kind, .int .i64 a.thread, .int .i64 a.n, .int .i64 a.okind, .string ⟨a.path.toArray⟩, .string ⟨a.dest.toArray⟩, .int .i64 a.at_, .int .i64 a.on, .slice p8 n8 m8, .slice p9 n9 m9] 29)).alloc (.cells #[.int .i64 a.okind, .string ⟨a.path.toArray⟩, .string ⟨a.dest.toArray⟩, .int .i64 a.at_, .int .i64 a.on, .slice p8 n8 m8] 26) = w0 := ⟨_, rfl⟩
          rw [hw0, hx]
          have hA : ActC w0 x a (.slice p8 n8 m8) (.slice p9 n9 m9) := by
            subst hw0 hx
            constructor <;> simp [go_sem]
          have hO : OpC w0 (x + 1) a (.slice p8 n8 m8) := by
            subst hw0 hx
            constructor <;> simp [go_sem]
          have nw : Newer w w0 := hw0 ▸ (Newer.alloc _ _).trans (Newer.alloc _ _)
          have H0 := Lib.hid (And.intro hA nw)
          obtain ⟨a0, a1, a2, a3, a4, a5, a6, a7, a8, a9⟩ := hA
          obtain ⟨o0, o1, o2, o3, o4, o5⟩ := hO
          clear nw hw0 hx
          go_wp2_with (go_at_call 27; refine (in_any _ _).mono ?_; rintro e w' ⟨rfl, rfl⟩)
          go_ret2
          exact ⟨ret_sb ⟨HF.out.1, HF.out.2⟩, H0.out.2⟩
      · have ft : inL a.thread = false := inL_no ht
        have HF := Lib.hid (refPrint_out (a := a) (fun h => by have := h.1.t; omega))
        clear hk0 hk1 ht
        go_enter Tryz.func13, Tryz.ntmps13
        go_upto_region 2 with fail
        obtain ⟨x, hx⟩ : ∃ x, w.heap.size = x := ⟨_, rfl⟩
        obtain ⟨w0, hw0⟩ : ∃ w0, (w.alloc (.cells #[.int .i64 a.kind, .int .i64 a.thread, .int .i64 a.n, .int .i64 a.okind, .string ⟨a.path.toArray⟩, .string ⟨a.dest.toArray⟩, .int .i64 a.at_, .int .i64 a.on, .slice p8 n8 m8, .slice p9 n9 m9] 29)).alloc (.cells #[.int .i64 a.okind, .string ⟨a.path.toArray⟩, .string ⟨a.dest.toArray⟩, .int .i64 a.at_, .int .i64 a.on, .slice p8 n8 m8] 26) = w0 := ⟨_, rfl⟩
        rw [hw0, hx]
        have hA : ActC w0 x a (.slice p8 n8 m8) (.slice p9 n9 m9) := by
          subst hw0 hx
          constructor <;> simp [go_sem]
        have hO : OpC w0 (x + 1) a (.slice p8 n8 m8) := by
          subst hw0 hx
          constructor <;> simp [go_sem]
        have nw : Newer w w0 := hw0 ▸ (Newer.alloc _ _).trans (Newer.alloc _ _)
        have H0 := Lib.hid (And.intro hA nw)
        obtain ⟨a0, a1, a2, a3, a4, a5, a6, a7, a8, a9⟩ := hA
        obtain ⟨o0, o1, o2, o3, o4, o5⟩ := hO
        clear nw hw0 hx
        go_wp2_with (go_at_call 27; refine (in_any _ _).mono ?_; rintro e w' ⟨rfl, rfl⟩)
        go_ret2
        exact ⟨ret_sb ⟨HF.out.1, HF.out.2⟩, H0.out.2⟩
    · have fk1 : decide (5 < a.kind) = true := by simp; omega
      have HF := Lib.hid (refPrint_out (a := a) (fun h => by have := h.2.1; omega))
      clear hk0 hk1
      go_enter Tryz.func13, Tryz.ntmps13
      go_upto_region 2 with fail
      obtain ⟨x, hx⟩ : ∃ x, w.heap.size = x := ⟨_, rfl⟩
      obtain ⟨w0, hw0⟩ : ∃ w0, (w.alloc (.cells #[.int .i64 a.kind, .int .i64 a.thread, .int .i64 a.n, .int .i64 a.okind, .string ⟨a.path.toArray⟩, .string ⟨a.dest.toArray⟩, .int .i64 a.at_, .int .i64 a.on, .slice p8 n8 m8, .slice p9 n9 m9] 29)).alloc (.cells #[.int .i64 a.okind, .string ⟨a.path.toArray⟩, .string ⟨a.dest.toArray⟩, .int .i64 a.at_, .int .i64 a.on, .slice p8 n8 m8] 26) = w0 := ⟨_, rfl⟩
      rw [hw0, hx]
      have hA : ActC w0 x a (.slice p8 n8 m8) (.slice p9 n9 m9) := by
        subst hw0 hx
        constructor <;> simp [go_sem]
      have hO : OpC w0 (x + 1) a (.slice p8 n8 m8) := by
        subst hw0 hx
        constructor <;> simp [go_sem]
      have nw : Newer w w0 := hw0 ▸ (Newer.alloc _ _).trans (Newer.alloc _ _)
      have H0 := Lib.hid (And.intro hA nw)
      obtain ⟨a0, a1, a2, a3, a4, a5, a6, a7, a8, a9⟩ := hA
      obtain ⟨o0, o1, o2, o3, o4, o5⟩ := hO
      clear nw hw0 hx
      go_wp2_with (go_at_call 27; refine (in_any _ _).mono ?_; rintro e w' ⟨rfl, rfl⟩)
      go_ret2
      exact ⟨ret_sb ⟨HF.out.1, HF.out.2⟩, H0.out.2⟩
  · have fk0 : decide (a.kind < 1) = true := by simp; omega
    have HF := Lib.hid (refPrint_out (a := a) (fun h => by have := h.2.1; omega))
    clear hk0
    go_enter Tryz.func13, Tryz.ntmps13
    go_upto_region 2 with fail
    obtain ⟨x, hx⟩ : ∃ x, w.heap.size = x := ⟨_, rfl⟩
    obtain ⟨w0, hw0⟩ : ∃ w0, (w.alloc (.cells #[.int .i64 a.kind, .int .i64 a.thread, .int .i64 a.n, .int .i64 a.okind, .string ⟨a.path.toArray⟩, .string ⟨a.dest.toArray⟩, .int .i64 a.at_, .int .i64 a.on, .slice p8 n8 m8, .slice p9 n9 m9] 29)).alloc (.cells #[.int .i64 a.okind, .string ⟨a.path.toArray⟩, .string ⟨a.dest.toArray⟩, .int .i64 a.at_, .int .i64 a.on, .slice p8 n8 m8] 26) = w0 := ⟨_, rfl⟩
    rw [hw0, hx]
    have hA : ActC w0 x a (.slice p8 n8 m8) (.slice p9 n9 m9) := by
      subst hw0 hx
      constructor <;> simp [go_sem]
    have hO : OpC w0 (x + 1) a (.slice p8 n8 m8) := by
      subst hw0 hx
      constructor <;> simp [go_sem]
    have nw : Newer w w0 := hw0 ▸ (Newer.alloc _ _).trans (Newer.alloc _ _)
    have H0 := Lib.hid (And.intro hA nw)
    obtain ⟨a0, a1, a2, a3, a4, a5, a6, a7, a8, a9⟩ := hA
    obtain ⟨o0, o1, o2, o3, o4, o5⟩ := hO
    clear nw hw0 hx
    go_wp2_with (go_at_call 27; refine (in_any _ _).mono ?_; rintro e w' ⟨rfl, rfl⟩)
    go_ret2
    exact ⟨ret_sb ⟨HF.out.1, HF.out.2⟩, H0.out.2⟩

end Go.Proofs.YtgdaaafejfjilaaGreatDoor

/- contracts of the reference's Text -/
namespace Go.Proofs.YtgdaaafejfjilaaGreatDoor
open Go.RowKit
attribute [local go_sem] Oper.semAt_some undef

/-- a text so far: cut short once it is too long -/
structure TxI (l : List ActL) (j : Nat) (t : Bs) (long : Bool) : Prop where
  len : t.length ≤ 70000
  all : ∃ u, textL (l.take j) = some u
  short : long = false → textL (l.take j) = some t ∧ l.length ≤ 2000 ∧ t.length ≤ 65536
  long : long = true → 2000 < l.length ∨ ∃ u, textL (l.take j) = some u ∧ 65536 < u.length

theorem TxI.start (l : List ActL) : TxI l 0 [] (decide (2000 < l.length)) :=
  ⟨by simp, ⟨[], rfl⟩, fun h => ⟨rfl, by simpa using h, by simp⟩, fun h => .inl (by simpa using h)⟩
theorem TxI.next_long {l : List ActL} {j : Nat} {t s : Bs} (h : TxI l j t true) (hj : j < l.length) (hs : printL l[j] = some s) : TxI l (j + 1) t true := by
  obtain ⟨u, hu⟩ := h.all
  have hn := textL_next hj hu hs
  refine ⟨h.len, ⟨_, hn⟩, fun h => by simp at h, fun _ => ?_⟩
  rcases h.long rfl with h1 | ⟨u', hu', hl⟩
  · exact .inl h1
  · refine .inr ⟨_, hn, ?_⟩
    rw [hu] at hu'
    simp only [Option.some.injEq] at hu'
    subst hu'
    rw [List.length_append]; omega
theorem TxI.next_short {l : List ActL} {j : Nat} {t s : Bs} (h : TxI l j t false) (hj : j < l.length) (hs : printL l[j] = some s) : TxI l (j + 1) (t ++ (s ++ [10])) (decide (65536 < (t ++ (s ++ [10])).length)) := by
  obtain ⟨h1, h2, h3⟩ := h.short rfl
  have hn := textL_next hj h1 hs
  have hl := (parse_line (print_some hs).1).1
  refine ⟨by simp; omega, ⟨_, hn⟩, fun h => ⟨hn, h2, by simpa using h⟩, fun h => .inr ⟨_, hn, by simpa using h⟩⟩
theorem TxI.fin_long {l : List ActL} {j : Nat} {t : Bs} (h : TxI l j t true) (hj : l.length ≤ j) : textE l = ([], 3) := by
  obtain ⟨u, hu⟩ := h.all
  rw [List.take_of_length_le hj] at hu
  refine textE_long hu ?_
  rcases h.long rfl with h1 | ⟨u', hu', hl⟩
  · exact .inl h1
  · rw [List.take_of_length_le hj] at hu'
    rw [hu] at hu'
    simp only [Option.some.injEq] at hu'
    subst hu'
    exact .inr hl
theorem TxI.fin_short {l : List ActL} {j : Nat} {t : Bs} (h : TxI l j t false) (hj : l.length ≤ j) : textE l = (t, 0) := by
  obtain ⟨h1, h2, h3⟩ := h.short rfl
  rw [List.take_of_length_le hj] at h1
  exact textE_yes h1 (by omega)

set_option maxRecDepth 100000 in
set_option maxHeartbeats 3200000 in
theorem refText_any (l : List ActL) (v : Value) (w : World) (h : SliceA w v l) (hl : l.length ≤ 100000) :
    Calls Tryz.prog 21 #[v] w fun e w' => e = .returned (.tuple #[.string ⟨(textE l).1.toArray⟩, .int .i64 (textE l).2]) ∧ Newer w w' := by
  obtain ⟨p, cp, rfl, hp⟩ := h
  obtain ⟨n, hn⟩ : ∃ n, l.length = n := ⟨_, rfl⟩
  have hst := TxI.start l
  rw [hn] at hl hst ⊢
  have HP := Lib.hid (And.intro hn hp)
  have HST := Lib.hid hst
  clear hp hn hst
  have hdec : decide ((2000 : Int) < (n : Int)) = decide (2000 < n) := by congr 1; exact propext ⟨fun h => by omega, fun h => by omega⟩
  have HDEC := Lib.hid hdec
  clear hdec
  go_enter Tryz.func21, Tryz.ntmps21
  go_wp2_with fail
  go_loopw [4, 5, 6] (fun s g i wr => ∃ (j : Nat) (t : Bs) (b : Bool), j ≤ n ∧ i = .int .i64 j ∧ s = .string ⟨t.toArray⟩ ∧ g = .bool b ∧ TxI l j t b ∧ Newer w wr) (fun _ _ i _ => n - (intOf i).toNat)
  case atStart => exact ⟨0, [], _, Nat.zero_le _, rfl, rfl, by rw [HDEC.out], HST.out, Newer.refl _⟩
  case round =>
    obtain ⟨j, t, b, hj, rfl, rfl, rfl, hi, hw⟩ := hrel
    have htl := hi.len
    have HI := Lib.hid hi
    have HW := Lib.hid hw
    clear hi hw
    by_cases hlt : j < n
    · obtain ⟨g, o, v8, v9, rfl, hc, s8, s9⟩ := HP.out.2 j (by rw [HP.out.1]; exact hlt)
      obtain ⟨a, ha⟩ : ∃ a, l[j]'(by rw [HP.out.1]; exact hlt) = a := ⟨_, rfl⟩
      rw [ha] at hc s8 s9
      obtain ⟨q8, l8, e8, -⟩ := id s8
      obtain ⟨q9, l9, e9, -⟩ := id s9
      obtain ⟨k8, hk8⟩ : ∃ k, a.bytes.length = k := ⟨_, rfl⟩
      obtain ⟨k9, hk9⟩ : ∃ k, a.marks.length = k := ⟨_, rfl⟩
      rw [hk8] at e8
      rw [hk9] at e9
      subst e8 e9
      have HS := Lib.hid (And.intro (s8.newer HW.out) (s9.newer HW.out))
      have HA := Lib.hid ha
      obtain ⟨c0, c1, c2, c3, c4, c5, c6, c7, c8, c9⟩ := hc.newer HW.out
      clear hc s8 s9 ha hk8 hk9
      go_wp2_with fail
      refine (refPrint_any a q8 q9 k8 k9 l8 l9 _ ⟨HS.out.1, HS.out.2⟩).mono ?_
      rintro e w1 ⟨rfl, n1⟩
      have HN1 := Lib.hid (HW.out.trans n1)
      clear n1 c0 c1 c2 c3 c4 c5 c6 c7 c8 c9
      cases hpr : printL a with
      | none =>
        have HF := Lib.hid (textE_no (l := l) (j := j) (by rw [HP.out.1]; exact hlt) (by rw [HA.out]; exact hpr))
        clear hpr
        simp only [Option.isSome_none, Option.getD_none]
        go_wp2_with fail
        go_ret2
        exact ⟨ret_se ⟨by rw [HF.out], by rw [HF.out]⟩, HN1.out⟩
      | some s =>
        have hsl := (parse_line (print_some hpr).1).1
        have hpr' : printL (l[j]'(by rw [HP.out.1]; exact hlt)) = some s := by rw [HA.out]; exact hpr
        simp only [Option.isSome_some, Option.getD_some]
        cases b with
        | true =>
          have HNX := Lib.hid (HI.out.next_long (by rw [HP.out.1]; exact hlt) hpr')
          clear hpr hpr' hsl
          go_wp2_with fail
          go_roundw
          case rel => exact ⟨j + 1, t, true, by omega, by go_num, rfl, rfl, HNX.out, HN1.out⟩
          case measure => simp [intOf]; omega
        | false =>
          have hnx := HI.out.next_short (by rw [HP.out.1]; exact hlt) hpr'
          obtain ⟨s1, hs1⟩ : ∃ s1, t ++ s = s1 := ⟨_, rfl⟩
          obtain ⟨t1, ht1⟩ : ∃ t1, s1 ++ [10] = t1 := ⟨_, rfl⟩
          rw [← List.append_assoc, hs1, ht1] at hnx
          have hl1 : s1.length = t.length + s.length := by rw [← hs1]; simp
          have ha7 : ¬ 9223372036854775807 < t.length + s.length := by omega
          have ha8 : ¬ 9223372036854775807 < s1.length + 1 := by omega
          have hcat := cat_str t s
          have hcat2 := cat_str s1 [10]
          rw [hs1] at hcat
          rw [ht1] at hcat2
          have HNX := Lib.hid hnx
          have HD : Hid (decide ((65536 : Int) < (t1.length : Int)) = decide (65536 < t1.length)) := Lib.hid (by congr 1; exact propext ⟨fun h => by omega, fun h => by omega⟩)
          clear hpr hpr' hsl hs1 ht1 hl1 hnx
          go_wp2_with fail
          go_roundw
          case rel => exact ⟨j + 1, t1, _, by omega, by go_num, rfl, by rw [HD.out], HNX.out, HN1.out⟩
          case measure => simp [intOf]; omega
    · cases b with
      | true =>
        have HF := Lib.hid (HI.out.fin_long (by rw [HP.out.1]; omega))
        go_wp2_with fail
        go_ret2
        exact ⟨ret_se ⟨by rw [HF.out], by rw [HF.out]⟩, HW.out⟩
      | false =>
        have HF := Lib.hid (HI.out.fin_short (by rw [HP.out.1]; omega))
        go_wp2_with fail
        go_ret2
        exact ⟨ret_se ⟨by rw [HF.out], by rw [HF.out]⟩, HW.out⟩

end Go.Proofs.YtgdaaafejfjilaaGreatDoor
