/- contracts: script.lines, an iterator -/
import Derived.Test.YtgdaaafejfjilaaGreatDoorW20
import Derived.LoopNIn
import Derived.LoopIn
namespace Go.Proofs.YtgdaaafejfjilaaGreatDoor
open Go.RowKit Go.Maps
attribute [local go_sem] Oper.semAt_some undef

/-- lines that are not empty, each with its number -/
def numberedL : Nat → List Bs → List (Nat × Bs)
  | _, [] => []
  | i, s :: r => if s = [] then numberedL (i + 1) r else (i, s) :: numberedL (i + 1) r
theorem numbered_app : ∀ (a b : List Bs) (i : Nat), numberedL i (a ++ b) = numberedL i a ++ numberedL (i + a.length) b
  | [], b, i => by simp [numberedL]
  | s :: a, b, i => by
    rw [List.cons_append, numberedL, numberedL, numbered_app a b (i + 1)]
    split
    · rw [List.length_cons, show i + 1 + a.length = i + (a.length + 1) by omega]
    · rw [List.length_cons, show i + 1 + a.length = i + (a.length + 1) by omega]; rfl
theorem numbered_take (ws : List Bs) (k : Nat) (h : k < ws.length) : numberedL 1 (ws.take (k + 1)) = numberedL 1 (ws.take k) ++ (if ws[k] = [] then [] else [(k + 1, ws[k])]) := by
  rw [List.take_succ_eq_append_getElem h, numbered_app]
  congr 1
  rw [List.length_take, Nat.min_eq_left (by omega), numberedL, numberedL, Nat.add_comm 1 k]
theorem numbered_pre (ws : List Bs) (k : Nat) : numberedL 1 (ws.take k) <+: numberedL 1 ws :=
  ⟨numberedL (1 + (ws.take k).length) (ws.drop k), by rw [← numbered_app, List.take_append_drop]⟩

theorem lines_any (s : Bs) (w : World) : Calls Tryz.prog 40 #[.string ⟨s.toArray⟩] w fun e w' =>
    e = .returned (.func (.func 57) #[] #[.pointer (some ⟨w.heap.size, 0, none⟩)]) ∧ w' = w.alloc (.cells #[.string ⟨s.toArray⟩] 9) := by
  have hmf : ∀ (fn : Fn) (first cap : Array Value) (w : World), (Instr.makeFunc fn first cap).run Tryz.prog w = .ok (.func fn first cap) w := fun _ _ _ _ => rfl
  go_enter Tryz.func40, Tryz.ntmps40
  go_wp2
  go_ret
  exact ⟨rfl, rfl⟩

theorem Newer.grow {w W : World} (h : Newer w W) (own : Nat → Prop) : Grow own w W := ⟨h.os, h.tape, h.output, h.size, fun _ hk _ => Newer.block h hk⟩

theorem split10 (s : Bs) : ((Lib.splitB ⟨#[10]⟩ 0 (Lib.countB ⟨s.toArray⟩ ⟨#[10]⟩) ⟨s.toArray⟩).map Value.string).toArray = ((wordsL 10 s).map (fun x => Value.string ⟨x.toArray⟩)).toArray ∧ Lib.countB ⟨s.toArray⟩ ⟨#[10]⟩ + 1 = (wordsL 10 s).length := by
  have h := Lib.splitB_data ⟨#[10]⟩ 0 (Lib.countB ⟨s.toArray⟩ ⟨#[10]⟩) ⟨s.toArray⟩
  have e : Lib.splitK [10] 0 (Lib.countB ⟨s.toArray⟩ ⟨#[10]⟩) s = wordsL 10 s := by
    rw [← split_words]
  have h : (Lib.splitB ⟨#[10]⟩ 0 (Lib.countB ⟨s.toArray⟩ ⟨#[10]⟩) ⟨s.toArray⟩).map (·.data.toList) = wordsL 10 s := h.trans e
  constructor
  · rw [← h, List.map_map]
    rfl
  · rw [← h, List.length_map, Lib.splitB_all _ (by decide) _ _ _ rfl]

abbrev encL : Nat × Bs → Array Value := fun x => #[.int .i64 x.1, .string ⟨x.2.toArray⟩]

set_option maxRecDepth 100000 in
set_option maxHeartbeats 1600000 in
theorem lines_iter (tb : Nat) (s : Bs) (hs : s.length ≤ 100000) (w : World) (Ev : Env w) (htb : tb < w.heap.size) (hc : w.cell? ⟨tb, 0, none⟩ = some (.string ⟨s.toArray⟩)) :
    Iter Tryz.prog 57 #[.pointer (some ⟨tb, 0, none⟩)] encL (numberedL 1 (wordsL 10 s)) (fun k => k = tb) w := by
  intro l W hW J Jx sJ sJx h0 hY
  have hc1 : W.cell? ⟨tb, 0, none⟩ = some (.string ⟨s.toArray⟩) := (hW.cell (p := ⟨tb, 0, none⟩) htb).trans hc
  obtain ⟨m, hm⟩ := (Ev.below hW Ev.lt).ml
  clear hc
  obtain ⟨ws, hws⟩ : ∃ ws, wordsL 10 s = ws := ⟨_, rfl⟩
  obtain ⟨n, hn⟩ : ∃ n, ws.length = n := ⟨_, rfl⟩
  have hn1 : n ≤ 100001 := by rw [← hn, ← hws]; exact Nat.le_trans (words_cnt 10 s) (by omega)
  gi_enter Tryz.func57, Tryz.ntmps57
  gi_wp2_with fail
  refine (callsIn_wide.2 (Tryz.strings_Split _ _ m W (by show s.toArray.size < _; simp; omega) hm (by decide))).mono ?_
  rintro e W1 ⟨rfl, hW1⟩
  obtain ⟨q1, q2⟩ := split10 s
  rw [q1, hws] at hW1
  rw [q2, hws, hn]
  obtain ⟨g, hg⟩ : ∃ g, W.heap.size = g := ⟨_, rfl⟩
  have z1 : W1.heap.size = g + 1 := by rw [hW1]; simp [hg]
  have n1 : Newer W W1 := hW1 ▸ Newer.alloc _ _
  have hcell : ∀ j (h : j < ws.length), W1.cell? ⟨g, j, none⟩ = some (.string ⟨(ws[j]).toArray⟩) := fun j h => by
    rw [hW1, ← hg]
    simp [go_sem, h]
  have HWS := Lib.hid (And.intro hws hn)
  have HC := Lib.hid hcell
  have J0 := Lib.hid (sJ (g + 1) [] W W1 (h0 _) (Newer.grow n1 _))
  have HY := Lib.hid hY
  have SJ := Lib.hid (And.intro sJ sJx)
  have hgle : W.heap.size ≤ g := by omega
  have HG := Lib.hid hgle
  clear hgle
  rw [hg] at HY ⊢
  clear hcell hws hn q1 q2 hm hc1 hW1 n1 h0 hY sJ sJx hW
  gi_wp2
  gi_loopw [8] (fun i wr => ∃ k : Nat, i = .int .i64 k ∧ k ≤ n ∧ J (g + 1) (numberedL 1 (ws.take k)) wr ∧ (∀ j (h : j < ws.length), wr.cell? ⟨g, j, none⟩ = some (.string ⟨(ws[j]).toArray⟩)) ∧ g + 1 ≤ wr.heap.size)
    (fun i _ => n - (intOf i).toNat)
  case atStart => exact ⟨0, rfl, Nat.zero_le _, J0.out, HC.out, by omega⟩
  case round =>
    obtain ⟨k, rfl, hk, hJ, hcell, hz⟩ := hrel
    have HJ := Lib.hid hJ
    have HCL := Lib.hid hcell
    clear hJ hcell
    by_cases hlt : k < n
    · have hkl : k < ws.length := by rw [HWS.out.2]; exact hlt
      obtain ⟨x, hx⟩ : ∃ x, ws[k] = x := ⟨_, rfl⟩
      have c0 : wr.cell? ⟨g, k, none⟩ = some (.string ⟨x.toArray⟩) := by rw [HCL.out k hkl, hx]
      have hnt := numbered_take ws k hkl
      rw [hx] at hnt
      have HNT := Lib.hid hnt
      clear hnt hx
      by_cases hx0 : x = []
      · subst hx0
        have HNX : Hid (numberedL 1 (ws.take (k + 1)) = numberedL 1 (ws.take k)) := Lib.hid (by rw [HNT.out]; simp)
        clear hkl
        gi_wp2_with fail
        go_roundw
        case rel => exact ⟨k + 1, by go_num, by omega, by rw [HNX.out]; exact HJ.out, HCL.out, hz⟩
        case measure => simp [intOf]; omega
      · have HNX : Hid (numberedL 1 (ws.take (k + 1)) = numberedL 1 (ws.take k) ++ [(k + 1, x)]) := Lib.hid (by rw [HNT.out, if_neg hx0])
        have hpre : numberedL 1 (ws.take k) ++ [(k + 1, x)] <+: numberedL 1 (wordsL 10 s) := by rw [← HNX.out, HWS.out.1]; exact numbered_pre ws _
        obtain ⟨fn, tmps, assign, body, hy, hR⟩ := HY.out (g + 1) _ _ wr hpre (Nat.le_succ _) hz HJ.out
        have hxe : (x == []) = false := by simpa using hx0
        have hxi : x.isEmpty = false := by simpa using hx0
        clear hpre hkl hx0
        have henc : encL (k + 1, x) = #[.int .i64 ((k : Int) + 1), .string ⟨x.toArray⟩] := by simp [encL]
        rw [henc] at hy
        clear henc
        gi_wp2_with fail
        refine hR.mono ?_
        rintro e W3 ⟨hk3, hz3, (⟨rfl, hJ3⟩ | ⟨rfl, hJx3⟩)⟩
        · have hcl3 : ∀ j (h : j < ws.length), W3.cell? ⟨g, j, none⟩ = some (.string ⟨(ws[j]).toArray⟩) := fun j h => (World.cell?_of_block (hk3 g (.inr ⟨Nat.le_refl _, Nat.lt_succ_self _⟩))).trans (HCL.out j h)
          have H3 := Lib.hid (And.intro hJ3 hcl3)
          clear hJ3 hcl3 hk3 c0 hy
          gi_wp2_with fail
          go_roundw
          case rel => exact ⟨k + 1, by go_num, by omega, by rw [HNX.out]; exact H3.out.1, H3.out.2, by omega⟩
          case measure => simp [intOf]; omega
        · have HJX := Lib.hid hJx3
          clear hJx3 hk3 c0 hy
          gi_wp2_with fail
          refine bodyPost_ret (results_none rfl _ _ _) rfl ?_
          refine ⟨⟨_, rfl⟩, g + 1, Nat.le_succ_of_le HG.out, .inr ⟨_, ?_, by simp, HJX.out⟩⟩
          rw [← HNX.out, HWS.out.1]
          exact numbered_pre ws _
    · have hJ' : J (g + 1) (numberedL 1 (wordsL 10 s)) wr := by
        have := HJ.out
        rw [List.take_of_length_le (by rw [HWS.out.2]; omega)] at this
        rw [HWS.out.1]; exact this
      have HJ' := Lib.hid hJ'
      clear hJ'
      gi_wp2_with fail
      go_end0
      exact ⟨⟨_, rfl⟩, g + 1, Nat.le_succ_of_le HG.out, .inl HJ'.out⟩

end Go.Proofs.YtgdaaafejfjilaaGreatDoor
