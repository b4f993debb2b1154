/- contracts of the reference's Read -/
import Derived.Test.YtgdaaafejfjilaaGreatDoorW27
import Derived.Test.YtgdaaafejfjilaaGreatDoorW23
import Derived.Maps.AppendAt
namespace Go.Proofs.YtgdaaafejfjilaaGreatDoor
open Go.RowKit
attribute [local go_sem] Oper.semAt_some undef

theorem rf_e {i : Nat} {s : Bs} {r : List Bs} {out : List ActL} (hs : s = []) : readFrom i (s :: r) out = readFrom (i + 1) r out := by rw [readFrom, if_pos hs]
theorem rf_s {i : Nat} {s : Bs} {r : List Bs} {out : List ActL} {a : ActL} (hs : s ≠ []) (hp : parseL s = some a) : readFrom i (s :: r) out = readFrom (i + 1) r (out ++ [a]) := by rw [readFrom, if_neg hs, hp]
theorem rf_n {i : Nat} {s : Bs} {r : List Bs} {out : List ActL} (hs : s ≠ []) (hp : parseL s = none) : readFrom i (s :: r) out = ([], i, 380) := by rw [readFrom, if_neg hs, hp]
/-- lines ahead of the last one -/
theorem readFrom_app : ∀ (ws vs : List Bs) (i : Nat) (acc : List ActL), (readFrom i ws acc).2.2 = 0 → readFrom i (ws ++ vs) acc = readFrom (i + ws.length) vs (readFrom i ws acc).1
  | [], vs, i, acc, _ => rfl
  | s :: ws, vs, i, acc, h => by
    rw [List.cons_append, List.length_cons, show i + (ws.length + 1) = i + 1 + ws.length by omega]
    by_cases hs : s = []
    · rw [rf_e hs] at h ⊢
      rw [rf_e hs]
      exact readFrom_app ws vs (i + 1) acc h
    · cases hp : parseL s with
      | none => rw [rf_n hs hp] at h; simp at h
      | some a =>
        rw [rf_s hs hp] at h ⊢
        rw [rf_s hs hp]
        exact readFrom_app ws vs (i + 1) (acc ++ [a]) h
theorem readFrom_bad : ∀ (ws vs : List Bs) (i : Nat) (acc : List ActL), (readFrom i ws acc).2.2 = 380 → readFrom i (ws ++ vs) acc = readFrom i ws acc
  | [], vs, i, acc, h => by simp [readFrom] at h
  | s :: ws, vs, i, acc, h => by
    rw [List.cons_append]
    by_cases hs : s = []
    · rw [rf_e hs] at h ⊢
      rw [rf_e hs]
      exact readFrom_bad ws vs (i + 1) acc h
    · cases hp : parseL s with
      | none => rw [rf_n hs hp, rf_n hs hp]
      | some a =>
        rw [rf_s hs hp] at h ⊢
        rw [rf_s hs hp]
        exact readFrom_bad ws vs (i + 1) (acc ++ [a]) h

/-- on the way: the text ahead of j: its lines done, and the line at hand -/
structure RfI (s : Bs) (j : Nat) (done_ : List Bs) (cur : Bs) (out : List ActL) : Prop where
  ws : wordsL 10 (s.take j) = done_ ++ [cur]
  rd : readFrom 1 done_ [] = (out, 0, 0)

theorem RfI.start (s : Bs) : RfI s 0 [] [] [] := ⟨by simp [wordsL], rfl⟩
theorem RfI.char {s : Bs} {j : Nat} {d : List Bs} {cur : Bs} {out : List ActL} {c : UInt8} (h : RfI s j d cur out) (hj : j < s.length) (hc : s[j] = c) (hn : c ≠ 10) : RfI s (j + 1) d (cur ++ [c]) out :=
  ⟨by rw [List.take_succ_eq_append_getElem hj, hc, words_snoc 10 c _ _ _ h.ws, if_neg hn], h.rd⟩
theorem readFrom_snoc {d : List Bs} {cur : Bs} {out : List ActL} (h : readFrom 1 d [] = (out, 0, 0)) : readFrom 1 (d ++ [cur]) [] = readFrom (1 + d.length) [cur] out := by
  rw [readFrom_app d [cur] 1 [] (by rw [h]), h]
theorem RfI.line_empty {s : Bs} {j : Nat} {d : List Bs} {cur : Bs} {out : List ActL} (h : RfI s j d cur out) (hc : cur = []) : readFrom 1 (d ++ [cur]) [] = (out, 0, 0) := by
  rw [readFrom_snoc h.rd]; simp [readFrom, hc]
theorem RfI.line_act {s : Bs} {j : Nat} {d : List Bs} {cur : Bs} {out : List ActL} {a : ActL} (h : RfI s j d cur out) (hc : cur ≠ []) (ha : parseL cur = some a) : readFrom 1 (d ++ [cur]) [] = (out ++ [a], 0, 0) := by
  rw [readFrom_snoc h.rd]; simp [readFrom, hc, ha]
theorem RfI.line_bad {s : Bs} {j : Nat} {d : List Bs} {cur : Bs} {out : List ActL} (h : RfI s j d cur out) (hc : cur ≠ []) (ha : parseL cur = none) : readFrom 1 (d ++ [cur]) [] = ([], d.length + 1, 380) := by
  rw [readFrom_snoc h.rd]; simp [readFrom, hc, ha]; omega
theorem RfI.next {s : Bs} {j : Nat} {d : List Bs} {cur : Bs} {out out' : List ActL} (h : RfI s j d cur out) (hj : j < s.length) (hc : s[j] = 10) (hr : readFrom 1 (d ++ [cur]) [] = (out', 0, 0)) : RfI s (j + 1) (d ++ [cur]) [] out' :=
  ⟨by rw [List.take_succ_eq_append_getElem hj, hc, words_snoc 10 10 _ _ _ h.ws, if_pos rfl]; simp, hr⟩
theorem RfI.whole {s : Bs} {d : List Bs} {cur : Bs} {out : List ActL} (h : RfI s s.length d cur out) : wordsL 10 s = d ++ [cur] := by
  have := h.ws
  rwa [List.take_length] at this
/-- the lines of a text begin with those ahead of j -/
theorem words_prefix (c : UInt8) : ∀ (u t : Bs) (d : List Bs) (w : Bs), wordsL c t = d ++ [w] → ∃ x r, wordsL c (t ++ u) = d ++ (x :: r) ∧ (∀ e v, u = c :: v ∨ u = [] → x = w ∨ e = 0)
  | [], t, d, w, h => ⟨w, [], by rw [List.append_nil, h], fun _ _ _ => .inl rfl⟩
  | b :: u, t, d, w, h => by
    have hs := words_snoc c b t d w h
    by_cases hb : b = c
    · rw [if_pos hb] at hs
      obtain ⟨x, r, hx, _⟩ := words_prefix c u (t ++ [b]) (d ++ [w]) [] (by rw [hs]; simp)
      refine ⟨w, x :: r, ?_, fun _ _ _ => .inl rfl⟩
      rw [show t ++ b :: u = t ++ [b] ++ u by simp, hx]; simp
    · rw [if_neg hb] at hs
      obtain ⟨x, r, hx, _⟩ := words_prefix c u (t ++ [b]) d (w ++ [b]) hs
      refine ⟨x, r, by rw [show t ++ b :: u = t ++ [b] ++ u by simp, hx], fun e v hv => ?_⟩
      rcases hv with hv | hv
      · simp only [List.cons.injEq] at hv; exact absurd hv.1 hb
      · cases hv

theorem RfI.bad {s : Bs} {j : Nat} {d : List Bs} {cur : Bs} {out : List ActL} (h : RfI s j d cur out) (hs : s.length ≤ 65536) (hj : (∃ hj : j < s.length, s[j] = 10) ∨ j = s.length) (hc : cur ≠ []) (ha : parseL cur = none) : readE s = ([], d.length + 1, 380) := by
  have hb := h.line_bad hc ha
  have hw : ∃ r, wordsL 10 s = (d ++ [cur]) ++ r := by
    rcases hj with ⟨hj, h10⟩ | rfl
    · have e : s = s.take j ++ (10 :: s.drop (j + 1)) := by rw [← h10, ← List.drop_eq_getElem_cons hj, List.take_append_drop]
      have hs2 := words_snoc 10 10 _ _ _ h.ws
      rw [if_pos rfl] at hs2
      obtain ⟨x, r, hx, _⟩ := words_prefix 10 (s.drop (j + 1)) (s.take j ++ [10]) (d ++ [cur]) [] (by rw [hs2]; simp)
      refine ⟨x :: r, ?_⟩
      rw [← hx]
      congr 1
      rw [List.append_assoc]
      exact e
    · exact ⟨[], by rw [h.whole, List.append_nil]⟩
  obtain ⟨r, hw⟩ := hw
  unfold readE
  rw [if_neg (by omega), hw, readFrom_bad _ _ _ _ (by rw [hb]), hb]
  simp
theorem readE_done {s : Bs} {d : List Bs} {out : List ActL} (hw : wordsL 10 s = d) (hs : s.length ≤ 65536) (hr : readFrom 1 d [] = (out, 0, 0)) : readE s = if 2000 < out.length then ([], 0, 3) else (out, 0, 0) := by
  unfold readE
  rw [if_neg (by omega), hw, hr]

end Go.Proofs.YtgdaaafejfjilaaGreatDoor

/- contracts: the reference's Read -/
namespace Go.Proofs.YtgdaaafejfjilaaGreatDoor
open Go.RowKit
attribute [local go_sem] Oper.semAt_some undef

theorem Off.le {n m : Nat} {v : Value} (h : Off (fun k => k < m) v) (hn : n ≤ m) : Off (fun k => k < n) v := h.sub (fun k hk => by have hk : k < n := hk; show k < m; omega)

/-- an act has been read -/
theorem ref_put {E : Nat} {A W3 W5 W6 : World} {v : Value} {rs : List (ActL × Value × Value)} {a : ActL} {v8 v9 : Value} {p' : Option Addr} {c' L : Nat} (hL : rs.length = L)
    (hE : E ≤ A.heap.size) (hA : Acts E A v rs)
    (n3 : Newer A W3) (n5 : Newer W3 W5) (s8 : SliceB W3 v8 a.bytes ∧ Off (fun k => k < A.heap.size) v8) (s9 : SliceM W3 v9 a.marks ∧ Off (fun k => k < A.heap.size) v9)
    (hown : W6.ownsRow E 29 10 (.slice p' (L + 1) c') (L + 1) (rs.flatMap actCs ++ actCs (a, v8, v9))) (hgrow : W5.grownBy W6 v.ownBlock) (hat : (Value.slice p' (L + 1) c').ownBlock = v.ownBlock ∨ (Value.slice p' (L + 1) c').ownBlock = some W5.heap.size) :
    Acts E W6 (.slice p' (L + 1) c') (rs ++ [(a, v8, v9)]) ∧ (rs ++ [(a, v8, v9)]).length = L + 1 ∧ Grow (fun k => E ≤ k) A W6 := by
  subst hL
  have n25 := n3.trans n5
  have g25 : Grow (fun _ => False) A W5 := Newer.grow n25 _
  have hA5 : Acts E W5 v rs := hA.grow g25 (fun _ h => h.elim)
  have hoff : ∀ x, Off (fun k => k < A.heap.size) x → ∀ n, OffX E v x n := fun x hx n _ B m c e => by
    have h1 : ¬ B.block < A.heap.size := hx B m c e
    refine ⟨by omega, fun q => ?_⟩
    have := hA.row.lt _ q
    omega
  have hA6 := hA5.snoc hown hgrow hat (s8.1.newer n5) (s9.1.newer n5) (hoff _ s8.2 _) (hoff _ s9.2 _)
  have gB : Grow (fun k => v.ownBlock = some k) W5 W6 := ⟨hgrow.os, hgrow.tape, hgrow.output, hgrow.size, fun k hk hno => hgrow.block k hk (fun h => hno h.symm)⟩
  exact ⟨hA6, by simp, (Newer.grow n25 _).trans (gB.mono (fun k hk => (hA.row.lt k hk).1))⟩

theorem ret_3 {v : Value} {a b : Int} {r : List ActL × Nat × Int} (h : a = (r.2.1 : Int) ∧ b = r.2.2) : Ending.returned (.tuple #[v, .int .i64 a, .int .i64 b]) = .returned (.tuple #[v, .int .i64 r.2.1, .int .i64 r.2.2]) := by rw [h.1, h.2]

set_option maxRecDepth 100000 in
set_option maxHeartbeats 6400000 in
theorem refRead_any (s : Bs) (hs : s.length ≤ 100000) (w : World) :
    Calls Tryz.prog 22 #[.string ⟨s.toArray⟩] w (ReadPost s w) := by
  by_cases hlong : 65536 < s.length
  · have hl : decide ((65536 : Int) < (s.length : Int)) = true := by simp; omega
    have HL := Lib.hid hlong
    have hsz : (ByteArray.mk s.toArray).size = s.length := by show s.toArray.size = _; simp
    clear hlong
    go_enter Tryz.func22, Tryz.ntmps22
    go_wp2_with fail
    go_ret3
    refine ⟨_, ret_3 ?_, ?_, Newer.refl _⟩
    · rw [readE_long HL.out]; exact ⟨rfl, rfl⟩
    · rw [readE_long HL.out]; exact SliceA.nil _
  · obtain ⟨i0, hi, hz0, hz1, hz2⟩ := info_parts Tryz.info29
    obtain ⟨n, hn⟩ : ∃ n, s.length = n := ⟨_, rfl⟩
    have hsz : (ByteArray.mk s.toArray).size = n := by show s.toArray.size = n; simp [hn]
    rw [hn] at hs hlong
    have hl : decide ((65536 : Int) < (n : Int)) = false := by simp; omega
    have HN := Lib.hid (And.intro hn (show s.length ≤ 65536 by omega))
    clear hn
    go_enter Tryz.func22, Tryz.ntmps22
    go_wp2_with fail
    go_loopw [5, 6, 7, 8] (fun v x m i wr => ∃ (j : Nat) (d : List Bs) (cur : Bs) (rs : List (ActL × Value × Value)), i = .int .i64 j ∧ x = .string ⟨cur.toArray⟩ ∧ m = .int .i64 d.length ∧ Acts w.heap.size wr v rs ∧ rs.length ≤ j ∧ d.length ≤ j ∧ cur.length ≤ j ∧ Newer w wr ∧ ((j ≤ n ∧ RfI s j d cur (rs.map (·.1))) ∨ (j = n + 1 ∧ readE s = if 2000 < rs.length then ([], 0, 3) else (rs.map (·.1), 0, 0)))) (fun _ _ _ i _ => n + 1 - (intOf i).toNat)
    case atStart => exact ⟨0, [], [], [], rfl, rfl, rfl, Acts.nil _ _, Nat.le_refl _, Nat.le_refl _, Nat.le_refl _, Newer.refl _, .inl ⟨Nat.zero_le _, RfI.start s⟩⟩
    case round =>
      obtain ⟨j, d, cur, rs, rfl, rfl, rfl, hA, hrl, hdl, hcl, hnw, hj⟩ := hrel
      obtain ⟨p, cap, rfl⟩ := ownsRow_slice hA.row
      obtain ⟨L, hL⟩ : ∃ L, rs.length = L := ⟨_, rfl⟩
      obtain ⟨D, hD⟩ : ∃ D, d.length = D := ⟨_, rfl⟩
      rw [hL] at hA hrl hj ⊢
      rw [hD] at hdl ⊢
      have HL := Lib.hid hL
      have HD := Lib.hid hD
      have HA := Lib.hid hA
      have HW := Lib.hid hnw
      have hzw := hnw.size
      clear hA hnw hL hD
      rcases hj with ⟨hjn, hi⟩ | ⟨rfl, hr⟩
      · have hle : (j : Int) ≤ (n : Int) := by omega
        have HI := Lib.hid hi
        clear hi
        have hslice : ∀ h : j < n, (ByteArray.mk s.toArray).extract j (j + 1) = ⟨#[s[j]'(by rw [HN.out.1]; exact h)]⟩ := by
          intro h
          apply ByteArray.ext
          rw [ByteArray.data_extract]
          apply Array.ext'
          simp only [Array.toList_extract, List.extract_eq_take_drop]
          rw [show j + 1 - j = 1 by omega, List.drop_eq_getElem_cons (by rw [HN.out.1]; exact h)]
          rfl
        have hcase : (∃ (c : UInt8) (hlt : j < n), s[j]'(by rw [HN.out.1]; exact hlt) = c ∧ c ≠ 10) ∨ ((j < n ∧ s[j]? = some 10) ∨ j = n) := by
          by_cases hlt : j < n
          · by_cases h10 : s[j]'(by rw [HN.out.1]; exact hlt) = 10
            · exact .inr (.inl ⟨hlt, by rw [List.getElem?_eq_getElem (by rw [HN.out.1]; exact hlt), h10]⟩)
            · exact .inl ⟨_, hlt, rfl, h10⟩
          · exact .inr (.inr (by omega))
        rcases hcase with ⟨c, hlt, hc, h10⟩ | hend
        · have hex := hslice hlt
          rw [hc] at hex
          have h1 : s[j]? = some c := by rw [List.getElem?_eq_getElem (by rw [HN.out.1]; exact hlt), hc]
          have ix := index_str s j (j : Int) c rfl h1 wr
          have t10 : ((c.toNat : Int) != 10) = true := by
            have : ¬ (c.toNat : Int) = 10 := fun e => h10 (UInt8.toNat_inj.1 (by have : (10 : UInt8).toNat = 10 := rfl; omega))
            simpa using this
          have HX := Lib.hid (HI.out.char (by rw [HN.out.1]; exact hlt) hc h10)
          obtain ⟨t1, ht1⟩ : ∃ t1, cur ++ [c] = t1 := ⟨_, rfl⟩
          have hcat := cat_str2 cur [c]
          rw [ht1] at hcat
          have ha7 : ¬ 9223372036854775807 < cur.length + 1 := by omega
          have HL1 : Hid (t1.length = cur.length + 1) := Lib.hid (by rw [← ht1]; simp)
          have HX2 := Lib.hid (ht1 ▸ HX.out)
          have n1 : ((j : Int) + 1).toNat = j + 1 := by omega
          clear h10 HX ht1 hc h1 hslice
          go_wp2_with fail
          go_roundw
          case rel => exact ⟨j + 1, d, t1, rs, by go_num, rfl, by rw [HD.out], HA.out, by rw [HL.out]; omega, by rw [HD.out]; omega, by rw [HL1.out]; omega, HW.out, .inl ⟨by omega, HX2.out⟩⟩
          case measure => simp [intOf]; omega
        · clear hslice
          have HGO : Hid (∀ out', readFrom 1 (d ++ [cur]) [] = (out', 0, 0) → (j + 1 ≤ n ∧ RfI s (j + 1) (d ++ [cur]) [] out') ∨ (j + 1 = n + 1 ∧ readE s = if 2000 < out'.length then ([], 0, 3) else (out', 0, 0))) := Lib.hid (by
            intro out' ho
            rcases hend with ⟨hlt, h10⟩ | rfl
            · refine .inl ⟨by omega, HI.out.next (by rw [HN.out.1]; exact hlt) ?_ ho⟩
              rw [List.getElem?_eq_getElem (by rw [HN.out.1]; exact hlt)] at h10
              simpa using h10
            · refine .inr ⟨rfl, ?_⟩
              have hq := HI.out
              rw [← HN.out.1] at hq
              exact readE_done hq.whole HN.out.2 ho)
          have HBAD : Hid (cur ≠ [] → parseL cur = none → readE s = ([], d.length + 1, 380)) := Lib.hid (by
            refine HI.out.bad HN.out.2 ?_
            rcases hend with ⟨hlt, h10⟩ | rfl
            · refine .inl ⟨by rw [HN.out.1]; exact hlt, ?_⟩
              rw [List.getElem?_eq_getElem (by rw [HN.out.1]; exact hlt)] at h10
              simpa using h10
            · exact .inr HN.out.1.symm)
          have hD1 : (d ++ [cur]).length = D + 1 := by rw [List.length_append, HD.out]; rfl
          have HD1 := Lib.hid hD1
          clear hD1
          by_cases hce : cur = []
          · subst hce
            have HX := Lib.hid (HGO.out _ (HI.out.line_empty rfl))
            clear HGO HBAD
            rcases hend with ⟨hlt, h10⟩ | rfl
            · have ix := index_str s j (j : Int) 10 rfl h10 wr
              clear h10
              go_wp2_with fail
              go_roundw
              case rel => exact ⟨j + 1, d ++ [[]], [], rs, by go_num, rfl, by rw [HD1.out]; rfl, HA.out, by rw [HL.out]; omega, by rw [HD1.out]; omega, Nat.zero_le _, HW.out, by have := HX.out; rwa [List.length_map] at this⟩
              case measure => simp [intOf]; omega
            · go_wp2_with fail
              go_roundw
              case rel => exact ⟨j + 1, d ++ [[]], [], rs, by go_num, rfl, by rw [HD1.out]; rfl, HA.out, by rw [HL.out]; omega, by rw [HD1.out]; omega, Nat.zero_le _, HW.out, by have := HX.out; rwa [List.length_map] at this⟩
              case measure => simp [intOf]
          · have hne : cur.isEmpty = false := by simpa using hce
            have HX : Hid (∀ a, parseL cur = some a → (j + 1 ≤ n ∧ RfI s (j + 1) (d ++ [cur]) [] (rs.map (·.1) ++ [a])) ∨ (j + 1 = n + 1 ∧ readE s = if 2000 < (rs.map (·.1) ++ [a]).length then ([], 0, 3) else (rs.map (·.1) ++ [a], 0, 0))) :=
              Lib.hid (fun a ha => HGO.out _ (HI.out.line_act hce ha))
            have HB : Hid (parseL cur = none → readE s = ([], D + 1, 380)) := Lib.hid (fun h => by rw [HBAD.out hce h, HD.out])
            have hcz : cur.length ≤ 100000 := by omega
            clear hce HGO HBAD
            rcases hend with ⟨hlt, h10⟩ | hlt
            · have ix := index_str s j (j : Int) 10 rfl h10 wr
              clear h10
              go_wp2_with fail
              refine (refParse_any cur hcz wr).mono ?_
              clear ix
              rintro e W3 ⟨b, v8, v9, rfl, hb, ⟨s8, s9⟩, n3⟩
              obtain ⟨q8, l8, e8, -⟩ := id s8.1
              obtain ⟨q9, l9, e9, -⟩ := id s9.1
              cases hp : parseL cur with
              | none =>
                subst e8 e9
                have HRE := Lib.hid (HB.out hp)
                have HN3 := Lib.hid n3
                clear hp n3 s8 s9 hb HB HX
                simp only [Option.isSome_none]
                unfold actV
                go_wp2_with fail
                go_ret3
                refine ⟨_, ret_3 ?_, ?_, (HW.out.trans HN3.out).trans (Newer.alloc _ _)⟩
                · rw [HRE.out]; exact ⟨rfl, rfl⟩
                · rw [HRE.out]; exact SliceA.nil _
              | some a =>
                obtain rfl := hb a hp
                have HX2 := Lib.hid (HX.out _ hp)
                simp only [Option.isSome_some]
                obtain ⟨k8, hk8⟩ : ∃ k, b.bytes.length = k := ⟨_, rfl⟩
                obtain ⟨k9, hk9⟩ : ∃ k, b.marks.length = k := ⟨_, rfl⟩
                rw [hk8] at e8
                rw [hk9] at e9
                subst e8 e9
                have hz3 := n3.size
                have hA3 : Acts w.heap.size W3 (.slice p L cap) rs := HA.out.grow (Newer.grow n3 (fun _ => False)) (fun _ h => h.elim)
                have hrow3 := hA3.row
                rw [HL.out] at hrow3
                have HROW := Lib.hid hrow3
                have HS := Lib.hid (And.intro s8 s9)
                have HN3 := Lib.hid n3
                clear hp hb s8 s9 n3 hA3 hrow3 HX HB hk8 hk9
                unfold actV
                go_wp2_with (at_builtin; refine wpList_append_own_at _ rfl _ _ 31 rfl w.heap.size 29 i0 (.agg #[.int .i64 0, .int .i64 0, .int .i64 0, .int .i64 0, .string ⟨#[]⟩, .string ⟨#[]⟩, .int .i64 0, .int .i64 0, .slice none 0 0, .slice none 0 0]) 10 128 Tryz.underlying31 hi hz0 hz1 hz2 rfl (by decide) _ _ _ rfl ((HROW.out.alloc _).alloc _) ⟨W3.heap.size + 1, 0, none⟩ 1 1 (actCs (b, .slice q8 k8 l8, .slice q9 k9 l9)) rfl rfl (cells_new (W3.alloc _) _ _ _ (by simp)) (actCs_one _ rfl rfl) (by unfold maxLen; omega) (by omega) (by simp; omega) ?_; intro v' W6 hown' hgrow _ hat)
                obtain ⟨p', cap', rfl⟩ := ownsRow_slice hown'
                have fin := ref_put HL.out (by omega) HA.out HN3.out ((Newer.alloc _ _).trans (Newer.alloc _ _)) HS.out.1 HS.out.2 hown' hgrow hat
                have HF := Lib.hid fin
                clear fin hown' hgrow hat
                go_wp2_with fail
                go_roundw
                case rel => ((repeat apply Exists.intro); exact ⟨⟨j + 1, d ++ [cur], [], rs ++ [(b, .slice q8 k8 l8, .slice q9 k9 l9)], by go_num, rfl, by rw [HD1.out]; rfl, HF.out.1, by rw [HF.out.2.1]; omega, by rw [HD1.out]; omega, Nat.zero_le _, Grow.trans HW.out HF.out.2.2, by have := HX2.out; simpa using this⟩, rfl⟩)
                case measure => first | (simp [intOf]; done) | (simp [intOf]; omega)
            · subst hlt
              go_wp2_with fail
              refine (refParse_any cur hcz wr).mono ?_
              rintro e W3 ⟨b, v8, v9, rfl, hb, ⟨s8, s9⟩, n3⟩
              obtain ⟨q8, l8, e8, -⟩ := id s8.1
              obtain ⟨q9, l9, e9, -⟩ := id s9.1
              cases hp : parseL cur with
              | none =>
                subst e8 e9
                have HRE := Lib.hid (HB.out hp)
                have HN3 := Lib.hid n3
                clear hp n3 s8 s9 hb HB HX
                simp only [Option.isSome_none]
                unfold actV
                go_wp2_with fail
                go_ret3
                refine ⟨_, ret_3 ?_, ?_, (HW.out.trans HN3.out).trans (Newer.alloc _ _)⟩
                · rw [HRE.out]; exact ⟨rfl, rfl⟩
                · rw [HRE.out]; exact SliceA.nil _
              | some a =>
                obtain rfl := hb a hp
                have HX2 := Lib.hid (HX.out _ hp)
                simp only [Option.isSome_some]
                obtain ⟨k8, hk8⟩ : ∃ k, b.bytes.length = k := ⟨_, rfl⟩
                obtain ⟨k9, hk9⟩ : ∃ k, b.marks.length = k := ⟨_, rfl⟩
                rw [hk8] at e8
                rw [hk9] at e9
                subst e8 e9
                have hz3 := n3.size
                have hA3 : Acts w.heap.size W3 (.slice p L cap) rs := HA.out.grow (Newer.grow n3 (fun _ => False)) (fun _ h => h.elim)
                have hrow3 := hA3.row
                rw [HL.out] at hrow3
                have HROW := Lib.hid hrow3
                have HS := Lib.hid (And.intro s8 s9)
                have HN3 := Lib.hid n3
                clear hp hb s8 s9 n3 hA3 hrow3 HX HB hk8 hk9
                unfold actV
                go_wp2_with (at_builtin; refine wpList_append_own_at _ rfl _ _ 31 rfl w.heap.size 29 i0 (.agg #[.int .i64 0, .int .i64 0, .int .i64 0, .int .i64 0, .string ⟨#[]⟩, .string ⟨#[]⟩, .int .i64 0, .int .i64 0, .slice none 0 0, .slice none 0 0]) 10 128 Tryz.underlying31 hi hz0 hz1 hz2 rfl (by decide) _ _ _ rfl ((HROW.out.alloc _).alloc _) ⟨W3.heap.size + 1, 0, none⟩ 1 1 (actCs (b, .slice q8 k8 l8, .slice q9 k9 l9)) rfl rfl (cells_new (W3.alloc _) _ _ _ (by simp)) (actCs_one _ rfl rfl) (by unfold maxLen; omega) (by omega) (by simp; omega) ?_; intro v' W6 hown' hgrow _ hat)
                obtain ⟨p', cap', rfl⟩ := ownsRow_slice hown'
                have fin := ref_put HL.out (by omega) HA.out HN3.out ((Newer.alloc _ _).trans (Newer.alloc _ _)) HS.out.1 HS.out.2 hown' hgrow hat
                have HF := Lib.hid fin
                clear fin hown' hgrow hat
                go_wp2_with fail
                go_roundw
                case rel => ((repeat apply Exists.intro); exact ⟨⟨j + 1, d ++ [cur], [], rs ++ [(b, .slice q8 k8 l8, .slice q9 k9 l9)], by go_num, rfl, by rw [HD1.out]; rfl, HF.out.1, by rw [HF.out.2.1]; omega, by rw [HD1.out]; omega, Nat.zero_le _, Grow.trans HW.out HF.out.2.2, by have := HX2.out; simpa using this⟩, rfl⟩)
                case measure => first | (simp [intOf]; done) | (simp [intOf]; omega)
      · have HR := Lib.hid hr
        clear hr
        have hgt : ¬ ((n + 1 : Nat) : Int) ≤ (n : Int) := by omega
        by_cases h2 : 2000 < L
        · have h2' : decide ((2000 : Int) < (L : Int)) = true := by simp; omega
          go_wp2_with fail
          go_ret3
          refine ⟨_, ret_3 ?_, ?_, HW.out⟩
          · rw [HR.out, if_pos h2]; exact ⟨rfl, rfl⟩
          · rw [HR.out, if_pos h2]; exact SliceA.nil _
        · have h2' : decide ((2000 : Int) < (L : Int)) = false := by simp; omega
          go_wp2_with fail
          go_ret3
          refine ⟨_, ret_3 ?_, ?_, HW.out⟩
          · rw [HR.out, if_neg h2]; exact ⟨rfl, rfl⟩
          · rw [HR.out, if_neg h2]; exact HA.out.slice

end Go.Proofs.YtgdaaafejfjilaaGreatDoor
