/- ScriptJoins: a slice of acts appended to a row; the walk -/
import Derived.Test.YtgdaaafejfjilaaGreatDoorW34
import Derived.Laws.OwnMore
namespace Go.Proofs.YtgdaaafejfjilaaGreatDoor
open Go.RowKit
attribute [local go_sem] Oper.semAt_some undef

/-- a slice is nil, or has a place -/
def NilOr (v : Value) : Prop := v = .slice none 0 0 ∨ ∃ A n c, v = .slice (some A) n c

/-- a slice of acts, with what its acts' slices are -/
theorem SliceA.rows {w : World} {v : Value} {l : List ActL} (h : SliceA w v l) (hn : NilOr v) : ∃ rs : List (ActL × Value × Value), rs.map (·.1) = l ∧ (∀ r ∈ rs, SliceB w r.2.1 r.1.bytes ∧ SliceM w r.2.2 r.1.marks) ∧
    ((v = .slice none 0 0 ∧ rs = []) ∨ ∃ A cap, v = .slice (some A) l.length cap ∧ ∀ j u, (rs.flatMap actCs)[j]? = some u → w.cell? (A.add j) = some u) := by
  obtain ⟨p, cap, rfl, h⟩ := h
  have key : ∀ j, j < l.length → ∃ x : Value × Value, ∃ hj : j < l.length, ∃ g o, p = some ⟨g, o, none⟩ ∧ ActF w g (o + j * 10) l[j] x.1 x.2 ∧ SliceB w x.1 l[j].bytes ∧ SliceM w x.2 l[j].marks := fun j hj => by
    obtain ⟨g, o, v8, v9, hp, h1, h2, h3⟩ := h j hj
    exact ⟨(v8, v9), hj, g, o, hp, h1, h2, h3⟩
  haveI : Inhabited (Value × Value) := ⟨(undef, undef)⟩
  obtain ⟨X, hX⟩ := Go.Deep.choose_lt (α := Value × Value) key
  refine ⟨(List.range l.length).map fun j => (l.getD j ActL.zero, X j), ?_, ?_, ?_⟩
  · apply List.ext_getElem
    · simp
    · intro j h1 h2
      simp [List.getD, List.getElem?_eq_getElem h2]
  · intro r hr
    obtain ⟨j, hj, rfl⟩ := List.mem_map.1 hr
    obtain ⟨hj', g, o, _, _, h8, h9⟩ := hX j (by simpa using hj)
    simp only [List.getD, List.getElem?_eq_getElem hj', Option.getD_some]
    exact ⟨h8, h9⟩
  · by_cases h0 : l.length = 0
    · have hl : l = [] := List.length_eq_zero_iff.1 h0
      subst hl
      rcases hn with hn | ⟨A, n, c, hn⟩
      · exact .inl ⟨hn, rfl⟩
      · simp only [Value.slice.injEq] at hn
        exact .inr ⟨A, cap, by rw [hn.1], fun j u hu => by simp at hu⟩
    · obtain ⟨_, g, o, hp, _⟩ := hX 0 (by omega)
      subst hp
      refine .inr ⟨_, cap, rfl, fun j u hu => ?_⟩
      have hjl : j < l.length * 10 := by
        have := (List.getElem?_eq_some_iff.1 hu).1
        have hlen : ∀ rs : List (ActL × Value × Value), (rs.flatMap actCs).length = rs.length * 10 := by
          intro rs
          induction rs with
          | nil => rfl
          | cons r rs ih => rw [List.flatMap_cons, List.length_append, ih]; simp [actCs]; omega
        rw [hlen] at this
        simpa using this
      have hd : j = j / 10 * 10 + j % 10 := by omega
      have hq : j / 10 < l.length := by omega
      obtain ⟨hq', g', o', hp', hF, _⟩ := hX (j / 10) hq
      simp only [Option.some.injEq, Addr.mk.injEq] at hp'
      obtain ⟨rfl, rfl, -⟩ := hp'
      rw [hd, actCs_at _ (j / 10) (j % 10) (by simpa using hq) (by omega)] at hu
      simp only [List.getElem_map, List.getElem_range, List.getD, List.getElem?_eq_getElem hq, Option.getD_some] at hu
      rw [add_none, hd]
      have hk : j % 10 < 10 := by omega
      generalize j % 10 = k at hu hk ⊢
      have e : ∀ k, o + (j / 10 * 10 + k) = o + j / 10 * 10 + k := fun k => by omega
      rw [e]
      rcases (by omega : k = 0 ∨ k = 1 ∨ k = 2 ∨ k = 3 ∨ k = 4 ∨ k = 5 ∨ k = 6 ∨ k = 7 ∨ k = 8 ∨ k = 9) with rfl | rfl | rfl | rfl | rfl | rfl | rfl | rfl | rfl | rfl <;> simp only [actCs] at hu <;> first
        | (obtain rfl := Option.some.inj hu; first | exact hF.c0 | exact hF.c1 | exact hF.c2 | exact hF.c3 | exact hF.c4 | exact hF.c5 | exact hF.c6 | exact hF.c7 | exact hF.c8 | exact hF.c9)

theorem rows_len : ∀ rs : List (ActL × Value × Value), (rs.flatMap actCs).length = rs.length * 10
  | [] => rfl
  | r :: rs => by rw [List.flatMap_cons, List.length_append, rows_len rs]; simp [actCs]; omega

theorem row_slice {E : Nat} {A : World} {v : Value} {rs : List (ActL × Value × Value)} (hrow : A.ownsRow E 29 10 v rs.length (rs.flatMap actCs)) (hsl : ∀ r ∈ rs, SliceB A r.2.1 r.1.bytes ∧ SliceM A r.2.2 r.1.marks) : SliceA A v (rs.map (·.1)) := by
  obtain ⟨p, cap, rfl⟩ := ownsRow_slice hrow
  refine ⟨p, cap, by rw [List.length_map], fun j hj => ?_⟩
  have hj' : j < rs.length := by simpa using hj
  rcases hrow.2 with ⟨e, h0⟩ | ⟨g, cap', cur, hv, _⟩
  · omega
  · simp only [Value.slice.injEq] at hv
    obtain ⟨rfl, -, rfl⟩ := hv
    have hcell : ∀ k, k < 10 → ∀ u, (actCs rs[j])[k]? = some u → A.cell? ⟨g, j * 10 + k, none⟩ = some u := fun k hk u hu => by
      have := hrow.cells (g := g) rfl (j * 10 + k) u (by rw [actCs_at rs j k hj' hk]; exact hu)
      rwa [add_none, Nat.zero_add] at this
    have hm := hsl rs[j] (List.getElem_mem _)
    rw [List.getElem_map]
    refine ⟨g, 0, rs[j].2.1, rs[j].2.2, rfl, ?_, hm⟩
    rw [Nat.zero_add]
    exact ⟨hcell 0 (by omega) _ rfl, hcell 1 (by omega) _ rfl, hcell 2 (by omega) _ rfl, hcell 3 (by omega) _ rfl, hcell 4 (by omega) _ rfl, hcell 5 (by omega) _ rfl, hcell 6 (by omega) _ rfl, hcell 7 (by omega) _ rfl, hcell 8 (by omega) _ rfl, hcell 9 (by omega) _ rfl⟩

theorem run_append_acts {w0 w : World} {v : Value} {n : Nat} {xs : List Value} (hown : w.ownsRow w0.heap.size 29 10 v n xs) {x : Value} {l : List ActL} (hx : SliceA w0 x l) (hn : NilOr x) (nw : Newer w0 w) (hb : n + l.length ≤ 1000) :
    ∃ rs : List (ActL × Value × Value), rs.map (·.1) = l ∧ (∀ r ∈ rs, SliceB w0 r.2.1 r.1.bytes ∧ SliceM w0 r.2.2 r.1.marks) ∧ ∃ v' w', (Builtin.append_ #[31, 31] 31 #[v, x]).run Tryz.prog w = .ok v' w' ∧ w'.ownsRow w0.heap.size 29 10 v' (n + l.length) (xs ++ rs.flatMap actCs) ∧ Grow (fun k => w0.heap.size ≤ k) w w' := by
  obtain ⟨i0, hi, hz0, hz1, hz2⟩ := info_parts Tryz.info29
  obtain ⟨rs, hrs, hsl, h⟩ := hx.rows hn
  refine ⟨rs, hrs, hsl, ?_⟩
  have hlen : rs.length = l.length := by rw [← hrs, List.length_map]
  rcases h with ⟨rfl, rfl⟩ | ⟨A, cap, rfl, hc⟩
  · have hl0 : l.length = 0 := by rw [← hlen]; rfl
    refine ⟨v, w, run_append_owned_none (P := Tryz.prog) w w0.heap.size 31 31 29 i0 10 Tryz.underlying31 hi v n xs hown, ?_, Grow.refl _ _⟩
    rw [hl0, Nat.add_zero, List.flatMap_nil, List.append_nil]
    exact hown
  · have h1 : ∀ u ∈ rs.flatMap actCs, u.oneCell' = true := by
      intro u hu
      obtain ⟨r, hr, hur⟩ := List.mem_flatMap.1 hu
      obtain ⟨p8, c8, e8, -⟩ := (hsl r hr).1
      obtain ⟨p9, c9, e9, -⟩ := (hsl r hr).2
      exact actCs_one r (by rw [e8]; rfl) (by rw [e9]; rfl) u hur
    obtain ⟨v', w', hr, ho, hg, _⟩ := run_append_own (P := Tryz.prog) w w0.heap.size 31 31 29 i0 _ 10 128 Tryz.underlying31 hi hz0 hz1 hz2 rfl (by decide) v n xs hown A l.length cap (rs.flatMap actCs) (by rw [rows_len, hlen]) (fun j u hu => newer_cell (hc j u hu) nw) h1 (by unfold maxLen; omega) (by omega) nw.size
    exact ⟨v', w', hr, ho, (show Grow (fun k => v.ownBlock = some k) w w' from ⟨hg.os, hg.tape, hg.output, hg.size, fun k hk hno => hg.block k hk (fun h => hno h.symm)⟩).mono (fun k hk => (hown.lt k hk).1)⟩

end Go.Proofs.YtgdaaafejfjilaaGreatDoor

/- ScriptJoins: the walk -/
namespace Go.Proofs.YtgdaaafejfjilaaGreatDoor
open Go.RowKit
attribute [local go_sem] Oper.semAt_some undef

theorem textE_small {l : List ActL} (h : l.length ≤ 40) : textE l = match textL l with | none => ([], 2) | some t => (t, 0) := by
  unfold textE
  cases ht : textL l with
  | none => rfl
  | some t =>
    have := textL_len l t ht
    simp only
    rw [if_neg (by omega)]

theorem wpList_append_run {P : Program} {w : World} {ops : Array Oper} {rest : List Oper} {o : Oper} {a : Act} {Q : Exit → Act → World → Prop} (hgd : o.guard = none) (s x : Operand) (t : TypeId)
    (ho : o.op = .call { callee := .builtin .append, args := #[s, x], argTypes := #[t, t] }) {v u : Value} (hs : a.eval s = v) (hx : a.eval x = u) {v' : Value} {w' : World}
    (hr : (Builtin.append_ #[t, t] o.type #[v, u]).run P w = .ok v' w') (h : wpList P ops Q rest (a.put o.dst v') w') : wpList P ops Q (o :: rest) a w := by
  refine wpList_plain hgd fun K hK => ?_
  unfold Oper.wp execOp
  simp only [ho, resolve, invoke, builtin, Sem.run_bind, Sem.run_pure, Result.andThen_ok, List.map_toArray, List.map_cons, List.map_nil, hs, hx, hr]
  exact hK _ _ h

set_option maxRecDepth 100000 in
set_option maxHeartbeats 3200000 in
theorem scriptJoins_any (l r : List ActL) (hi : ∀ a ∈ l, I64s a) (hj : ∀ a ∈ r, I64s a) (hlm : l.length ≤ maxLen) (hrm : r.length ≤ maxLen) (v u : Value) (w : World) (E : Env w) (hl : SliceA w v l) (hr : SliceA w u r) (hnv : NilOr v) (hnu : NilOr u) :
    Calls Tryz.prog 9 #[v, u] w fun e w' => e = .returned (.bool true) ∧ Newer w w' := by
  have HE := Lib.hid E
  have HL := Lib.hid hl
  have HR := Lib.hid hr
  have HI := Lib.hid hi
  have HJ := Lib.hid hj
  have HNV := Lib.hid (And.intro hnv hnu)
  clear E hl hr hi hj hnv hnu
  go_enter Tryz.func9, Tryz.ntmps9
  go_wp2_with fail
  refine (few_any l v 10 w HL.out (by unfold maxLen at hlm; omega)).mono ?_
  rintro e w1 ⟨rfl, n1⟩
  have HN1 := Lib.hid n1
  clear n1
  obtain ⟨fw, hfw⟩ : ∃ f, fewL l 10 = f := ⟨_, rfl⟩
  rw [hfw]
  have HF := Lib.hid hfw
  clear hfw
  cases fw with
  | false =>
    go_wp2_with fail
    refine (works_any _ (HE.out.newer HN1.out)).mono ?_
    rintro e w2 ⟨rfl, n2⟩
    have HN2 := Lib.hid (HN1.out.trans n2)
    clear n2
    go_wp2_with fail
    go_ret
    exact ⟨rfl, HN2.out⟩
  | true =>
    go_wp2_with fail
    refine (few_any r u 10 w1 (HR.out.newer HN1.out) (by unfold maxLen at hrm; omega)).mono ?_
    rintro e w2 ⟨rfl, n2⟩
    have HN2 := Lib.hid (HN1.out.trans n2)
    clear n2
    obtain ⟨fw, hfw⟩ : ∃ f, fewL r 10 = f := ⟨_, rfl⟩
    rw [hfw]
    have HG := Lib.hid hfw
    clear hfw
    cases fw with
    | false =>
      go_wp2_with fail
      refine (works_any _ (HE.out.newer HN2.out)).mono ?_
      rintro e w3 ⟨rfl, n3⟩
      have HN3 := Lib.hid (HN2.out.trans n3)
      clear n3
      go_wp2_with fail
      go_ret
      exact ⟨rfl, HN3.out⟩
    | true =>
      have HFL := Lib.hid (fewL_all HF.out)
      have HFR := Lib.hid (fewL_all HG.out)
      have hll : l.length ≤ 10 := by have := HFL.out.2; omega
      have hrl : r.length ≤ 10 := by have := HFR.out.2; omega
      have HFIT : Hid (∀ a ∈ l ++ r, Fit a) := Lib.hid (fun a ha => by
        rcases List.mem_append.1 ha with ha | ha
        · exact fit_of (HI.out a ha) (HFL.out.1 a ha)
        · exact fit_of (HJ.out a ha) (HFR.out.1 a ha))
      have HMK : Hid (∀ a ∈ l ++ r, a.marks.length ≤ 1000000) := Lib.hid (fun a ha => by have := (HFIT.out a ha).m; omega)
      have hlr : (l ++ r).length = l.length + r.length := List.length_append
      obtain ⟨⟨t1, k1⟩, hq1⟩ : ∃ q, textE l = q := ⟨_, rfl⟩
      obtain ⟨⟨t2, k2⟩, hq2⟩ : ∃ q, textE r = q := ⟨_, rfl⟩
      obtain ⟨⟨t3, k3⟩, hq3⟩ : ∃ q, textE (l ++ r) = q := ⟨_, rfl⟩
      have HQ := Lib.hid (And.intro hq1 (And.intro hq2 hq3))
      go_wp2_with fail
      refine (text_any l v _ (HE.out.newer HN2.out) (HL.out.newer HN2.out) (fun a ha => HFIT.out a (List.mem_append_left _ ha)) (by omega)).mono ?_
      rw [hq1]
      clear hq1
      rintro e w3 ⟨rfl, n3⟩
      have HN3 := Lib.hid (HN2.out.trans n3)
      clear n3
      go_wp2_with fail
      refine (text_any r u _ (HE.out.newer HN3.out) (HR.out.newer HN3.out) (fun a ha => HFIT.out a (List.mem_append_right _ ha)) (by omega)).mono ?_
      rw [hq2]
      clear hq2
      rintro e w4 ⟨rfl, n4⟩
      have HN4 := Lib.hid (HN3.out.trans n4)
      clear n4
      have na : Newer w4 (w4.alloc (.cells #[] 29)) := Newer.alloc _ _
      have h0 : (w4.alloc (.cells #[] 29)).ownsRow w.heap.size 29 10 (.slice (some ⟨w4.heap.size, 0, none⟩) 0 0) 0 [] := World.ownsRow_lit w4 #[] 0 HN4.out.size (by decide) rfl
      obtain ⟨rs1, hrs1, hsl1, v1, w5, hap1, hown1, g1⟩ := run_append_acts h0 HL.out HNV.out.1 (HN4.out.trans na) (by omega)
      have N5 : Newer w w5 := Grow.trans (HN4.out.trans na) g1
      obtain ⟨rs2, hrs2, hsl2, v2, w6, hap2, hown2, g2⟩ := run_append_acts hown1 HR.out HNV.out.2 N5 (by omega)
      have N6 : Newer w w6 := Grow.trans N5 g2
      have HN6 := Lib.hid N6
      have HS6 : Hid (SliceA w6 v2 (l ++ r)) := Lib.hid (by
        have hln : (rs1 ++ rs2).length = 0 + l.length + r.length := by rw [List.length_append, ← hrs1, ← hrs2, List.length_map, List.length_map]; omega
        have := row_slice (E := w.heap.size) (A := w6) (v := v2) (rs := rs1 ++ rs2) (by rw [hln, List.flatMap_append]; simpa using hown2) (fun q hq => by
          rcases List.mem_append.1 hq with hq | hq
          · exact ⟨(hsl1 q hq).1.newer N6, (hsl1 q hq).2.newer N6⟩
          · exact ⟨(hsl2 q hq).1.newer N6, (hsl2 q hq).2.newer N6⟩)
        rwa [List.map_append, hrs1, hrs2] at this)
      clear hsl1 hown1 hsl2 hown2 g1 g2 N5 N6 na h0 hrs1 hrs2
      go_wp2_with (at_builtin; first
        | refine wpList_append_run rfl _ _ _ rfl rfl rfl hap1 ?_
        | refine wpList_append_run rfl _ _ _ rfl rfl rfl hap2 ?_)
      refine (text_any (l ++ r) v2 w6 (HE.out.newer HN6.out) HS6.out HFIT.out (by omega)).mono ?_
      rw [hq3]
      clear hq3 hap1 hap2
      rintro e w7 ⟨rfl, n7⟩
      have HN7 := Lib.hid (HN6.out.trans n7)
      have HS7 := Lib.hid (HS6.out.newer n7)
      clear n7 HS6
      have hb : (k1 ≠ 0 ∨ k2 ≠ 0) → t3 = [] ∧ k3 = 2 := by
        intro h
        have e1 := HQ.out.1
        have e2 := HQ.out.2.1
        have e3 := HQ.out.2.2
        rw [textE_small (by omega)] at e1 e2 e3
        rw [textL_app] at e3
        cases h1 : textL l with
        | none =>
          rw [h1] at e3
          simp only [Prod.mk.injEq] at e3
          exact ⟨e3.1.symm, e3.2.symm⟩
        | some x1 =>
          rw [h1] at e1 e3
          cases h2 : textL r with
          | none =>
            rw [h2] at e3
            simp only [Prod.mk.injEq] at e3
            exact ⟨e3.1.symm, e3.2.symm⟩
          | some x2 =>
            rw [h2] at e2
            simp only [Prod.mk.injEq] at e1 e2
            omega
      have hg : k1 = 0 → k2 = 0 → t3 = t1 ++ t2 ∧ k3 = 0 ∧ readE (t1 ++ t2) = (l ++ r, 0, 0) ∧ t1.length + t2.length ≤ 26020 := by
        intro z1 z2
        subst z1 z2
        have e1 := textE_ok HQ.out.1
        have e2 := textE_ok HQ.out.2.1
        have e3 := HQ.out.2.2
        rw [textE_small (by omega), textL_app, e1.1, e2.1] at e3
        simp only [Prod.mk.injEq] at e3
        obtain ⟨rfl, rfl⟩ := e3
        exact ⟨rfl, rfl, text_read HQ.out.2.2, by have := textL_len _ _ e1.1; have := textL_len _ _ e2.1; omega⟩
      have HB := Lib.hid hb
      have HG2 := Lib.hid hg
      have HT1 := textE_len HQ.out.1
      have HT2 := textE_len HQ.out.2.1
      clear hb hg
      by_cases z1 : k1 = 0
      · subst z1
        by_cases z2 : k2 = 0
        · subst z2
          obtain ⟨rfl, rfl, hre, htl⟩ := HG2.out rfl rfl
          obtain ⟨s3, hs3⟩ : ∃ s, t1 ++ t2 = s := ⟨_, rfl⟩
          have hcat := cat_str t1 t2
          have ha7 : ¬ 9223372036854775807 < t1.length + t2.length := by omega
          have hs3l : s3.length ≤ 100000 := by rw [← hs3]; simp; omega
          rw [hs3] at hcat hre ⊢
          have HRE := Lib.hid hre
          clear hs3 hre HB HG2 htl
          go_wp2_with (go_at_call 14; refine (num_any _ _).mono ?_; rintro e w' ⟨rfl, rfl⟩)
          refine (read_any s3 hs3l _ (HE.out.newer HN7.out)).mono ?_
          rintro e w8 ⟨v8, rfl, sl8, n8⟩
          rw [HRE.out] at sl8 ⊢
          have HN8 := Lib.hid (HN7.out.trans n8)
          have HL8 := Lib.hid sl8
          have HS8 := Lib.hid (HS7.out.newer n8)
          clear n8 sl8 HS7
          go_wp2_with (go_at_call 14; refine (num_any _ _).mono ?_; rintro e w' ⟨rfl, rfl⟩)
          refine (same23_any (l ++ r) (l ++ r) v8 v2 _ HL8.out HS8.out (by omega) (by omega) HMK.out HMK.out).mono ?_
          rintro e w9 ⟨⟨bb, rfl, hbb⟩, n9⟩
          obtain rfl : bb = true := hbb.2 rfl
          have HN9 := Lib.hid (HN8.out.trans n9)
          clear n9 hbb
          go_wp2_with (go_at_call 14; refine (num_any _ _).mono ?_; rintro e w' ⟨rfl, rfl⟩)
          refine (works_any _ (HE.out.newer HN9.out)).mono ?_
          rintro e w10 ⟨rfl, n10⟩
          have HN10 := Lib.hid (HN9.out.trans n10)
          clear n10
          go_wp2_with fail
          go_ret
          exact ⟨rfl, HN10.out⟩
        · obtain ⟨rfl, rfl⟩ := HB.out (.inr z2)
          have f2 : (k2 != 0) = true := by simpa using z2
          clear z2 HB HG2 HQ
          go_wp2_with (go_at_call 14; refine (num_any _ _).mono ?_; rintro e w' ⟨rfl, rfl⟩)
          refine (works_any _ (HE.out.newer HN7.out)).mono ?_
          rintro e w10 ⟨rfl, n10⟩
          have HN10 := Lib.hid (HN7.out.trans n10)
          clear n10
          go_wp2_with fail
          go_ret
          exact ⟨rfl, HN10.out⟩
      · obtain ⟨rfl, rfl⟩ := HB.out (.inl z1)
        have f1 : (k1 != 0) = true := by simpa using z1
        clear z1 HB HG2 HQ
        go_wp2_with (go_at_call 14; refine (num_any _ _).mono ?_; rintro e w' ⟨rfl, rfl⟩)
        refine (works_any _ (HE.out.newer HN7.out)).mono ?_
        rintro e w10 ⟨rfl, n10⟩
        have HN10 := Lib.hid (HN7.out.trans n10)
        clear n10
        go_wp2_with fail
        go_ret
        exact ⟨rfl, HN10.out⟩

set_option maxRecDepth 100000 in
theorem open_nil {H : Type} {enc : TypeId × Value → H} {w : World} {base : Nat} {spare : Nat → Bool} {held : Bool} {r : Reach} {b0 : Nat} {w0 : World} {v : Value} {d : DataW H} {ps : List MemPlace} (hval : Value.okWide Tryz.prog w0 r b0 31 v) (hd : DataW.Trod enc Tryz.prog w base spare held 31 v d ps) : NilOr v := by
  obtain ⟨sa, n, cap, rfl⟩ := WideShapes.okWide_slice Tryz.underlying31 hval
  obtain ⟨fuel, hf⟩ := hd
  rcases Go.Deep.open_slice Tryz.underlying31 hf with ⟨h, _⟩ | ⟨a, len, cap', m, n', D, Pl, h, _⟩
  · simp only [Value.cells, List.cons.injEq, and_true] at h
    exact .inl h
  · simp only [Value.cells, List.cons.injEq, and_true] at h
    exact .inr ⟨_, _, _, h⟩

end Go.Proofs.YtgdaaafejfjilaaGreatDoor
