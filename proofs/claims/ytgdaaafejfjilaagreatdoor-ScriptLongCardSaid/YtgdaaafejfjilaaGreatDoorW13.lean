/- contracts of package script: Parse -/
import Derived.Test.YtgdaaafejfjilaaGreatDoorW12
import Derived.Defers
import Derived.Recover
namespace Go.Proofs.YtgdaaafejfjilaaGreatDoor
open Go.RowKit Go.Maps
attribute [local go_sem] Oper.semAt_some undef

def zeroV : Value := actV ActL.zero (.slice none 0 0) (.slice none 0 0)

theorem zero_put {w : World} {K : Nat → Prop} {b : Nat} {a : ActL} (h : ActAt w K b a) : ∀ Y,
    ((((((((((w.setCell ⟨b, 0, none⟩ (.int .i64 0)).setCell ⟨b, 1, none⟩ (.int .i64 0)).setCell ⟨b, 2, none⟩ (.int .i64 0)).setCell ⟨b, 3, none⟩ (.int .i64 0)).setCell ⟨b, 4, none⟩ (.string ⟨#[]⟩)).setCell ⟨b, 5, none⟩ (.string ⟨#[]⟩)).setCell ⟨b, 6, none⟩ (.int .i64 0)).setCell ⟨b, 7, none⟩ (.int .i64 0)).setCell ⟨b, 8, none⟩ (.slice none 0 0)).setCell ⟨b, 9, none⟩ (.slice none 0 0)) = Y →
    (loadVar 29 ⟨b, 0, none⟩).run Tryz.prog Y = .ok zeroV Y ∧ Grow (fun k => k = b) w Y := by
  rintro _ rfl
  have A0 := h.set_kind 0
  have A1 := A0.set_thread 0
  have A2 := A1.set_n 0
  have A3 := A2.set_okind 0
  have A4 := A3.set_path []
  have A5 := A4.set_dest []
  have A6 := A5.set_at_ 0
  have A7 := A6.set_on 0
  have A8 := A7.set_bytes [] (SliceB.nil _) (Off.nil K)
  have A9 := A8.set_marks [] (SliceM.nil _) (Off.nil K)
  obtain ⟨v8, d8, _⟩ := A7.c8
  obtain ⟨v9, d9, _⟩ := A8.c9
  have q8 := World.cell?_setCell_same _ ⟨b, 8, none⟩ (.slice none 0 0) d8
  refine ⟨load29 A9 (cell_put q8 (by decide)) (World.cell?_setCell_same _ _ _ d9), ?_⟩
  have g : ∀ (W : World) (o : Nat) (x : Value), Grow (fun k => k = b) W (W.setCell ⟨b, o, none⟩ x) := fun W o x => Grow.setCell (own := fun k => k = b) W _ x rfl
  exact Grow.trans (Grow.trans (Grow.trans (Grow.trans (Grow.trans (Grow.trans (Grow.trans (Grow.trans (Grow.trans (g _ _ _) (g _ _ _)) (g _ _ _)) (g _ _ _)) (g _ _ _)) (g _ _ _)) (g _ _ _)) (g _ _ _)) (g _ _ _)) (g _ _ _)

set_option maxRecDepth 100000 in
set_option maxHeartbeats 1600000 in
theorem clear_any (K : Nat → Prop) (b : Nat) (a : ActL) (w : World) (h : ActAt w K b a) :
    Calls Tryz.prog 30 #[.pointer (some ⟨b, 0, none⟩)] w fun e w' => e = .returned (.tuple #[]) ∧ (loadVar 29 ⟨b, 0, none⟩).run Tryz.prog w' = .ok zeroV w' ∧ Grow (fun k => k = b) w w' := by
  obtain ⟨v8, d8, s8⟩ := h.c8
  obtain ⟨v9, d9, s9⟩ := h.c9
  have k0 := h.c0
  have k1 := h.c1
  have k2 := h.c2
  have k3 := h.c3
  have k4 := h.c4
  have k5 := h.c5
  have k6 := h.c6
  have k7 := h.c7
  have kf := h.f
  have hl := h.lt
  have H := Lib.hid h
  clear h s8 s9
  go_enter Tryz.func30, Tryz.ntmps30
  go_wp2_with fail
  go_end0
  obtain ⟨p1, p2⟩ := zero_put H.out _ rfl
  exact ⟨rfl, p1, p2⟩

set_option maxHeartbeats 1600000 in
theorem caught_idle (p q : Addr) (w : World) (R : Ending → FrameMode → World → Prop) (hR : R (.returned (.tuple #[])) .returning w) :
    CallsD Tryz.prog 29 #[.pointer (some p), .func (.func 30) #[] #[.pointer (some q)]] .returning w R := by
  refine callsD_of_wpS Tryz.func29 rfl fun c₀ cs hu => ?_
  apply wpS_seq
  apply wpS_region
  simp [wpOpsS, go_sem, recoverD, hu, Tryz.ntmps29, Exit.thenS]
  refine wpS_of_wp ?_
  change Code.wp Tryz.prog _ _ { tmps := #[.pointer (some p), .func (.func 30) #[] #[.pointer (some q)], .tuple #[], .tuple #[], .nilIface, .nilIface, .tuple #[], .tuple #[], .tuple #[], .tuple #[], .tuple #[], .tuple #[], .tuple #[], .tuple #[]], defers := [] } w
  have HR := Lib.hid hR
  clear hR
  go_wp2
  cases c₀
  simp_all [bodyPostS, results, Tryz.results29]
  exact HR.out

set_option maxRecDepth 100000 in
set_option maxHeartbeats 1600000 in
theorem caught_panic (b c : Nat) (K : Nat → Prop) (a : ActL) (n : Int) (w : World) (h : ActAt w K b a) (hc : w.cell? ⟨c, 0, none⟩ = some (.int .i64 0)) (hf : w.frozen? ⟨c, 0, none⟩ = false) (hne : c ≠ b) (hkc : K c) (R : Ending → FrameMode → World → Prop)
    (hR : ∀ w', (loadVar 29 ⟨b, 0, none⟩).run Tryz.prog w' = .ok zeroV w' → w'.cell? ⟨c, 0, none⟩ = some (.int .i64 n) → Grow (fun k => k = b ∨ k = c) w w' → R (.returned (.tuple #[])) (.panicking [{ v := .iface 33 (.int .i64 n), recovered := true }]) w') :
    CallsD Tryz.prog 29 #[.pointer (some ⟨c, 0, none⟩), .func (.func 30) #[] #[.pointer (some ⟨b, 0, none⟩)]] (.panicking [{ v := .iface 33 (.int .i64 n), recovered := false }]) w R := by
  refine callsD_of_wpS Tryz.func29 rfl fun c₀ cs hu => ?_
  have HR := Lib.hid hR
  have H := Lib.hid h
  have hcl : c < w.heap.size := by have := World.block_lt_of_cell? _ _ hc; simpa using this
  clear hR h
  apply wpS_seq
  apply wpS_region
  simp [wpOpsS, go_sem, recoverD, hu, Tryz.ntmps29, Exit.thenS]
  refine wpS_of_wp ?_
  change Code.wp Tryz.prog _ _ { tmps := #[.pointer (some ⟨c, 0, none⟩), .func (.func 30) #[] #[.pointer (some ⟨b, 0, none⟩)], .tuple #[], .tuple #[], .iface 33 (.int .i64 n), .iface 33 (.int .i64 n), .tuple #[], .tuple #[], .tuple #[], .tuple #[], .tuple #[], .tuple #[], .tuple #[], .tuple #[]], defers := [] } w
  have hta : ∀ w, (Instr.typeAssert (.iface 33 (.int .i64 n)) 20 33 false).run Tryz.prog w = .ok (.int .i64 n) w := fun _ => rfl
  go_wp2_with fail
  have g0 : Grow (fun k => k = c) w (w.setCell ⟨c, 0, none⟩ (.int .i64 n)) := Grow.setCell (own := fun k => k = c) _ _ _ rfl
  have h1 : ActAt (w.setCell ⟨c, 0, none⟩ (.int .i64 n)) K b a := H.out.grow g0 (fun h => hne h.symm) (fun k hk => .inl (by have hk : k = c := hk; exact hk ▸ hkc))
  have c1 : (w.setCell ⟨c, 0, none⟩ (.int .i64 n)).cell? ⟨c, 0, none⟩ = some (.int .i64 n) := World.cell?_setCell_same _ _ _ hc
  refine (clear_any K b a _ h1).mono ?_
  rintro e w' ⟨rfl, h2, h3⟩
  have c2 : w'.cell? ⟨c, 0, none⟩ = some (.int .i64 n) := (h3.cell (p := ⟨c, 0, none⟩) (by have := World.block_lt_of_cell? _ _ c1; simpa using this) hne).trans c1
  have HF := Lib.hid (HR.out w' h2 c2 (Grow.trans (g0.mono (fun k hk => .inr hk)) (h3.mono (fun k hk => .inl hk))))
  clear h2 h3 c1 c2 g0 h1 hc hf
  go_wp2_with fail
  cases c₀
  simp_all [bodyPostS, results, Tryz.results29]
  exact HF.out

/-- what has come of a line, of Parse -/
def ParsePost (s : Bs) (w : World) (e : Ending) (w' : World) : Prop :=
  ((∃ a v, parseL s = some a ∧ e = .returned (.tuple #[v, .int .i64 0]) ∧ ActO (fun k => k < w.heap.size) w' v a) ∨ (parseL s = none ∧ e = .returned (.tuple #[zeroV, .int .i64 380]))) ∧ Newer w w'

theorem results_cell2 {P : Program} {fn : Func} {p q : Tmp} {ty tz : TypeId} (h : fn.results = #[.cell p ty, .cell q tz]) {tmps : Array Value} {w : World} {ad ae : Addr} {v u : Value} (ha : tmps.getD p undef = .pointer (some ad)) (hb : tmps.getD q undef = .pointer (some ae))
    (hl : (loadVar ty ad).run P w = .ok v w) (hm : (loadVar tz ae).run P w = .ok u w) : (results fn tmps).run P w = .ok (.tuple #[v, u]) w := by
  have ha' : tmps[p]?.getD undef = .pointer (some ad) := by simpa using ha
  have hb' : tmps[q]?.getD undef = .pointer (some ae) := by simpa using hb
  simp [results, h, ha', hb', asAddr, hl, hm]

theorem load33 {w : World} {b : Nat} {n : Int} (h : w.cell? ⟨b, 0, none⟩ = some (.int .i64 n)) : (loadVar 33 ⟨b, 0, none⟩).run Tryz.prog w = .ok (.int .i64 n) w := by
  go_simp

set_option maxRecDepth 100000 in
set_option maxHeartbeats 6400000 in
theorem parse_any (s : Bs) (hs : s.length ≤ 100000) (w : World) (E : Env w) :
    Calls Tryz.prog 15 #[.string ⟨s.toArray⟩] w (ParsePost s w) := by
  have hmf : ∀ (fn : Fn) (first cap : Array Value) (w : World), (Instr.makeFunc fn first cap).run Tryz.prog w = .ok (.func fn first cap) w := fun _ _ _ _ => rfl
  go_enter_defers Tryz.func15, Tryz.ntmps15
  go_wp2_with fail
  obtain ⟨b, hb⟩ : ∃ b, w.heap.size = b := ⟨_, rfl⟩
  obtain ⟨w0, hw0⟩ : ∃ w0, w.alloc (.cells #[.int .i64 0, .int .i64 0, .int .i64 0, .int .i64 0, .string ⟨#[]⟩, .string ⟨#[]⟩, .int .i64 0, .int .i64 0, .slice none 0 0, .slice none 0 0] 29) = w0 := ⟨_, rfl⟩
  have z0 : w0.heap.size = b + 1 := by rw [← hw0, ← hb]; simp
  have A0 := zero_act w (fun k => k = b ∨ k = b + 1) (.inl hb)
  rw [hw0, hb] at A0
  rw [hw0, hb]
  obtain ⟨w1, hw1⟩ : ∃ w1, w0.alloc (.cells #[.int .i64 0] 33) = w1 := ⟨_, rfl⟩
  rw [hw1]
  have n0 : Newer w w0 := hw0 ▸ Newer.alloc _ _
  have n1 : Newer w0 w1 := hw1 ▸ Newer.alloc _ _
  have c1 : w1.cell? ⟨b + 1, 0, none⟩ = some (.int .i64 0) := by rw [← hw1, ← z0]; simp [go_sem]
  have f1 : w1.frozen? ⟨b + 1, 0, none⟩ = false := by rw [← hw1, ← z0]; simp [go_sem]
  have z1 : w1.heap.size = b + 2 := by rw [← hw1]; simp [z0]
  refine (parsed_any s hs w1 (E.newer (n0.trans n1))).mono ?_
  rintro e w2 ⟨⟨a, v, hp, rfl, v8, v9, rfl, s8, s9⟩ | ⟨hp, rfl⟩, hn⟩
  · have A2 := (A0.newer n1).newer hn
    have c2 := newer_cell c1 hn
    have f2 : w2.frozen? ⟨b + 1, 0, none⟩ = false := (World.frozen?_of_block (hn.block (by show b + 1 < _; omega))).trans f1
    have hv8 : ∃ p n m, v8 = .slice p n m := by obtain ⟨⟨p, m, e, _⟩, _⟩ := s8; exact ⟨p, _, m, e⟩
    have hv9 : ∃ p n m, v9 = .slice p n m := by obtain ⟨⟨p, m, e, _⟩, _⟩ := s9; exact ⟨p, _, m, e⟩
    obtain ⟨p8, n8, m8, rfl⟩ := hv8
    obtain ⟨p9, n9, m9, rfl⟩ := hv9
    have hsub : ∀ k, (k = b ∨ k = b + 1) → k < w1.heap.size := fun k hk => by omega
    obtain ⟨u8, d8, -⟩ := A2.c8
    obtain ⟨u9, d9, -⟩ := A2.c9
    obtain ⟨Y, hY⟩ : ∃ Y, ((((((((((w2.setCell ⟨b, 0, none⟩ (.int .i64 a.kind)).setCell ⟨b, 1, none⟩ (.int .i64 a.thread)).setCell ⟨b, 2, none⟩ (.int .i64 a.n)).setCell ⟨b, 3, none⟩ (.int .i64 a.okind)).setCell ⟨b, 4, none⟩ (.string ⟨a.path.toArray⟩)).setCell ⟨b, 5, none⟩ (.string ⟨a.dest.toArray⟩)).setCell ⟨b, 6, none⟩ (.int .i64 a.at_)).setCell ⟨b, 7, none⟩ (.int .i64 a.on)).setCell ⟨b, 8, none⟩ (.slice p8 n8 m8)).setCell ⟨b, 9, none⟩ (.slice p9 n9 m9)) = Y := ⟨_, rfl⟩
    obtain ⟨AY, y8, y9, sB, sM, gY⟩ := act_put A2 ⟨s8.1, s8.2.sub hsub⟩ ⟨s9.1, s9.2.sub hsub⟩ d8 d9 Y hY
    have k0 := A2.c0
    have k1 := A2.c1
    have k2 := A2.c2
    have k3 := A2.c3
    have k4 := A2.c4
    have k5 := A2.c5
    have k6 := A2.c6
    have k7 := A2.c7
    have kf := A2.f
    have hl := A2.lt
    have hl2 : b + 1 < w2.heap.size := by have := hn.size; omega
    have cY : Y.cell? ⟨b + 1, 0, none⟩ = some (.int .i64 0) := (gY.cell (p := ⟨b + 1, 0, none⟩) hl2 (by show ¬ b + 1 = b; omega)).trans c2
    have fY : Y.frozen? ⟨b + 1, 0, none⟩ = false := (gY.frozen (p := ⟨b + 1, 0, none⟩) hl2 (by show ¬ b + 1 = b; omega)).trans f2
    have HA := Lib.hid (And.intro A2 (And.intro AY (And.intro y8 (And.intro y9 (And.intro sB (And.intro sM gY))))))
    have HN := Lib.hid (And.intro n0 (And.intro n1 hn))
    have H89 := Lib.hid (And.intro s8 s9)
    clear A0 A2 AY y8 y9 sB sM gY n0 n1 hn hw0 hw1 E s8 s9
    unfold actV
    go_wp2_with fail
    obtain ⟨Z, hZ⟩ : ∃ z, Y.setCell ⟨b + 1, 0, none⟩ (.int .i64 0) = z := ⟨_, rfl⟩
    rw [hZ]
    have gZ : Grow (fun k => k = b + 1) Y Z := hZ ▸ Grow.setCell (own := fun k => k = b + 1) Y ⟨b + 1, 0, none⟩ _ rfl
    have cZ : Z.cell? ⟨b + 1, 0, none⟩ = some (.int .i64 0) := by rw [← hZ]; exact World.cell?_setCell_same _ _ _ cY
    obtain ⟨A2, AY, y8, y9, sB, sM, gY⟩ := HA.out
    have hlY := AY.lt
    have AZ := AY.grow gZ (fun h => by have h : b = b + 1 := h; omega) (fun k hk => .inl (.inr hk))
    have e8 := (gZ.cell (p := ⟨b, 8, none⟩) hlY (by show ¬ b = b + 1; omega)).trans y8
    have e9 := (gZ.cell (p := ⟨b, 9, none⟩) hlY (by show ¬ b = b + 1; omega)).trans y9
    have s8 := SliceB.grow sB gZ (fun A n c e hA hk => H89.out.1.2 A n c e (by have hk : A.block = b + 1 := hk; show A.block < w1.heap.size; omega))
    have s9 := SliceM.grow sM gZ (fun A n c e hA hk => H89.out.2.2 A n c e (by have hk : A.block = b + 1 := hk; show A.block < w1.heap.size; omega))
    have hsub2 : ∀ k, k < w.heap.size → k < w1.heap.size := fun k hk => by omega
    refine leaves_cons (f := 29) (args := #[.pointer (some ⟨b + 1, 0, none⟩), .func (.func 30) #[] #[.pointer (some ⟨b, 0, none⟩)]]) (by simp) (by simp [go_sem]) ?_
    refine caught_idle _ _ _ _ ?_
    refine ⟨_, results_cell2 rfl (ad := ⟨b, 0, none⟩) (ae := ⟨b + 1, 0, none⟩) rfl rfl (load29 AZ e8 e9) (load33 cZ), .inl ⟨a, _, hp, rfl, _, _, rfl, ⟨s8, H89.out.1.2.sub hsub2⟩, ⟨s9, H89.out.2.2.sub hsub2⟩⟩, ?_⟩
    refine Grow.trans (Grow.trans ((HN.out.1.trans HN.out.2.1).trans HN.out.2.2) (gY.mono (fun k hk => ?_))) (gZ.mono (fun k hk => ?_))
    · have hk : k = b := hk
      show w.heap.size ≤ k
      omega
    · have hk : k = b + 1 := hk
      show w.heap.size ≤ k
      omega
  · have A2 := (A0.newer n1).newer hn
    have c2 := newer_cell c1 hn
    have f2 : w2.frozen? ⟨b + 1, 0, none⟩ = false := (World.frozen?_of_block (hn.block (by show b + 1 < _; omega))).trans f1
    refine leaves_cons (f := 29) (args := #[.pointer (some ⟨b + 1, 0, none⟩), .func (.func 30) #[] #[.pointer (some ⟨b, 0, none⟩)]]) (by simp) (by simp [go_sem]) ?_
    refine caught_panic b (b + 1) (fun k => k = b ∨ k = b + 1) ActL.zero 380 w2 A2 c2 f2 (by omega) (.inr rfl) _ ?_
    intro w3 l3 c3 g3
    refine ⟨_, results_cell2 rfl (ad := ⟨b, 0, none⟩) (ae := ⟨b + 1, 0, none⟩) rfl rfl l3 (load33 c3), .inr ⟨hp, rfl⟩, ?_⟩
    refine Grow.trans ((n0.trans n1).trans hn) (g3.mono (fun k hk => ?_))
    show w.heap.size ≤ k
    omega

end Go.Proofs.YtgdaaafejfjilaaGreatDoor
