/- contracts of package script: the closures that show; the table of parts -/
import Derived.Test.YtgdaaafejfjilaaGreatDoorW08
import Derived.Test.YtgdaaafejfjilaaGreatDoorW09
import Derived.Laws.EntriesVeiled
namespace Go.Proofs.YtgdaaafejfjilaaGreatDoor
open Go.RowKit
attribute [local go_sem] Oper.semAt_some undef

/-- an act as a value -/
def actV (a : ActL) (v8 v9 : Value) : Value := .agg #[.int .i64 a.kind, .int .i64 a.thread, .int .i64 a.n, .int .i64 a.okind, .string ⟨a.path.toArray⟩, .string ⟨a.dest.toArray⟩, .int .i64 a.at_, .int .i64 a.on, v8, v9]
def ActV (w : World) (v : Value) (a : ActL) : Prop := ∃ v8 v9, v = actV a v8 v9 ∧ SliceB w v8 a.bytes ∧ SliceM w v9 a.marks
theorem ActV.newer {w W : World} {v : Value} {a : ActL} (h : ActV w v a) (g : Newer w W) : ActV W v a := by
  obtain ⟨v8, v9, rfl, h8, h9⟩ := h
  exact ⟨v8, v9, rfl, h8.newer g, h9.newer g⟩
/-- numbers that are ints -/
def I64 (n : Int) : Prop := -9223372036854775808 ≤ n ∧ n ≤ 9223372036854775807

section
variable (bc : Nat) (a : ActL) (v8 v9 : Value) (w : World)

theorem numShow1 (hg : Field 59 1) (hi : I64 a.thread) (E : Env w) (hcg : w.cell? ⟨bc, 0, none⟩ = some (.func (.func 59) #[] #[])) :
    Calls Tryz.prog 81 #[actV a v8 v9, .pointer (some ⟨bc, 0, none⟩)] w fun e w' => e = .returned (.string ⟨(Lib.itoa a.thread).toArray⟩) ∧ Newer w w' := by
  have eg := hg.1
  have HG := Lib.hid hg
  have HE := Lib.hid E
  have hlt := World.block_lt_of_cell? _ _ hcg
  obtain ⟨x, hx⟩ : ∃ x, a.thread = x := ⟨_, rfl⟩
  rw [hx] at hi
  obtain ⟨i0, i1⟩ := hi
  unfold actV
  rw [hx]
  clear hg E hx
  go_enter Tryz.func81, Tryz.ntmps81
  go_wp2_with fail
  refine (HG.out.2 _ _).mono ?_
  rintro e w' ⟨rfl, rfl⟩
  go_wp2_with fail
  refine (itoa_any x i0 i1 _ (HE.out.newer (Newer.alloc _ _))).mono ?_
  rintro e w2 ⟨rfl, n2⟩
  have N2 := Lib.hid ((Newer.alloc _ _).trans n2)
  clear n2
  go_wp2
  go_ret
  exact ⟨rfl, N2.out⟩

theorem numShow2 (hg : Field 60 2) (hi : I64 a.n) (E : Env w) (hcg : w.cell? ⟨bc, 0, none⟩ = some (.func (.func 60) #[] #[])) :
    Calls Tryz.prog 81 #[actV a v8 v9, .pointer (some ⟨bc, 0, none⟩)] w fun e w' => e = .returned (.string ⟨(Lib.itoa a.n).toArray⟩) ∧ Newer w w' := by
  have eg := hg.1
  have HG := Lib.hid hg
  have HE := Lib.hid E
  have hlt := World.block_lt_of_cell? _ _ hcg
  obtain ⟨x, hx⟩ : ∃ x, a.n = x := ⟨_, rfl⟩
  rw [hx] at hi
  obtain ⟨i0, i1⟩ := hi
  unfold actV
  rw [hx]
  clear hg E hx
  go_enter Tryz.func81, Tryz.ntmps81
  go_wp2_with fail
  refine (HG.out.2 _ _).mono ?_
  rintro e w' ⟨rfl, rfl⟩
  go_wp2_with fail
  refine (itoa_any x i0 i1 _ (HE.out.newer (Newer.alloc _ _))).mono ?_
  rintro e w2 ⟨rfl, n2⟩
  have N2 := Lib.hid ((Newer.alloc _ _).trans n2)
  clear n2
  go_wp2
  go_ret
  exact ⟨rfl, N2.out⟩

theorem numShow6 (hg : Field 61 6) (hi : I64 a.at_) (E : Env w) (hcg : w.cell? ⟨bc, 0, none⟩ = some (.func (.func 61) #[] #[])) :
    Calls Tryz.prog 81 #[actV a v8 v9, .pointer (some ⟨bc, 0, none⟩)] w fun e w' => e = .returned (.string ⟨(Lib.itoa a.at_).toArray⟩) ∧ Newer w w' := by
  have eg := hg.1
  have HG := Lib.hid hg
  have HE := Lib.hid E
  have hlt := World.block_lt_of_cell? _ _ hcg
  obtain ⟨x, hx⟩ : ∃ x, a.at_ = x := ⟨_, rfl⟩
  rw [hx] at hi
  obtain ⟨i0, i1⟩ := hi
  unfold actV
  rw [hx]
  clear hg E hx
  go_enter Tryz.func81, Tryz.ntmps81
  go_wp2_with fail
  refine (HG.out.2 _ _).mono ?_
  rintro e w' ⟨rfl, rfl⟩
  go_wp2_with fail
  refine (itoa_any x i0 i1 _ (HE.out.newer (Newer.alloc _ _))).mono ?_
  rintro e w2 ⟨rfl, n2⟩
  have N2 := Lib.hid ((Newer.alloc _ _).trans n2)
  clear n2
  go_wp2
  go_ret
  exact ⟨rfl, N2.out⟩

theorem numShow7 (hg : Field 62 7) (hi : I64 a.on) (E : Env w) (hcg : w.cell? ⟨bc, 0, none⟩ = some (.func (.func 62) #[] #[])) :
    Calls Tryz.prog 81 #[actV a v8 v9, .pointer (some ⟨bc, 0, none⟩)] w fun e w' => e = .returned (.string ⟨(Lib.itoa a.on).toArray⟩) ∧ Newer w w' := by
  have eg := hg.1
  have HG := Lib.hid hg
  have HE := Lib.hid E
  have hlt := World.block_lt_of_cell? _ _ hcg
  obtain ⟨x, hx⟩ : ∃ x, a.on = x := ⟨_, rfl⟩
  rw [hx] at hi
  obtain ⟨i0, i1⟩ := hi
  unfold actV
  rw [hx]
  clear hg E hx
  go_enter Tryz.func81, Tryz.ntmps81
  go_wp2_with fail
  refine (HG.out.2 _ _).mono ?_
  rintro e w' ⟨rfl, rfl⟩
  go_wp2_with fail
  refine (itoa_any x i0 i1 _ (HE.out.newer (Newer.alloc _ _))).mono ?_
  rintro e w2 ⟨rfl, n2⟩
  have N2 := Lib.hid ((Newer.alloc _ _).trans n2)
  clear n2
  go_wp2
  go_ret
  exact ⟨rfl, N2.out⟩

theorem wayShow4 (hg : Field 64 4) (hcg : w.cell? ⟨bc, 0, none⟩ = some (.func (.func 64) #[] #[])) :
    Calls Tryz.prog 85 #[actV a v8 v9, .pointer (some ⟨bc, 0, none⟩)] w fun e w' => e = .returned (.string ⟨a.path.toArray⟩) ∧ Newer w w' := by
  have eg := hg.1
  have HG := Lib.hid hg
  have hlt := World.block_lt_of_cell? _ _ hcg
  unfold actV
  clear hg
  go_enter Tryz.func85, Tryz.ntmps85
  go_wp2_with fail
  refine (HG.out.2 _ _).mono ?_
  rintro e w' ⟨rfl, rfl⟩
  go_wp2
  go_ret
  exact ⟨rfl, Newer.alloc _ _⟩

theorem wayShow5 (hg : Field 65 5) (hcg : w.cell? ⟨bc, 0, none⟩ = some (.func (.func 65) #[] #[])) :
    Calls Tryz.prog 85 #[actV a v8 v9, .pointer (some ⟨bc, 0, none⟩)] w fun e w' => e = .returned (.string ⟨a.dest.toArray⟩) ∧ Newer w w' := by
  have eg := hg.1
  have HG := Lib.hid hg
  have hlt := World.block_lt_of_cell? _ _ hcg
  unfold actV
  clear hg
  go_enter Tryz.func85, Tryz.ntmps85
  go_wp2_with fail
  refine (HG.out.2 _ _).mono ?_
  rintro e w' ⟨rfl, rfl⟩
  go_wp2
  go_ret
  exact ⟨rfl, Newer.alloc _ _⟩

theorem bytesShow (hl : a.bytes.length ≤ 1000000) (hs : SliceB w v8 a.bytes) :
    Calls Tryz.prog 68 #[actV a v8 v9] w fun e w' => e = .returned (.string ⟨(hexL a.bytes).toArray⟩) ∧ Newer w w' := by
  have HS := Lib.hid hs
  unfold actV
  clear hs
  go_enter Tryz.func68, Tryz.ntmps68
  go_wp2_with fail
  refine (listedB _ _ hl _ (HS.out.newer (Newer.alloc _ _))).mono ?_
  rintro e w2 ⟨rfl, n2⟩
  have N2 := Lib.hid ((Newer.alloc _ _).trans n2)
  clear n2
  go_wp2
  go_ret
  exact ⟨rfl, N2.out⟩

theorem marksShow (hl : a.marks.length ≤ 1000000) (hs : SliceM w v9 a.marks) :
    Calls Tryz.prog 73 #[actV a v8 v9] w fun e w' => e = .returned (.string ⟨(dotsL a.marks).toArray⟩) ∧ Newer w w' := by
  have HS := Lib.hid hs
  unfold actV
  clear hs
  go_enter Tryz.func73, Tryz.ntmps73
  go_wp2_with fail
  refine (listedM _ _ hl _ (HS.out.newer (Newer.alloc _ _))).mono ?_
  rintro e w2 ⟨rfl, n2⟩
  have N2 := Lib.hid ((Newer.alloc _ _).trans n2)
  clear n2
  go_wp2
  go_ret
  exact ⟨rfl, N2.out⟩
end

theorem numPart (g : Nat) (w : World) : Calls Tryz.prog 58 #[.func (.func g) #[] #[]] w fun e w' => e = .returned (.agg #[.func (.func 79) #[] #[.pointer (some ⟨w.heap.size, 0, none⟩)], .func (.func 81) #[] #[.pointer (some ⟨w.heap.size, 0, none⟩)]]) ∧
    w'.cell? ⟨w.heap.size, 0, none⟩ = some (.func (.func g) #[] #[]) ∧ Newer w w' := by
  have hmf : ∀ (fn : Fn) (first cap : Array Value) (w : World), (Instr.makeFunc fn first cap).run Tryz.prog w = .ok (.func fn first cap) w := fun _ _ _ _ => rfl
  go_enter Tryz.func58, Tryz.ntmps58
  go_wp2
  trace_state
  go_returns
  exact ⟨rfl, by simp [go_sem], (Newer.alloc _ _).trans (Newer.alloc _ _)⟩
theorem wayPart (g : Nat) (w : World) : Calls Tryz.prog 63 #[.func (.func g) #[] #[]] w fun e w' => e = .returned (.agg #[.func (.func 83) #[] #[.pointer (some ⟨w.heap.size, 0, none⟩)], .func (.func 85) #[] #[.pointer (some ⟨w.heap.size, 0, none⟩)]]) ∧
    w'.cell? ⟨w.heap.size, 0, none⟩ = some (.func (.func g) #[] #[]) ∧ Newer w w' := by
  have hmf : ∀ (fn : Fn) (first cap : Array Value) (w : World), (Instr.makeFunc fn first cap).run Tryz.prog w = .ok (.func fn first cap) w := fun _ _ _ _ => rfl
  go_enter Tryz.func63, Tryz.ntmps63
  go_wp2
  trace_state
  go_returns
  exact ⟨rfl, by simp [go_sem], (Newer.alloc _ _).trans (Newer.alloc _ _)⟩

end Go.Proofs.YtgdaaafejfjilaaGreatDoor

/- contracts of package script: the table of parts -/
namespace Go.Proofs.YtgdaaafejfjilaaGreatDoor
open Go.RowKit Go.Maps
attribute [local go_sem] Oper.semAt_some undef

theorem law5 : Keyed Tryz.prog 5 := int_keyed Tryz.underlying5

def numV (b : Nat) : Value := .agg #[.func (.func 79) #[] #[.pointer (some ⟨b, 0, none⟩)], .func (.func 81) #[] #[.pointer (some ⟨b, 0, none⟩)]]
def wayV (b : Nat) : Value := .agg #[.func (.func 83) #[] #[.pointer (some ⟨b, 0, none⟩)], .func (.func 85) #[] #[.pointer (some ⟨b, 0, none⟩)]]
def bytesV : Value := .agg #[.func (.func 66) #[] #[], .func (.func 68) #[] #[]]
def marksV : Value := .agg #[.func (.func 71) #[] #[], .func (.func 73) #[] #[]]

/-- the table of parts, its closures' variables at these blocks -/
def partsD (bt bm ba bn bp bq : Nat) : DataW Value :=
  ((((((((DataW.map []).put (.int .u8 116) (.held (numV bt))).put (.int .u8 109) (.held (numV bm))).put (.int .u8 97) (.held (numV ba))).put (.int .u8 110) (.held (numV bn))).put (.int .u8 112) (.held (wayV bp))).put (.int .u8 113) (.held (wayV bq))).put (.int .u8 98) (.held bytesV)).put (.int .u8 107) (.held marksV)

structure PartsAt (w : World) (B bt bm ba bn bp bq : Nat) : Prop where
  own : w.ownsMap Tryz.prog 5 Rv B 8 (partsD bt bm ba bn bp bq)
  ct : w.cell? ⟨bt, 0, none⟩ = some (.func (.func 59) #[] #[])
  ht : B ≤ bt
  cm : w.cell? ⟨bm, 0, none⟩ = some (.func (.func 60) #[] #[])
  hm : B ≤ bm
  ca : w.cell? ⟨ba, 0, none⟩ = some (.func (.func 61) #[] #[])
  ha : B ≤ ba
  cn : w.cell? ⟨bn, 0, none⟩ = some (.func (.func 62) #[] #[])
  hn : B ≤ bn
  cp : w.cell? ⟨bp, 0, none⟩ = some (.func (.func 64) #[] #[])
  hp : B ≤ bp
  cq : w.cell? ⟨bq, 0, none⟩ = some (.func (.func 65) #[] #[])
  hq : B ≤ bq

theorem own_grown {w W : World} {b n : Nat} {k : TypeId} {D : DataW Value} (h : w.ownsMap Tryz.prog k Rv b n D) (g : Newer w W) : W.ownsMap Tryz.prog k Rv b n D := h.kept g.grownBy (by simp)
theorem cell_grown {w W : World} {B b : Nat} {v : Value} (h : w.cell? ⟨b, 0, none⟩ = some v) (g : w.grownBy W (some B)) (hne : b ≠ B) : W.cell? ⟨b, 0, none⟩ = some v := by
  have hl := World.block_lt_of_cell? _ _ h
  exact (World.cell?_of_block (a := ⟨b, 0, none⟩) (g.block b hl (by simpa using hne))).trans h
theorem Newer.grownAt {w A W : World} {B : Nat} (h : Newer w A) (g : A.grownBy W (some B)) (hB : w.heap.size ≤ B) : Newer w W :=
  Grow.trans h ⟨g.os, g.tape, g.output, g.size, fun k hk hn => g.block k hk (fun e => hn (by injection e with e; rw [e]; exact hB))⟩

set_option maxRecDepth 100000 in
set_option maxHeartbeats 3200000 in
theorem parts_any (w : World) : Calls Tryz.prog 43 #[] w fun en w' => en = .returned (.map (some w.heap.size)) ∧ Newer w w' ∧ ∃ bt bm ba bn bp bq, PartsAt w' w.heap.size bt bm ba bn bp bq := by
  have hmm := @run_makeMap Tryz.prog
  obtain ⟨B, hB⟩ : ∃ B, w.heap.size = B := ⟨_, rfl⟩
  obtain ⟨w0, hw0⟩ : ∃ w0, w.alloc (.map #[] 0) = w0 := ⟨_, rfl⟩
  have hown : w0.ownsMap Tryz.prog 5 Rv B 0 (DataW.map []) := by subst hw0 hB; exact World.ownsMap_made w Tryz.prog 5 Rv
  have hn : Newer w w0 := by subst hw0; exact Newer.alloc _ _
  have hz : B < w0.heap.size := by subst hw0 hB; simp
  have F := Lib.hid (And.intro hown hn)
  have HB := Lib.hid hB
  have HW := Lib.hid hw0
  clear hown hn hw0
  rw [hB]
  clear hB
  go_enter Tryz.func43, Tryz.ntmps43
  go_wp2_with fail
  rw [HW.out, HB.out]
  refine (numPart 59 _).mono ?_
  rintro e w1 ⟨rfl, ct, n1⟩
  obtain ⟨bt, hbt⟩ : ∃ b, w0.heap.size = b := ⟨_, rfl⟩
  have net : bt ≠ B := by omega
  have lbt : B ≤ bt := by omega
  rw [hbt] at ct ⊢
  obtain ⟨hown, hn⟩ := F.out
  have hown1 := own_grown hown n1
  have hn1 := hn.trans n1
  have hz1 : B < w1.heap.size := Nat.lt_of_lt_of_le hz n1.size
  have F1 := Lib.hid (And.intro hown1 (And.intro hn1 ct))
  clear hown hn hown1 hn1 n1 ct hbt hz F
  go_wp2_with (refine wpList_insert_own _ rfl _ _ _ 85 rfl 5 84 law5 Tryz.underlying85 Rv B 0 _ rfl F1.out.1 (by unfold maxLen; omega) _ _ _ rfl rfl (keyOf_int_mk Tryz.underlying5 (by decide)) _ [] rfl ?_; intro w2 h1 g1)
  obtain ⟨-, hn, kt⟩ := F1.out
  have hn2 := hn.grownAt g1 (Nat.le_of_eq HB.out)
  have jt := cell_grown kt g1 net
  have hz : B < w2.heap.size := Nat.lt_of_lt_of_le hz1 g1.size
  have F := Lib.hid (And.intro h1 (And.intro hn2 jt))
  clear h1 g1 hn hn2 hz1 F1 kt jt
  refine (numPart 60 _).mono ?_
  rintro e w3 ⟨rfl, cm, n1⟩
  obtain ⟨bm, hbm⟩ : ∃ b, w2.heap.size = b := ⟨_, rfl⟩
  have nem : bm ≠ B := by omega
  have lbm : B ≤ bm := by omega
  rw [hbm] at cm ⊢
  obtain ⟨hown, hn, kt⟩ := F.out
  have hown1 := own_grown hown n1
  have hn1 := hn.trans n1
  have jt := newer_cell kt n1
  have hz1 : B < w3.heap.size := Nat.lt_of_lt_of_le hz n1.size
  have F1 := Lib.hid (And.intro hown1 (And.intro hn1 (And.intro jt cm)))
  clear hown hn hown1 hn1 n1 cm hbm hz F kt jt
  go_wp2_with (refine wpList_insert_own _ rfl _ _ _ 85 rfl 5 84 law5 Tryz.underlying85 Rv B 1 _ rfl F1.out.1 (by unfold maxLen; omega) _ _ _ rfl rfl (keyOf_int_mk Tryz.underlying5 (by decide)) _ [] rfl ?_; intro w4 h1 g1)
  obtain ⟨-, hn, kt, km⟩ := F1.out
  have hn2 := hn.grownAt g1 (Nat.le_of_eq HB.out)
  have jt := cell_grown kt g1 net
  have jm := cell_grown km g1 nem
  have hz : B < w4.heap.size := Nat.lt_of_lt_of_le hz1 g1.size
  have F := Lib.hid (And.intro h1 (And.intro hn2 (And.intro jt jm)))
  clear h1 g1 hn hn2 hz1 F1 kt jt km jm
  refine (numPart 61 _).mono ?_
  rintro e w5 ⟨rfl, ca, n1⟩
  obtain ⟨ba, hba⟩ : ∃ b, w4.heap.size = b := ⟨_, rfl⟩
  have nea : ba ≠ B := by omega
  have lba : B ≤ ba := by omega
  rw [hba] at ca ⊢
  obtain ⟨hown, hn, kt, km⟩ := F.out
  have hown1 := own_grown hown n1
  have hn1 := hn.trans n1
  have jt := newer_cell kt n1
  have jm := newer_cell km n1
  have hz1 : B < w5.heap.size := Nat.lt_of_lt_of_le hz n1.size
  have F1 := Lib.hid (And.intro hown1 (And.intro hn1 (And.intro jt (And.intro jm ca))))
  clear hown hn hown1 hn1 n1 ca hba hz F kt jt km jm
  go_wp2_with (refine wpList_insert_own _ rfl _ _ _ 85 rfl 5 84 law5 Tryz.underlying85 Rv B 2 _ rfl F1.out.1 (by unfold maxLen; omega) _ _ _ rfl rfl (keyOf_int_mk Tryz.underlying5 (by decide)) _ [] rfl ?_; intro w6 h1 g1)
  obtain ⟨-, hn, kt, km, ka⟩ := F1.out
  have hn2 := hn.grownAt g1 (Nat.le_of_eq HB.out)
  have jt := cell_grown kt g1 net
  have jm := cell_grown km g1 nem
  have ja := cell_grown ka g1 nea
  have hz : B < w6.heap.size := Nat.lt_of_lt_of_le hz1 g1.size
  have F := Lib.hid (And.intro h1 (And.intro hn2 (And.intro jt (And.intro jm ja))))
  clear h1 g1 hn hn2 hz1 F1 kt jt km jm ka ja
  refine (numPart 62 _).mono ?_
  rintro e w7 ⟨rfl, cn, n1⟩
  obtain ⟨bn, hbn⟩ : ∃ b, w6.heap.size = b := ⟨_, rfl⟩
  have nen : bn ≠ B := by omega
  have lbn : B ≤ bn := by omega
  rw [hbn] at cn ⊢
  obtain ⟨hown, hn, kt, km, ka⟩ := F.out
  have hown1 := own_grown hown n1
  have hn1 := hn.trans n1
  have jt := newer_cell kt n1
  have jm := newer_cell km n1
  have ja := newer_cell ka n1
  have hz1 : B < w7.heap.size := Nat.lt_of_lt_of_le hz n1.size
  have F1 := Lib.hid (And.intro hown1 (And.intro hn1 (And.intro jt (And.intro jm (And.intro ja cn)))))
  clear hown hn hown1 hn1 n1 cn hbn hz F kt jt km jm ka ja
  go_wp2_with (refine wpList_insert_own _ rfl _ _ _ 85 rfl 5 84 law5 Tryz.underlying85 Rv B 3 _ rfl F1.out.1 (by unfold maxLen; omega) _ _ _ rfl rfl (keyOf_int_mk Tryz.underlying5 (by decide)) _ [] rfl ?_; intro w8 h1 g1)
  obtain ⟨-, hn, kt, km, ka, kn⟩ := F1.out
  have hn2 := hn.grownAt g1 (Nat.le_of_eq HB.out)
  have jt := cell_grown kt g1 net
  have jm := cell_grown km g1 nem
  have ja := cell_grown ka g1 nea
  have jn := cell_grown kn g1 nen
  have hz : B < w8.heap.size := Nat.lt_of_lt_of_le hz1 g1.size
  have F := Lib.hid (And.intro h1 (And.intro hn2 (And.intro jt (And.intro jm (And.intro ja jn)))))
  clear h1 g1 hn hn2 hz1 F1 kt jt km jm ka ja kn jn
  refine (wayPart 64 _).mono ?_
  rintro e w9 ⟨rfl, cp, n1⟩
  obtain ⟨bp, hbp⟩ : ∃ b, w8.heap.size = b := ⟨_, rfl⟩
  have nep : bp ≠ B := by omega
  have lbp : B ≤ bp := by omega
  rw [hbp] at cp ⊢
  obtain ⟨hown, hn, kt, km, ka, kn⟩ := F.out
  have hown1 := own_grown hown n1
  have hn1 := hn.trans n1
  have jt := newer_cell kt n1
  have jm := newer_cell km n1
  have ja := newer_cell ka n1
  have jn := newer_cell kn n1
  have hz1 : B < w9.heap.size := Nat.lt_of_lt_of_le hz n1.size
  have F1 := Lib.hid (And.intro hown1 (And.intro hn1 (And.intro jt (And.intro jm (And.intro ja (And.intro jn cp))))))
  clear hown hn hown1 hn1 n1 cp hbp hz F kt jt km jm ka ja kn jn
  go_wp2_with (refine wpList_insert_own _ rfl _ _ _ 85 rfl 5 84 law5 Tryz.underlying85 Rv B 4 _ rfl F1.out.1 (by unfold maxLen; omega) _ _ _ rfl rfl (keyOf_int_mk Tryz.underlying5 (by decide)) _ [] rfl ?_; intro w10 h1 g1)
  obtain ⟨-, hn, kt, km, ka, kn, kp⟩ := F1.out
  have hn2 := hn.grownAt g1 (Nat.le_of_eq HB.out)
  have jt := cell_grown kt g1 net
  have jm := cell_grown km g1 nem
  have ja := cell_grown ka g1 nea
  have jn := cell_grown kn g1 nen
  have jp := cell_grown kp g1 nep
  have hz : B < w10.heap.size := Nat.lt_of_lt_of_le hz1 g1.size
  have F := Lib.hid (And.intro h1 (And.intro hn2 (And.intro jt (And.intro jm (And.intro ja (And.intro jn jp))))))
  clear h1 g1 hn hn2 hz1 F1 kt jt km jm ka ja kn jn kp jp
  refine (wayPart 65 _).mono ?_
  rintro e w11 ⟨rfl, cq, n1⟩
  obtain ⟨bq, hbq⟩ : ∃ b, w10.heap.size = b := ⟨_, rfl⟩
  have neq : bq ≠ B := by omega
  have lbq : B ≤ bq := by omega
  rw [hbq] at cq ⊢
  obtain ⟨hown, hn, kt, km, ka, kn, kp⟩ := F.out
  have hown1 := own_grown hown n1
  have hn1 := hn.trans n1
  have jt := newer_cell kt n1
  have jm := newer_cell km n1
  have ja := newer_cell ka n1
  have jn := newer_cell kn n1
  have jp := newer_cell kp n1
  have hz1 : B < w11.heap.size := Nat.lt_of_lt_of_le hz n1.size
  have F1 := Lib.hid (And.intro hown1 (And.intro hn1 (And.intro jt (And.intro jm (And.intro ja (And.intro jn (And.intro jp cq)))))))
  clear hown hn hown1 hn1 n1 cq hbq hz F kt jt km jm ka ja kn jn kp jp
  obtain ⟨hown, hn, kt, km, ka, kn, kp, kq⟩ := F1.out
  clear F1
  go_wp2_with (refine wpList_insert_own _ rfl _ _ _ 85 rfl 5 84 law5 Tryz.underlying85 Rv B _ _ rfl hown (by unfold maxLen; omega) _ _ _ rfl rfl (keyOf_int_mk Tryz.underlying5 (by decide)) _ [] rfl ?_; intro w99 h1 g1; replace hown := h1; replace hn := hn.grownAt g1 (Nat.le_of_eq HB.out); replace kt := cell_grown kt g1 net; replace km := cell_grown km g1 nem; replace ka := cell_grown ka g1 nea; replace kn := cell_grown kn g1 nen; replace kp := cell_grown kp g1 nep; replace kq := cell_grown kq g1 neq; replace hz1 := Nat.lt_of_lt_of_le hz1 g1.size; clear h1 g1)
  go_ret
  exact ⟨rfl, hn, bt, bm, ba, bn, bp, bq, hown, kt, by omega, km, by omega, ka, by omega, kn, by omega, kp, by omega, kq, by omega⟩

end Go.Proofs.YtgdaaafejfjilaaGreatDoor

/- look-ups in the tables; a part: what it reads, what it shows -/
namespace Go.Proofs.YtgdaaafejfjilaaGreatDoor
open Go.RowKit Go.Maps
attribute [local go_sem] Oper.semAt_some undef

theorem atKey_hit {H : Type} (k k' : Int) (q : IntKind) (d z : DataW H) (es : List (Lit × DataW H)) (h : k' = k) : (DataW.map ((.int q k', d) :: es)).atKey (.int q k) z = d := by
  subst h
  simp [DataW.atKey, Lit.sameKey]
theorem atKey_miss {H : Type} (k k' : Int) (q : IntKind) (d z : DataW H) (es : List (Lit × DataW H)) (h : k' ≠ k) : (DataW.map ((.int q k', d) :: es)).atKey (.int q k) z = (DataW.map es).atKey (.int q k) z := by
  simp [DataW.atKey, Lit.sameKey, List.find?, h]
theorem atKey_none {H : Type} (k : Lit) (z : DataW H) : (DataW.map []).atKey k z = z := rfl

theorem verbsE : verbsD = .map [(.int .i64 1, .held (verb [113, 117, 101, 117, 101] [116])), (.int .i64 2, .held (verb [115, 116, 101, 112] [116, 109])), (.int .i64 3, .held (verb [101, 118, 105, 99, 116] [109])), (.int .i64 4, .held (verb [99, 114, 97, 115, 104] [107])), (.int .i64 5, .held (verb [114, 101, 99, 111, 118, 101, 114] [109]))] := by kernel_rfl
theorem verbs_at (k : Int) : verbsD.atKey (.int .i64 k) (.held (verb [] [])) = .held (verb (verbL k).1 (verbL k).2) := by
  rw [verbsE]
  unfold verbL
  by_cases h1 : k = 1
  · rw [if_pos h1, atKey_hit _ _ _ _ _ _ h1.symm]
  rw [if_neg h1, atKey_miss _ _ _ _ _ _ (Ne.symm h1)]
  by_cases h2 : k = 2
  · rw [if_pos h2, atKey_hit _ _ _ _ _ _ h2.symm]
  rw [if_neg h2, atKey_miss _ _ _ _ _ _ (Ne.symm h2)]
  by_cases h3 : k = 3
  · rw [if_pos h3, atKey_hit _ _ _ _ _ _ h3.symm]
  rw [if_neg h3, atKey_miss _ _ _ _ _ _ (Ne.symm h3)]
  by_cases h4 : k = 4
  · rw [if_pos h4, atKey_hit _ _ _ _ _ _ h4.symm]
  rw [if_neg h4, atKey_miss _ _ _ _ _ _ (Ne.symm h4)]
  by_cases h5 : k = 5
  · rw [if_pos h5, atKey_hit _ _ _ _ _ _ h5.symm]
  rw [if_neg h5, atKey_miss _ _ _ _ _ _ (Ne.symm h5)]
  rw [atKey_none]
theorem zero79_verbs (w : World) : (zeroValue 79).run Tryz.prog w = .ok (verb [] []) w := by kernel_rfl
theorem verbs_look {W : World} {B : Nat} (h : W.ownsMap Tryz.prog 22 Rv B 5 verbsD) (k : Int) (hw : I64 k) : (Instr.lookup 80 (.map (some B)) (.int .i64 k) false).run Tryz.prog W = .ok (verb (verbL k).1 (verbL k).2) W := by
  obtain ⟨v, ps, hrun, hv⟩ := h.lookup law22 Tryz.underlying80 (zero79_verbs W) (zd := .held (verb [] [])) (zp := []) rfl (keyOf_int_mk Tryz.underlying22 (WalkArith.wf_i64 hw))
  rw [verbs_at] at hv
  simp only [Rv, Option.some.injEq, Prod.mk.injEq, DataW.held.injEq] at hv
  rw [hrun, hv.1]
theorem opsE : opsD = .map [(.int .i64 1, .held (verb [115, 116, 97, 116] [112])), (.int .i64 2, .held (verb [108, 105, 115, 116] [112])), (.int .i64 3, .held (verb [114, 101, 97, 100] [112, 97, 110])), (.int .i64 4, .held (verb [109, 97, 107, 101] [112])), (.int .i64 5, .held (verb [109, 107, 100, 105, 114] [112])), (.int .i64 6, .held (verb [117, 110, 108, 105, 110, 107] [112])), (.int .i64 7, .held (verb [114, 109, 100, 105, 114] [112])), (.int .i64 8, .held (verb [114, 101, 110, 97, 109, 101] [112, 113])), (.int .i64 9, .held (verb [108, 105, 110, 107] [112, 113])), (.int .i64 10, .held (verb [119, 114, 105, 116, 101] [112, 97, 98])), (.int .i64 11, .held (verb [99, 117, 116] [112, 110]))] := by kernel_rfl
theorem ops_at (k : Int) : opsD.atKey (.int .i64 k) (.held (verb [] [])) = .held (verb (opL k).1 (opL k).2) := by
  rw [opsE]
  unfold opL
  by_cases h1 : k = 1
  · rw [if_pos h1, atKey_hit _ _ _ _ _ _ h1.symm]
  rw [if_neg h1, atKey_miss _ _ _ _ _ _ (Ne.symm h1)]
  by_cases h2 : k = 2
  · rw [if_pos h2, atKey_hit _ _ _ _ _ _ h2.symm]
  rw [if_neg h2, atKey_miss _ _ _ _ _ _ (Ne.symm h2)]
  by_cases h3 : k = 3
  · rw [if_pos h3, atKey_hit _ _ _ _ _ _ h3.symm]
  rw [if_neg h3, atKey_miss _ _ _ _ _ _ (Ne.symm h3)]
  by_cases h4 : k = 4
  · rw [if_pos h4, atKey_hit _ _ _ _ _ _ h4.symm]
  rw [if_neg h4, atKey_miss _ _ _ _ _ _ (Ne.symm h4)]
  by_cases h5 : k = 5
  · rw [if_pos h5, atKey_hit _ _ _ _ _ _ h5.symm]
  rw [if_neg h5, atKey_miss _ _ _ _ _ _ (Ne.symm h5)]
  by_cases h6 : k = 6
  · rw [if_pos h6, atKey_hit _ _ _ _ _ _ h6.symm]
  rw [if_neg h6, atKey_miss _ _ _ _ _ _ (Ne.symm h6)]
  by_cases h7 : k = 7
  · rw [if_pos h7, atKey_hit _ _ _ _ _ _ h7.symm]
  rw [if_neg h7, atKey_miss _ _ _ _ _ _ (Ne.symm h7)]
  by_cases h8 : k = 8
  · rw [if_pos h8, atKey_hit _ _ _ _ _ _ h8.symm]
  rw [if_neg h8, atKey_miss _ _ _ _ _ _ (Ne.symm h8)]
  by_cases h9 : k = 9
  · rw [if_pos h9, atKey_hit _ _ _ _ _ _ h9.symm]
  rw [if_neg h9, atKey_miss _ _ _ _ _ _ (Ne.symm h9)]
  by_cases h10 : k = 10
  · rw [if_pos h10, atKey_hit _ _ _ _ _ _ h10.symm]
  rw [if_neg h10, atKey_miss _ _ _ _ _ _ (Ne.symm h10)]
  by_cases h11 : k = 11
  · rw [if_pos h11, atKey_hit _ _ _ _ _ _ h11.symm]
  rw [if_neg h11, atKey_miss _ _ _ _ _ _ (Ne.symm h11)]
  rw [atKey_none]
theorem zero79_ops (w : World) : (zeroValue 79).run Tryz.prog w = .ok (verb [] []) w := by kernel_rfl
theorem ops_look {W : World} {B : Nat} (h : W.ownsMap Tryz.prog 23 Rv B 11 opsD) (k : Int) (hw : I64 k) : (Instr.lookup 88 (.map (some B)) (.int .i64 k) false).run Tryz.prog W = .ok (verb (opL k).1 (opL k).2) W := by
  obtain ⟨v, ps, hrun, hv⟩ := h.lookup law23 Tryz.underlying88 (zero79_ops W) (zd := .held (verb [] [])) (zp := []) rfl (keyOf_int_mk Tryz.underlying23 (WalkArith.wf_i64 hw))
  rw [ops_at] at hv
  simp only [Rv, Option.some.injEq, Prod.mk.injEq, DataW.held.injEq] at hv
  rw [hrun, hv.1]

theorem partsE (bt bm ba bn bp bq : Nat) : partsD bt bm ba bn bp bq = .map [(.int .u8 97, .held (numV ba)), (.int .u8 98, .held bytesV), (.int .u8 107, .held marksV), (.int .u8 109, .held (numV bm)), (.int .u8 110, .held (numV bn)), (.int .u8 112, .held (wayV bp)), (.int .u8 113, .held (wayV bq)), (.int .u8 116, .held (numV bt))] := by kernel_rfl
theorem parts_look {W : World} {B : Nat} {D : DataW Value} (h : W.ownsMap Tryz.prog 5 Rv B 8 D) (c : UInt8) (v : Value) (hz : D.atKey (.int .u8 c.toNat) (.held (.agg #[.nilFunc, .nilFunc])) = .held v) :
    (Instr.lookup 85 (.map (some B)) (.int .u8 c.toNat) false).run Tryz.prog W = .ok v W := by
  have hc := c.toNat_lt
  obtain ⟨v', ps, hrun, hv⟩ := h.lookup law5 Tryz.underlying85 (show (zeroValue 84).run Tryz.prog W = .ok (.agg #[.nilFunc, .nilFunc]) W by kernel_rfl) (zd := .held (.agg #[.nilFunc, .nilFunc])) (zp := []) rfl (keyOf_int_mk (q := .u8) Tryz.underlying5 ((by decide +kernel : ∀ i : Fin 256, (Lit.int .u8 (i.val : Int)).wf = true) ⟨c.toNat, hc⟩))
  rw [hz] at hv
  simp only [Rv, Option.some.injEq, Prod.mk.injEq, DataW.held.injEq] at hv
  rw [hrun, hv.1]

/-- what may be shown -/
structure Shown (a : ActL) : Prop where
  t : I64 a.thread
  n : I64 a.n
  at_ : I64 a.at_
  on : I64 a.on
  b : a.bytes.length ≤ 1000000
  m : a.marks.length ≤ 1000000

/-- the blocks from B on lie as they lay -/
def Held (B : Nat) (w W : World) : Prop := ∀ k, B ≤ k → k < w.heap.size → W.heap[k]? = w.heap[k]?
theorem Held.newer {w W : World} (B : Nat) (g : Newer w W) : Held B w W := fun _ _ h => g.block h
theorem Held.grow {own : Nat → Prop} {B : Nat} {w W V : World} (h : Held B w W) (g : Grow own W V) (hz : w.heap.size ≤ W.heap.size) (ho : ∀ k, own k → k < B ∨ w.heap.size ≤ k) : Held B w V := fun k h1 h2 =>
  (g.block k (Nat.lt_of_lt_of_le h2 hz) (fun hk => by rcases ho k hk with h3 | h3 <;> omega)).trans (h k h1 h2)
theorem Held.cell {B b : Nat} {w W : World} {v : Value} (g : Held B w W) (h : w.cell? ⟨b, 0, none⟩ = some v) (hb : B ≤ b) : W.cell? ⟨b, 0, none⟩ = some v := by
  have hl := World.block_lt_of_cell? _ _ h
  exact (World.cell?_of_block (a := ⟨b, 0, none⟩) (g b hb hl)).trans h
theorem Held.own {B n : Nat} {w W : World} {k : TypeId} {D : DataW Value} (g : Held B w W) (h : w.ownsMap Tryz.prog k Rv B n D) : W.ownsMap Tryz.prog k Rv B n D := by
  have hl := h.lt
  obtain ⟨es, clock, hb, F, hs, hD⟩ := h
  exact ⟨es, clock, (g B (Nat.le_refl _) hl).trans hb, F, hs, hD⟩

/-- A PART, by its letter: how it reads a word into an act, and shows it -/
def Part (c : UInt8) (v : Value) (B : Nat) (w0 : World) : Prop :=
  ∃ fr capr fs caps, v = .agg #[.func (.func fr) #[] capr, .func (.func fs) #[] caps] ∧ (∀ args w, (callFunc fr args).run Tryz.prog w = .ok (.enter fr args) w) ∧ (∀ args w, (callFunc fs args).run Tryz.prog w = .ok (.enter fs args) w) ∧
    (∀ W, Held B w0 W → Env W → ∀ (K : Nat → Prop) b a s a', s.length ≤ 100000 → (∀ k, K k → k < W.heap.size) → ActAt W K b a → setL c a s = some a' →
      Calls Tryz.prog fr (#[.pointer (some ⟨b, 0, none⟩), .string ⟨s.toArray⟩] ++ capr) W fun e w' => e = .returned (.tuple #[]) ∧ ActAt w' K b a' ∧ Grow (fun k => k = b ∨ W.heap.size ≤ k) W w') ∧
    (∀ W, Held B w0 W → Env W → ∀ (K : Nat → Prop) b a s, s.length ≤ 100000 → ActAt W K b a → setL c a s = none →
      Calls Tryz.prog fr (#[.pointer (some ⟨b, 0, none⟩), .string ⟨s.toArray⟩] ++ capr) W fun e w' => e = .panicked (gaveUp 380) ∧ Newer W w') ∧
    (∀ W, Held B w0 W → Env W → ∀ a v8 v9, Shown a → SliceB W v8 a.bytes → SliceM W v9 a.marks →
      Calls Tryz.prog fs (#[actV a v8 v9] ++ caps) W fun e w' => e = .returned (.string ⟨(showL c a).toArray⟩) ∧ Newer W w')

theorem grow_put {W W1 : World} {b o : Nat} {x : Value} (n : Newer W W1) : Grow (fun k => k = b ∨ W.heap.size ≤ k) W (W1.setCell ⟨b, o, none⟩ x) :=
  Grow.trans (Grow.mono n (fun _ h => .inr h)) (Grow.setCell (own := fun k => k = b ∨ W.heap.size ≤ k) W1 _ x (.inl rfl))

theorem part_t (B bc : Nat) (hB : B ≤ bc) (w : World) (hc : w.cell? ⟨bc, 0, none⟩ = some (.func (.func 59) #[] #[])) : Part 116 (numV bc) B w := by
  refine ⟨79, _, 81, _, rfl, fun _ _ => by kernel_rfl, fun _ _ => by kernel_rfl, ?_, ?_, ?_⟩
  · intro W hW E K b a s a' hs hK ha hset
    have hset' : (numL s).map (fun v => { a with thread := v }) = some a' := hset
    cases hn : numL s with
    | none => rw [hn] at hset'; cases hset'
    | some v =>
      rw [hn] at hset'
      simp only [Option.map_some, Option.some.injEq] at hset'
      subst hset'
      refine (numRead_ok 59 1 field59 bc b s W (hW.cell hc hB) v _ hn E ha.c1 (ha.f _)).mono ?_
      rintro e w' ⟨rfl, W1, n1, rfl⟩
      exact ⟨rfl, (ha.newer n1).set_thread v, grow_put n1⟩
  · intro W hW E K b a s hs ha hset
    have hset' : (numL s).map (fun v => { a with thread := v }) = none := hset
    exact numRead_bad 59 1 field59 bc b s W (hW.cell hc hB) hs (by simpa using hset') E
  · intro W hW E a v8 v9 hsh h8 h9
    exact numShow1 bc a v8 v9 W field59 hsh.t E (hW.cell hc hB)

theorem part_m (B bc : Nat) (hB : B ≤ bc) (w : World) (hc : w.cell? ⟨bc, 0, none⟩ = some (.func (.func 60) #[] #[])) : Part 109 (numV bc) B w := by
  refine ⟨79, _, 81, _, rfl, fun _ _ => by kernel_rfl, fun _ _ => by kernel_rfl, ?_, ?_, ?_⟩
  · intro W hW E K b a s a' hs hK ha hset
    have hset' : (numL s).map (fun v => { a with n := v }) = some a' := hset
    cases hn : numL s with
    | none => rw [hn] at hset'; cases hset'
    | some v =>
      rw [hn] at hset'
      simp only [Option.map_some, Option.some.injEq] at hset'
      subst hset'
      refine (numRead_ok 60 2 field60 bc b s W (hW.cell hc hB) v _ hn E ha.c2 (ha.f _)).mono ?_
      rintro e w' ⟨rfl, W1, n1, rfl⟩
      exact ⟨rfl, (ha.newer n1).set_n v, grow_put n1⟩
  · intro W hW E K b a s hs ha hset
    have hset' : (numL s).map (fun v => { a with n := v }) = none := hset
    exact numRead_bad 60 2 field60 bc b s W (hW.cell hc hB) hs (by simpa using hset') E
  · intro W hW E a v8 v9 hsh h8 h9
    exact numShow2 bc a v8 v9 W field60 hsh.n E (hW.cell hc hB)

theorem part_a (B bc : Nat) (hB : B ≤ bc) (w : World) (hc : w.cell? ⟨bc, 0, none⟩ = some (.func (.func 61) #[] #[])) : Part 97 (numV bc) B w := by
  refine ⟨79, _, 81, _, rfl, fun _ _ => by kernel_rfl, fun _ _ => by kernel_rfl, ?_, ?_, ?_⟩
  · intro W hW E K b a s a' hs hK ha hset
    have hset' : (numL s).map (fun v => { a with at_ := v }) = some a' := hset
    cases hn : numL s with
    | none => rw [hn] at hset'; cases hset'
    | some v =>
      rw [hn] at hset'
      simp only [Option.map_some, Option.some.injEq] at hset'
      subst hset'
      refine (numRead_ok 61 6 field61 bc b s W (hW.cell hc hB) v _ hn E ha.c6 (ha.f _)).mono ?_
      rintro e w' ⟨rfl, W1, n1, rfl⟩
      exact ⟨rfl, (ha.newer n1).set_at_ v, grow_put n1⟩
  · intro W hW E K b a s hs ha hset
    have hset' : (numL s).map (fun v => { a with at_ := v }) = none := hset
    exact numRead_bad 61 6 field61 bc b s W (hW.cell hc hB) hs (by simpa using hset') E
  · intro W hW E a v8 v9 hsh h8 h9
    exact numShow6 bc a v8 v9 W field61 hsh.at_ E (hW.cell hc hB)

theorem part_n (B bc : Nat) (hB : B ≤ bc) (w : World) (hc : w.cell? ⟨bc, 0, none⟩ = some (.func (.func 62) #[] #[])) : Part 110 (numV bc) B w := by
  refine ⟨79, _, 81, _, rfl, fun _ _ => by kernel_rfl, fun _ _ => by kernel_rfl, ?_, ?_, ?_⟩
  · intro W hW E K b a s a' hs hK ha hset
    have hset' : (numL s).map (fun v => { a with on := v }) = some a' := hset
    cases hn : numL s with
    | none => rw [hn] at hset'; cases hset'
    | some v =>
      rw [hn] at hset'
      simp only [Option.map_some, Option.some.injEq] at hset'
      subst hset'
      refine (numRead_ok 62 7 field62 bc b s W (hW.cell hc hB) v _ hn E ha.c7 (ha.f _)).mono ?_
      rintro e w' ⟨rfl, W1, n1, rfl⟩
      exact ⟨rfl, (ha.newer n1).set_on v, grow_put n1⟩
  · intro W hW E K b a s hs ha hset
    have hset' : (numL s).map (fun v => { a with on := v }) = none := hset
    exact numRead_bad 62 7 field62 bc b s W (hW.cell hc hB) hs (by simpa using hset') E
  · intro W hW E a v8 v9 hsh h8 h9
    exact numShow7 bc a v8 v9 W field62 hsh.on E (hW.cell hc hB)

theorem part_p (B bc : Nat) (hB : B ≤ bc) (w : World) (hc : w.cell? ⟨bc, 0, none⟩ = some (.func (.func 64) #[] #[])) : Part 112 (wayV bc) B w := by
  refine ⟨83, _, 85, _, rfl, fun _ _ => by kernel_rfl, fun _ _ => by kernel_rfl, ?_, ?_, ?_⟩
  · intro W hW E K b a s a' hs hK ha hset
    have hset' : (pathL s).map (fun v => { a with path := v }) = some a' := hset
    cases hn : pathL s with
    | none => rw [hn] at hset'; cases hset'
    | some v =>
      rw [hn] at hset'
      simp only [Option.map_some, Option.some.injEq] at hset'
      subst hset'
      refine (wayRead_ok 64 4 field64 bc b s W (hW.cell hc hB) v _ hn ha.c4 (ha.f _)).mono ?_
      rintro e w' ⟨rfl, rfl⟩
      exact ⟨rfl, ha.set_path v, grow_put (Newer.refl _)⟩
  · intro W hW E K b a s hs ha hset
    have hset' : (pathL s).map (fun v => { a with path := v }) = none := hset
    exact (wayRead_bad 64 4 field64 bc b s W (hW.cell hc hB) hs (by simpa using hset')).mono (by rintro e w' ⟨rfl, rfl⟩; exact ⟨rfl, Newer.refl _⟩)
  · intro W hW E a v8 v9 hsh h8 h9
    exact wayShow4 bc a v8 v9 W field64 (hW.cell hc hB)

theorem part_q (B bc : Nat) (hB : B ≤ bc) (w : World) (hc : w.cell? ⟨bc, 0, none⟩ = some (.func (.func 65) #[] #[])) : Part 113 (wayV bc) B w := by
  refine ⟨83, _, 85, _, rfl, fun _ _ => by kernel_rfl, fun _ _ => by kernel_rfl, ?_, ?_, ?_⟩
  · intro W hW E K b a s a' hs hK ha hset
    have hset' : (pathL s).map (fun v => { a with dest := v }) = some a' := hset
    cases hn : pathL s with
    | none => rw [hn] at hset'; cases hset'
    | some v =>
      rw [hn] at hset'
      simp only [Option.map_some, Option.some.injEq] at hset'
      subst hset'
      refine (wayRead_ok 65 5 field65 bc b s W (hW.cell hc hB) v _ hn ha.c5 (ha.f _)).mono ?_
      rintro e w' ⟨rfl, rfl⟩
      exact ⟨rfl, ha.set_dest v, grow_put (Newer.refl _)⟩
  · intro W hW E K b a s hs ha hset
    have hset' : (pathL s).map (fun v => { a with dest := v }) = none := hset
    exact (wayRead_bad 65 5 field65 bc b s W (hW.cell hc hB) hs (by simpa using hset')).mono (by rintro e w' ⟨rfl, rfl⟩; exact ⟨rfl, Newer.refl _⟩)
  · intro W hW E a v8 v9 hsh h8 h9
    exact wayShow5 bc a v8 v9 W field65 (hW.cell hc hB)

theorem part_b (B : Nat) (w : World) : Part 98 bytesV B w := by
  refine ⟨66, _, 68, _, rfl, fun _ _ => by kernel_rfl, fun _ _ => by kernel_rfl, ?_, ?_, ?_⟩
  · intro W hW E K b a s a' hs hK ha hset
    have hset' : (bytesL s).map (fun v => { a with bytes := v }) = some a' := hset
    cases hn : bytesL s with
    | none => rw [hn] at hset'; cases hset'
    | some v =>
      rw [hn] at hset'
      simp only [Option.map_some, Option.some.injEq] at hset'
      subst hset'
      obtain ⟨old, ho, -, -⟩ := ha.c8
      refine (bytesRead_ok b s W v old hn ho (ha.f _)).mono ?_
      rintro e w' ⟨rfl, W1, u, n1, hsl, hoff, rfl⟩
      exact ⟨rfl, (ha.newer n1).set_bytes v hsl (fun A n c h hk => hoff A n c h (hK _ hk)), grow_put n1⟩
  · intro W hW E K b a s hs ha hset
    have hset' : (bytesL s).map (fun v => { a with bytes := v }) = none := hset
    exact bytesRead_bad b s W hs (by simpa using hset')
  · intro W hW E a v8 v9 hsh h8 h9
    exact bytesShow a v8 v9 W hsh.b h8

theorem part_k (B : Nat) (w : World) : Part 107 marksV B w := by
  refine ⟨71, _, 73, _, rfl, fun _ _ => by kernel_rfl, fun _ _ => by kernel_rfl, ?_, ?_, ?_⟩
  · intro W hW E K b a s a' hs hK ha hset
    have hset' : (marksL s).map (fun v => { a with marks := v }) = some a' := hset
    cases hn : marksL s with
    | none => rw [hn] at hset'; cases hset'
    | some v =>
      rw [hn] at hset'
      simp only [Option.map_some, Option.some.injEq] at hset'
      subst hset'
      obtain ⟨old, ho, -, -⟩ := ha.c9
      refine (marksRead_ok b s W v old hn ho (ha.f _)).mono ?_
      rintro e w' ⟨rfl, W1, u, n1, hsl, hoff, rfl⟩
      exact ⟨rfl, (ha.newer n1).set_marks v hsl (fun A n c h hk => hoff A n c h (hK _ hk)), grow_put n1⟩
  · intro W hW E K b a s hs ha hset
    have hset' : (marksL s).map (fun v => { a with marks := v }) = none := hset
    exact marksRead_bad b s W hs (by simpa using hset')
  · intro W hW E a v8 v9 hsh h8 h9
    exact marksShow a v8 v9 W hsh.m h9

/-- the letters of parts -/
def letters : Bs := [116, 109, 97, 110, 112, 113, 98, 107]
theorem parts_part {w : World} {B bt bm ba bn bp bq : Nat} (h : PartsAt w B bt bm ba bn bp bq) (c : UInt8) (hc : c ∈ letters) :
    ∃ v, Part c v B w ∧ ∀ W, Held B w W → (Instr.lookup 85 (.map (some B)) (.int .u8 c.toNat) false).run Tryz.prog W = .ok v W := by
  have lk : ∀ v, (partsD bt bm ba bn bp bq).atKey (.int .u8 c.toNat) (.held (.agg #[.nilFunc, .nilFunc])) = .held v → ∀ W, Held B w W → (Instr.lookup 85 (.map (some B)) (.int .u8 c.toNat) false).run Tryz.prog W = .ok v W :=
    fun v hv W hW => parts_look (hW.own h.own) c v hv
  rw [partsE] at lk
  simp only [letters, List.mem_cons, List.not_mem_nil, or_false] at hc
  rcases hc with rfl | rfl | rfl | rfl | rfl | rfl | rfl | rfl
  · exact ⟨_, part_t _ _ h.ht _ h.ct, lk _ rfl⟩
  · exact ⟨_, part_m _ _ h.hm _ h.cm, lk _ rfl⟩
  · exact ⟨_, part_a _ _ h.ha _ h.ca, lk _ rfl⟩
  · exact ⟨_, part_n _ _ h.hn _ h.cn, lk _ rfl⟩
  · exact ⟨_, part_p _ _ h.hp _ h.cp, lk _ rfl⟩
  · exact ⟨_, part_q _ _ h.hq _ h.cq, lk _ rfl⟩
  · exact ⟨_, part_b _ _, lk _ rfl⟩
  · exact ⟨_, part_k _ _, lk _ rfl⟩

end Go.Proofs.YtgdaaafejfjilaaGreatDoor

/- contracts of package script: the kind of a word -/
namespace Go.Proofs.YtgdaaafejfjilaaGreatDoor
open Go.RowKit Go.Maps
attribute [local go_sem] Oper.semAt_some undef

theorem load79 {w : World} {b : Nat} {x y : Bs} (h0 : w.cell? ⟨b, 0, none⟩ = some (.string ⟨x.toArray⟩)) (h1 : w.cell? ⟨b, 1, none⟩ = some (.string ⟨y.toArray⟩)) : (loadVar 79 ⟨b, 0, none⟩).run Tryz.prog w = .ok (.agg #[.string ⟨x.toArray⟩, .string ⟨y.toArray⟩]) w := by
  go_simp

theorem two_put (w : World) (b : Nat) (x y u v : Value) (h0 : w.cell? ⟨b, 0, none⟩ = some u) (h1 : w.cell? ⟨b, 1, none⟩ = some v) : ∀ W, ((w.setCell ⟨b, 0, none⟩ x).setCell ⟨b, 1, none⟩ y).drew = W → W.cell? ⟨b, 0, none⟩ = some x ∧ W.cell? ⟨b, 1, none⟩ = some y ∧ Grow (fun k => k = b) w W := by
  rintro _ rfl
  have e1 : (w.setCell ⟨b, 0, none⟩ x).cell? ⟨b, 1, none⟩ = some v := cell_put h1 (by decide)
  have e0 : (w.setCell ⟨b, 0, none⟩ x).cell? ⟨b, 0, none⟩ = some x := World.cell?_setCell_same _ _ _ h0
  refine ⟨?_, ?_, ?_⟩
  · exact cell_put e0 (by decide)
  · exact World.cell?_setCell_same _ _ _ e1
  · exact Grow.trans (Grow.trans (Grow.setCell (own := fun k => k = b) _ _ _ rfl) (Grow.setCell (own := fun k => k = b) _ _ _ rfl)) (Grow.drew _ _)

theorem kindA_range (x : Int) (c : Value) (h : ∀ zd : DataW Value, verbsD.atKey (.int .i64 x) zd = .held c) : c = verb (verbL x).1 (verbL x).2 ∧ 1 ≤ x ∧ x ≤ 5 := by
  have h1 := h (.held (verb [] []))
  rw [verbs_at] at h1
  injection h1 with h1
  refine ⟨h1.symm, ?_⟩
  have h2 := h .nil
  rw [verbsE] at h2
  apply Classical.byContradiction
  intro hx
  rw [atKey_miss _ _ _ _ _ _ (by omega)] at h2
  rw [atKey_miss _ _ _ _ _ _ (by omega)] at h2
  rw [atKey_miss _ _ _ _ _ _ (by omega)] at h2
  rw [atKey_miss _ _ _ _ _ _ (by omega)] at h2
  rw [atKey_miss _ _ _ _ _ _ (by omega)] at h2
  rw [atKey_none] at h2
  cases h2
theorem kindA_one (s : Bs) (x : Int) (h1 : 1 ≤ x) (h2 : x ≤ 5) (h : (verbL x).1 = s) : kindL s = some x := by
  subst h
  have : ∀ i : Fin 5, kindL (verbL ((i.val : Int) + 1)).1 = some ((i.val : Int) + 1) := by decide +kernel
  have := this ⟨(x - 1).toNat, by omega⟩
  rwa [show (((x - 1).toNat : Nat) : Int) + 1 = x by omega] at this
theorem kindA_has (s : Bs) (k : Int) (h : kindL s = some k) : (verbL k).1 = s ∧ 1 ≤ k ∧ k ≤ 5 := by
  unfold kindL at h
  have h1 := List.find?_some h
  have h2 := List.mem_of_find?_eq_some h
  simp only [List.mem_cons, List.not_mem_nil, or_false] at h2
  exact ⟨by simpa using h1, by omega, by omega⟩
theorem kindA_key (k : Int) (h1 : 1 ≤ k) (h2 : k ≤ 5) : has verbsD (.int .i64 k) = true := by
  have : ∀ i : Fin 5, has verbsD (.int .i64 ((i.val : Int) + 1)) = true := by
    rw [verbsE]
    intro i
    match i with
    | ⟨0, _⟩ => rfl
    | ⟨1, _⟩ => rfl
    | ⟨2, _⟩ => rfl
    | ⟨3, _⟩ => rfl
    | ⟨4, _⟩ => rfl
  have := this ⟨(k - 1).toNat, by omega⟩
  rwa [show (((k - 1).toNat : Nat) : Int) + 1 = k by omega] at this

/-- which names are still to come -/
def kindALeft (s : Bs) (left : Lit → Bool) : Prop := ∀ j : Int, 1 ≤ j → j ≤ 5 → (verbL j).1 = s → left (.int .i64 j) = true

set_option maxRecDepth 100000 in
set_option maxHeartbeats 3200000 in
theorem kindA_any (s : Bs) (B : Nat) (w : World) (hown : w.ownsMap Tryz.prog 22 Rv B 5 verbsD) :
    Calls Tryz.prog 49 #[.map (some B), .string ⟨s.toArray⟩] w fun e w' => ((∃ k, kindL s = some k ∧ e = .returned (.tuple #[.int .i64 k, verb (verbL k).1 (verbL k).2])) ∨ (kindL s = none ∧ e = .panicked (gaveUp 380))) ∧ Newer w w' := by
  obtain ⟨b, hb⟩ : ∃ b, w.heap.size = b := ⟨_, rfl⟩
  obtain ⟨w0, hw0⟩ : ∃ w0, w.alloc (.cells #[.string ⟨#[]⟩, .string ⟨#[]⟩] 79) = w0 := ⟨_, rfl⟩
  have hB := hown.lt
  have c0 : w0.cell? ⟨b, 0, none⟩ = some (.string ⟨#[]⟩) := by subst hw0 hb; simp [go_sem]
  have c1 : w0.cell? ⟨b, 1, none⟩ = some (.string ⟨#[]⟩) := by subst hw0 hb; simp [go_sem]
  have cf : ∀ k, w0.frozen? ⟨b, k, none⟩ = false := by intro k; subst hw0 hb; simp [go_sem]
  have n0 : Newer w w0 := by subst hw0; exact Newer.alloc _ _
  have z0 : w0.heap.size = b + 1 := by subst hw0 hb; simp
  have H0 := Lib.hid (And.intro (own_grown hown n0) (And.intro n0 (And.intro c0 (And.intro c1 cf))))
  have HW := Lib.hid hw0
  have HB := Lib.hid hb
  clear hown n0 c0 c1 cf hw0
  go_enter Tryz.func49, Tryz.ntmps49
  go_wp2_with (at_range; refine wpList_range_own _ rfl _ 80 rfl 22 79 law22 Tryz.underlying80 Rv B 5 verbsD rfl (by rw [HW.out]; exact H0.out.1) ?_; intro w1 hrg0 hg0 hs0)
  rw [HW.out] at hrg0 hg0 hs0
  have z1 : w1.heap.size = b + 2 := by rw [hs0, z0]
  have hn1 : Newer w0 w1 := ⟨hg0.os, hg0.tape, hg0.output, hg0.size, fun k hk _ => hg0.block k hk (by simp)⟩
  have F1 := Lib.hid (And.intro hrg0 hn1)
  rw [HW.out, z0]
  clear hrg0 hg0 hs0 hn1
  go_frame
  simp only [undef]
  go_loopw [] (fun wr => ∃ left cnt, wr.ranges Tryz.prog 22 Rv B (b + 1) 5 verbsD left cnt ∧ kindALeft s left ∧ Newer w0 wr ∧ b + 2 ≤ wr.heap.size) (fun wr => wr.rangeLeft B (b + 1))
  case atStart =>
    have h := F1.out
    rw [z0] at h
    exact ⟨_, _, h.1, fun j h1 h2 _ => kindA_key j h1 h2, h.2, by omega⟩
  case round =>
    obtain ⟨left, cnt, hrg, hleft, hnw, hz⟩ := hrel
    have HR := Lib.hid (And.intro hrg (And.intro hleft hnw))
    clear hrg hleft hnw
    go_wp2_with (at_next; refine wpList_next_ranges _ rfl _ rfl 22 law22 Rv (Value.int .i64) (fun v : Value => v) (fun key kl hk => by obtain ⟨x, e, _⟩ := Maps.keyOf_int_inv Tryz.underlying22 hk; exact ⟨x, e⟩) (fun v _ _ => ⟨v, rfl⟩) B (b + 1) 5 verbsD left cnt rfl HR.out.1 ?_ ?_)
    · intro _ hl0
      cases hk : kindL s with
      | some k =>
        obtain ⟨h1, h2, h3⟩ := kindA_has s k hk
        have := HR.out.2.1 k h2 h3 h1
        rw [hl0] at this
        cases this
      | none =>
        have HK := Lib.hid hk
        clear hl0 hk
        go_wp2
        exact ⟨rfl, .inr ⟨HK.out, rfl⟩, H0.out.2.1.trans HR.out.2.2⟩
    · intro x c kl da db W cnt' hkey hlx hRc hat hrg1 hlt hg1 hs1 hen
      obtain ⟨x', ex, rfl, hwx⟩ := Maps.keyOf_int_inv Tryz.underlying22 hkey
      cases ex
      simp only [Rv, Option.some.injEq, Prod.mk.injEq] at hRc
      obtain ⟨rfl, -⟩ := hRc
      obtain ⟨rfl, hx1, hx2⟩ := kindA_range x c hat
      have hnW : Newer w0 W := Grow.trans HR.out.2.2 ⟨hg1.os, hg1.tape, hg1.output, hg1.size, fun k hk hno => hg1.block k hk (fun e => hno (by injection e with e; show w0.heap.size ≤ k; omega))⟩
      have c0 := newer_cell H0.out.2.2.1 hnW
      have c1 := newer_cell H0.out.2.2.2.1 hnW
      have cf : W.frozen? ⟨b, 0, none⟩ = false := (World.frozen?_of_block (Newer.block hnW (by show b < _; omega))).trans (H0.out.2.2.2.2 0)
      have cf1 : W.frozen? ⟨b, 1, none⟩ = false := (World.frozen?_of_block (Newer.block hnW (by show b < _; omega))).trans (H0.out.2.2.2.2 1)
      have hbW : b < W.heap.size := by omega
      have NX := Lib.hid (And.intro hnW (And.intro hrg1 hlt))
      clear hkey hlx hat hnW hrg1 hg1 hlt
      obtain ⟨nm, hnm⟩ : ∃ nm, (verbL x).1 = nm := ⟨_, rfl⟩
      obtain ⟨nd, hnd⟩ : ∃ nd, (verbL x).2 = nd := ⟨_, rfl⟩
      rw [hnm, hnd] at hen ⊢
      have HNM := Lib.hid (And.intro hnm hnd)
      clear hnm hnd
      unfold verb at hen ⊢
      by_cases hs : nm = s
      · subst hs
        have HF := Lib.hid (kindA_one _ x hx1 hx2 HNM.out.1)
        go_wp2_with fail
        obtain ⟨W1, hW1⟩ : ∃ W1, W.alloc (.cells #[.string ⟨nm.toArray⟩, .string ⟨nd.toArray⟩] 79) = W1 := ⟨_, rfl⟩
        obtain ⟨q, hq⟩ : ∃ q, W.heap.size = q := ⟨_, rfl⟩
        have nW1 : Newer W W1 := hW1 ▸ Newer.alloc _ _
        have d0 : W1.cell? ⟨q, 0, none⟩ = some (.string ⟨nm.toArray⟩) := by subst hW1 hq; simp [go_sem]
        have d1 : W1.cell? ⟨q, 1, none⟩ = some (.string ⟨nd.toArray⟩) := by subst hW1 hq; simp [go_sem]
        have e0 := newer_cell c0 nW1
        have e1 := newer_cell c1 nW1
        have ef : W1.frozen? ⟨b, 0, none⟩ = false := (World.frozen?_of_block (nW1.block hbW)).trans cf
        have ef1 : W1.frozen? ⟨b, 1, none⟩ = false := (World.frozen?_of_block (nW1.block hbW)).trans cf1
        have hqw : wr.heap.size = q := by rw [← hq]; exact hs1.symm
        have hbq : b < q := by omega
        have NW := Lib.hid ((NX.out.1.trans nW1))
        rw [hW1, hqw]
        clear hW1 hq nW1 c0 c1 cf cf1 hqw hen hs1 hz hbW
        go_region
        all_goals
          obtain ⟨W2, hW2⟩ : ∃ W2, ((W1.setCell ⟨b, 0, none⟩ (.string ⟨nm.toArray⟩)).setCell ⟨b, 1, none⟩ (.string ⟨nd.toArray⟩)).drew = W2 := ⟨_, rfl⟩
          obtain ⟨f0, f1, gW⟩ := two_put W1 b _ _ _ _ e0 e1 W2 hW2
          have NF := Lib.hid (And.intro NW.out gW)
          rw [hW2]
          clear hW2 e0 e1 ef ef1 d0 d1 gW
          go_wp2
          refine bodyPost_ret (results_tmp_cell rfl (ad := ⟨b, 0, none⟩) rfl (load79 f0 f1)) rfl ⟨.inl ⟨x, HF.out, ?_⟩, Grow.trans (H0.out.2.1.trans NF.out.1) (NF.out.2.mono ?_)⟩
          · rw [HNM.out.1, HNM.out.2]
            rfl
          · intro k hk
            have hk : k = b := hk
            show w.heap.size ≤ k
            rw [HB.out, hk]
            exact Nat.le_refl _
      · have hsq : (nm == s) = false := by simpa using hs
        clear hs
        go_wp2_with fail
        go_roundw
        case rel =>
          refine ⟨_, _, NX.out.2.1.alloc _, fun j h1 h2 h3 => ?_, NX.out.1.trans (Newer.alloc _ _), by simp; omega⟩
          have hj := HR.out.2.1 j h1 h2 h3
          have hjx : x ≠ j := fun e => by
            subst e
            rw [HNM.out.1] at h3
            rw [h3] at hsq
            simp at hsq
          simp [hj, Lit.sameKey, Ne.symm hjx]
        case measure =>
          rw [(NX.out.2.1.alloc _).left_eq, HR.out.1.left_eq]
          exact NX.out.2.2

theorem kindO_range (x : Int) (c : Value) (h : ∀ zd : DataW Value, opsD.atKey (.int .i64 x) zd = .held c) : c = verb (opL x).1 (opL x).2 ∧ 1 ≤ x ∧ x ≤ 11 := by
  have h1 := h (.held (verb [] []))
  rw [ops_at] at h1
  injection h1 with h1
  refine ⟨h1.symm, ?_⟩
  have h2 := h .nil
  rw [opsE] at h2
  apply Classical.byContradiction
  intro hx
  rw [atKey_miss _ _ _ _ _ _ (by omega)] at h2
  rw [atKey_miss _ _ _ _ _ _ (by omega)] at h2
  rw [atKey_miss _ _ _ _ _ _ (by omega)] at h2
  rw [atKey_miss _ _ _ _ _ _ (by omega)] at h2
  rw [atKey_miss _ _ _ _ _ _ (by omega)] at h2
  rw [atKey_miss _ _ _ _ _ _ (by omega)] at h2
  rw [atKey_miss _ _ _ _ _ _ (by omega)] at h2
  rw [atKey_miss _ _ _ _ _ _ (by omega)] at h2
  rw [atKey_miss _ _ _ _ _ _ (by omega)] at h2
  rw [atKey_miss _ _ _ _ _ _ (by omega)] at h2
  rw [atKey_miss _ _ _ _ _ _ (by omega)] at h2
  rw [atKey_none] at h2
  cases h2
theorem kindO_one (s : Bs) (x : Int) (h1 : 1 ≤ x) (h2 : x ≤ 11) (h : (opL x).1 = s) : opkL s = some x := by
  subst h
  have : ∀ i : Fin 11, opkL (opL ((i.val : Int) + 1)).1 = some ((i.val : Int) + 1) := by decide +kernel
  have := this ⟨(x - 1).toNat, by omega⟩
  rwa [show (((x - 1).toNat : Nat) : Int) + 1 = x by omega] at this
theorem kindO_has (s : Bs) (k : Int) (h : opkL s = some k) : (opL k).1 = s ∧ 1 ≤ k ∧ k ≤ 11 := by
  unfold opkL at h
  have h1 := List.find?_some h
  have h2 := List.mem_of_find?_eq_some h
  simp only [List.mem_cons, List.not_mem_nil, or_false] at h2
  exact ⟨by simpa using h1, by omega, by omega⟩
theorem kindO_key (k : Int) (h1 : 1 ≤ k) (h2 : k ≤ 11) : has opsD (.int .i64 k) = true := by
  have : ∀ i : Fin 11, has opsD (.int .i64 ((i.val : Int) + 1)) = true := by
    rw [opsE]
    intro i
    match i with
    | ⟨0, _⟩ => rfl
    | ⟨1, _⟩ => rfl
    | ⟨2, _⟩ => rfl
    | ⟨3, _⟩ => rfl
    | ⟨4, _⟩ => rfl
    | ⟨5, _⟩ => rfl
    | ⟨6, _⟩ => rfl
    | ⟨7, _⟩ => rfl
    | ⟨8, _⟩ => rfl
    | ⟨9, _⟩ => rfl
    | ⟨10, _⟩ => rfl
  have := this ⟨(k - 1).toNat, by omega⟩
  rwa [show (((k - 1).toNat : Nat) : Int) + 1 = k by omega] at this

/-- which names are still to come -/
def kindOLeft (s : Bs) (left : Lit → Bool) : Prop := ∀ j : Int, 1 ≤ j → j ≤ 11 → (opL j).1 = s → left (.int .i64 j) = true

set_option maxRecDepth 100000 in
set_option maxHeartbeats 3200000 in
theorem kindO_any (s : Bs) (B : Nat) (w : World) (hown : w.ownsMap Tryz.prog 23 Rv B 11 opsD) :
    Calls Tryz.prog 52 #[.map (some B), .string ⟨s.toArray⟩] w fun e w' => ((∃ k, opkL s = some k ∧ e = .returned (.tuple #[.int .i64 k, verb (opL k).1 (opL k).2])) ∨ (opkL s = none ∧ e = .panicked (gaveUp 380))) ∧ Newer w w' := by
  obtain ⟨b, hb⟩ : ∃ b, w.heap.size = b := ⟨_, rfl⟩
  obtain ⟨w0, hw0⟩ : ∃ w0, w.alloc (.cells #[.string ⟨#[]⟩, .string ⟨#[]⟩] 79) = w0 := ⟨_, rfl⟩
  have hB := hown.lt
  have c0 : w0.cell? ⟨b, 0, none⟩ = some (.string ⟨#[]⟩) := by subst hw0 hb; simp [go_sem]
  have c1 : w0.cell? ⟨b, 1, none⟩ = some (.string ⟨#[]⟩) := by subst hw0 hb; simp [go_sem]
  have cf : ∀ k, w0.frozen? ⟨b, k, none⟩ = false := by intro k; subst hw0 hb; simp [go_sem]
  have n0 : Newer w w0 := by subst hw0; exact Newer.alloc _ _
  have z0 : w0.heap.size = b + 1 := by subst hw0 hb; simp
  have H0 := Lib.hid (And.intro (own_grown hown n0) (And.intro n0 (And.intro c0 (And.intro c1 cf))))
  have HW := Lib.hid hw0
  have HB := Lib.hid hb
  clear hown n0 c0 c1 cf hw0
  go_enter Tryz.func52, Tryz.ntmps52
  go_wp2_with (at_range; refine wpList_range_own _ rfl _ 88 rfl 23 79 law23 Tryz.underlying88 Rv B 11 opsD rfl (by rw [HW.out]; exact H0.out.1) ?_; intro w1 hrg0 hg0 hs0)
  rw [HW.out] at hrg0 hg0 hs0
  have z1 : w1.heap.size = b + 2 := by rw [hs0, z0]
  have hn1 : Newer w0 w1 := ⟨hg0.os, hg0.tape, hg0.output, hg0.size, fun k hk _ => hg0.block k hk (by simp)⟩
  have F1 := Lib.hid (And.intro hrg0 hn1)
  rw [HW.out, z0]
  clear hrg0 hg0 hs0 hn1
  go_frame
  simp only [undef]
  go_loopw [] (fun wr => ∃ left cnt, wr.ranges Tryz.prog 23 Rv B (b + 1) 11 opsD left cnt ∧ kindOLeft s left ∧ Newer w0 wr ∧ b + 2 ≤ wr.heap.size) (fun wr => wr.rangeLeft B (b + 1))
  case atStart =>
    have h := F1.out
    rw [z0] at h
    exact ⟨_, _, h.1, fun j h1 h2 _ => kindO_key j h1 h2, h.2, by omega⟩
  case round =>
    obtain ⟨left, cnt, hrg, hleft, hnw, hz⟩ := hrel
    have HR := Lib.hid (And.intro hrg (And.intro hleft hnw))
    clear hrg hleft hnw
    go_wp2_with (at_next; refine wpList_next_ranges _ rfl _ rfl 23 law23 Rv (Value.int .i64) (fun v : Value => v) (fun key kl hk => by obtain ⟨x, e, _⟩ := Maps.keyOf_int_inv Tryz.underlying23 hk; exact ⟨x, e⟩) (fun v _ _ => ⟨v, rfl⟩) B (b + 1) 11 opsD left cnt rfl HR.out.1 ?_ ?_)
    · intro _ hl0
      cases hk : opkL s with
      | some k =>
        obtain ⟨h1, h2, h3⟩ := kindO_has s k hk
        have := HR.out.2.1 k h2 h3 h1
        rw [hl0] at this
        cases this
      | none =>
        have HK := Lib.hid hk
        clear hl0 hk
        go_wp2
        exact ⟨rfl, .inr ⟨HK.out, rfl⟩, H0.out.2.1.trans HR.out.2.2⟩
    · intro x c kl da db W cnt' hkey hlx hRc hat hrg1 hlt hg1 hs1 hen
      obtain ⟨x', ex, rfl, hwx⟩ := Maps.keyOf_int_inv Tryz.underlying23 hkey
      cases ex
      simp only [Rv, Option.some.injEq, Prod.mk.injEq] at hRc
      obtain ⟨rfl, -⟩ := hRc
      obtain ⟨rfl, hx1, hx2⟩ := kindO_range x c hat
      have hnW : Newer w0 W := Grow.trans HR.out.2.2 ⟨hg1.os, hg1.tape, hg1.output, hg1.size, fun k hk hno => hg1.block k hk (fun e => hno (by injection e with e; show w0.heap.size ≤ k; omega))⟩
      have c0 := newer_cell H0.out.2.2.1 hnW
      have c1 := newer_cell H0.out.2.2.2.1 hnW
      have cf : W.frozen? ⟨b, 0, none⟩ = false := (World.frozen?_of_block (Newer.block hnW (by show b < _; omega))).trans (H0.out.2.2.2.2 0)
      have cf1 : W.frozen? ⟨b, 1, none⟩ = false := (World.frozen?_of_block (Newer.block hnW (by show b < _; omega))).trans (H0.out.2.2.2.2 1)
      have hbW : b < W.heap.size := by omega
      have NX := Lib.hid (And.intro hnW (And.intro hrg1 hlt))
      clear hkey hlx hat hnW hrg1 hg1 hlt
      obtain ⟨nm, hnm⟩ : ∃ nm, (opL x).1 = nm := ⟨_, rfl⟩
      obtain ⟨nd, hnd⟩ : ∃ nd, (opL x).2 = nd := ⟨_, rfl⟩
      rw [hnm, hnd] at hen ⊢
      have HNM := Lib.hid (And.intro hnm hnd)
      clear hnm hnd
      unfold verb at hen ⊢
      by_cases hs : nm = s
      · subst hs
        have HF := Lib.hid (kindO_one _ x hx1 hx2 HNM.out.1)
        go_wp2_with fail
        obtain ⟨W1, hW1⟩ : ∃ W1, W.alloc (.cells #[.string ⟨nm.toArray⟩, .string ⟨nd.toArray⟩] 79) = W1 := ⟨_, rfl⟩
        obtain ⟨q, hq⟩ : ∃ q, W.heap.size = q := ⟨_, rfl⟩
        have nW1 : Newer W W1 := hW1 ▸ Newer.alloc _ _
        have d0 : W1.cell? ⟨q, 0, none⟩ = some (.string ⟨nm.toArray⟩) := by subst hW1 hq; simp [go_sem]
        have d1 : W1.cell? ⟨q, 1, none⟩ = some (.string ⟨nd.toArray⟩) := by subst hW1 hq; simp [go_sem]
        have e0 := newer_cell c0 nW1
        have e1 := newer_cell c1 nW1
        have ef : W1.frozen? ⟨b, 0, none⟩ = false := (World.frozen?_of_block (nW1.block hbW)).trans cf
        have ef1 : W1.frozen? ⟨b, 1, none⟩ = false := (World.frozen?_of_block (nW1.block hbW)).trans cf1
        have hqw : wr.heap.size = q := by rw [← hq]; exact hs1.symm
        have hbq : b < q := by omega
        have NW := Lib.hid ((NX.out.1.trans nW1))
        rw [hW1, hqw]
        clear hW1 hq nW1 c0 c1 cf cf1 hqw hen hs1 hz hbW
        go_region
        all_goals
          obtain ⟨W2, hW2⟩ : ∃ W2, ((W1.setCell ⟨b, 0, none⟩ (.string ⟨nm.toArray⟩)).setCell ⟨b, 1, none⟩ (.string ⟨nd.toArray⟩)).drew = W2 := ⟨_, rfl⟩
          obtain ⟨f0, f1, gW⟩ := two_put W1 b _ _ _ _ e0 e1 W2 hW2
          have NF := Lib.hid (And.intro NW.out gW)
          rw [hW2]
          clear hW2 e0 e1 ef ef1 d0 d1 gW
          go_wp2
          refine bodyPost_ret (results_tmp_cell rfl (ad := ⟨b, 0, none⟩) rfl (load79 f0 f1)) rfl ⟨.inl ⟨x, HF.out, ?_⟩, Grow.trans (H0.out.2.1.trans NF.out.1) (NF.out.2.mono ?_)⟩
          · rw [HNM.out.1, HNM.out.2]
            rfl
          · intro k hk
            have hk : k = b := hk
            show w.heap.size ≤ k
            rw [HB.out, hk]
            exact Nat.le_refl _
      · have hsq : (nm == s) = false := by simpa using hs
        clear hs
        go_wp2_with fail
        go_roundw
        case rel =>
          refine ⟨_, _, NX.out.2.1.alloc _, fun j h1 h2 h3 => ?_, NX.out.1.trans (Newer.alloc _ _), by simp; omega⟩
          have hj := HR.out.2.1 j h1 h2 h3
          have hjx : x ≠ j := fun e => by
            subst e
            rw [HNM.out.1] at h3
            rw [h3] at hsq
            simp at hsq
          simp [hj, Lit.sameKey, Ne.symm hjx]
        case measure =>
          rw [(NX.out.2.1.alloc _).left_eq, HR.out.1.left_eq]
          exact NX.out.2.2

end Go.Proofs.YtgdaaafejfjilaaGreatDoor

/- contracts of package script: fill -/
namespace Go.Proofs.YtgdaaafejfjilaaGreatDoor
open Go.RowKit Go.Maps
attribute [local go_sem] Oper.semAt_some undef

theorem WordsAt.grow {own K : Nat → Prop} {w W : World} {b : Nat} {l : List Bs} (h : WordsAt w K b l) (g : Grow own w W) (hb : ¬ own b) (ho : ∀ k, own k → K k ∨ w.heap.size ≤ k) : WordsAt W K b l := by
  obtain ⟨q, o, cap, c, f, h1, h2, h3, h4⟩ := h
  have hl : b < w.heap.size := by have := World.block_lt_of_cell? _ _ c; simpa using this
  refine ⟨q, o, cap, (g.cell (p := ⟨b, 0, none⟩) hl hb).trans c, (g.frozen (p := ⟨b, 0, none⟩) hl hb).trans f, h1, h2, h3, fun j hj => ?_⟩
  have hc := h4 j hj
  have hq : q < w.heap.size := by have := World.block_lt_of_cell? _ _ hc; simpa using this
  exact (g.cell (p := ⟨q, o + j, none⟩) hq (fun hk => by rcases ho _ hk with h | h; exact h3.2 h; have h : w.heap.size ≤ q := h; omega)).trans hc
theorem WordsAt.newer {K : Nat → Prop} {w W : World} {b : Nat} {l : List Bs} (h : WordsAt w K b l) (g : Newer w W) : WordsAt W K b l :=
  h.grow g (fun h' => by
    obtain ⟨q, o, cap, c, _⟩ := h
    have hl : b < w.heap.size := by have := World.block_lt_of_cell? _ _ c; simpa using this
    have h' : w.heap.size ≤ b := h'
    omega) (fun _ h => .inr h)

/-- what has come of filling -/
def FillPost (K Kw : Nat → Prop) (b rb : Nat) (w : World) (r : Option (ActL × List Bs)) (e : Ending) (w' : World) : Prop :=
  ((∃ a' l', r = some (a', l') ∧ e = .returned (.tuple #[]) ∧ ActAt w' K b a' ∧ WordsAt w' Kw rb l') ∨ (r = none ∧ e = .panicked (gaveUp 380))) ∧ Grow (fun k => k = b ∨ k = rb ∨ w.heap.size ≤ k) w w'

/-- on the way -/
structure FillI (K Kw : Nat → Prop) (b rb q : Nat) (w wr : World) (needs : Bs) (a : ActL) (l : List Bs) : Prop where
  act : ActAt wr K b a
  words : WordsAt wr Kw rb l
  bytes : ∀ j (h : j < needs.length), wr.cell? ⟨q, j, none⟩ = some (byteV needs[j])
  env : Env wr
  g : Grow (fun k => k = b ∨ k = rb ∨ w.heap.size ≤ k) w wr
  small : ∀ s ∈ l, s.length ≤ 100000
  hq : q < wr.heap.size

theorem fillL_end (a : ActL) (l : List Bs) : fillL [] a l = some (a, l) := rfl
theorem fillL_nil (c : UInt8) (cs : Bs) (a : ActL) : fillL (c :: cs) a [] = none := rfl
theorem fillL_none {c : UInt8} {cs : Bs} {a : ActL} {s : Bs} {l : List Bs} (h : setL c a s = none) : fillL (c :: cs) a (s :: l) = none := by simp only [fillL, h]
theorem fillL_some {c : UInt8} {cs : Bs} {a a' : ActL} {s : Bs} {l : List Bs} (h : setL c a s = some a') : fillL (c :: cs) a (s :: l) = fillL cs a' l := by simp only [fillL, h]
theorem fill_none {K Kw : Nat → Prop} {b rb : Nat} {w wr w1 : World} {r : Option (ActL × List Bs)} (g : Grow (fun k => k = b ∨ k = rb ∨ w.heap.size ≤ k) w wr) (n : Newer wr w1) (hr : r = none) :
    FillPost K Kw b rb w r (.panicked (gaveUp 380)) w1 :=
  ⟨.inr ⟨hr, rfl⟩, g.trans (n.mono (fun k hk => by have hk : wr.heap.size ≤ k := hk; have := g.size; exact .inr (.inr (by omega))))⟩

/-- where the reader, the act and what may turn lie -/
structure FGeo (K Kw : Nat → Prop) (b rb : Nat) (w wr : World) : Prop where
  hrb : 5 < rb
  hbb : 5 < b
  hne : rb ≠ b
  hk : ∀ k, K k → k < w.heap.size
  kr : K rb
  kb : K b
  kwb : Kw b
  sz : w.heap.size ≤ wr.heap.size

def FStep (K Kw : Nat → Prop) (b rb B : Nat) (w1 w2 : World) (aj : ActL) (lr : List Bs) : Prop :=
  Held B w1 w2 ∧ Env w2 ∧ ActAt w2 K b aj ∧ WordsAt w2 Kw rb lr ∧ Grow (fun k => k = rb) w1 w2

theorem fill_step1 {K Kw : Nat → Prop} {b rb : Nat} {w wr w1 w2 : World} {aj : ActL} {lr : List Bs} {u : Value} (n1 : Newer wr w1) (G : FGeo K Kw b rb w wr) (E1 : Env w1) (A1 : ActAt w1 K b aj) (hw2 : WordsAt w2 Kw rb lr)
    (hu : w2 = w1.setCell ⟨rb, 0, none⟩ u) : FStep K Kw b rb wr.heap.size w1 w2 aj lr := by
  have g : Grow (fun k => k = rb) w1 w2 := hu ▸ Grow.setCell (own := fun k => k = rb) w1 _ u rfl
  have hr : rb < wr.heap.size := Nat.lt_of_lt_of_le (G.hk _ G.kr) G.sz
  have hs := n1.size
  refine ⟨(Held.newer _ (Newer.refl w1)).grow g (Nat.le_refl _) (fun k hk => by have hk : k = rb := hk; left; omega), ?_, ?_, hw2, g⟩
  · exact E1.below (Grow.below g (n := rb) (fun k hk => by have hk : k = rb := hk; omega) (by omega)) G.hrb
  · exact A1.grow g (fun h => G.hne h.symm) (fun k hk => .inl (by have hk : k = rb := hk; exact hk ▸ G.kr))

theorem fill_k {K Kw : Nat → Prop} {b rb : Nat} {w wr w1 w2 : World} {aj : ActL} {lr : List Bs} (G : FGeo K Kw b rb w wr) (n1 : Newer wr w1) (h : FStep K Kw b rb wr.heap.size w1 w2 aj lr) : ∀ k, K k → k < w2.heap.size := fun k hk => by
  have := G.hk k hk
  have := G.sz
  have := n1.size
  have := h.2.2.2.2.size
  omega

theorem fill_grow {K Kw : Nat → Prop} {b rb : Nat} {wr w1 w2 w3 : World} {aj : ActL} {lr : List Bs} (n1 : Newer wr w1) (h : FStep K Kw b rb wr.heap.size w1 w2 aj lr) (g3 : Grow (fun k => k = b ∨ w2.heap.size ≤ k) w2 w3) :
    Grow (fun k => k = b ∨ k = rb ∨ wr.heap.size ≤ k) wr w3 := by
  have s1 := n1.size
  have s2 := h.2.2.2.2.size
  refine Grow.trans (Grow.trans (n1.mono (fun k hk => .inr (.inr hk))) (h.2.2.2.2.mono (fun k hk => .inr (.inl hk)))) (g3.mono (fun k hk => ?_))
  rcases hk with hk | hk
  · exact .inl hk
  · exact .inr (.inr (by omega))

theorem fill_wide {b rb : Nat} {w wr w3 : World} (g : Grow (fun k => k = b ∨ k = rb ∨ w.heap.size ≤ k) w wr) (g3 : Grow (fun k => k = b ∨ k = rb ∨ wr.heap.size ≤ k) wr w3) : Grow (fun k => k = b ∨ k = rb ∨ w.heap.size ≤ k) w w3 := by
  have := g.size
  refine Grow.trans g (g3.mono (fun k hk => ?_))
  rcases hk with hk | hk | hk
  · exact .inl hk
  · exact .inr (.inl hk)
  · exact .inr (.inr (by omega))

theorem fill_bad {K Kw : Nat → Prop} {b rb : Nat} {w wr w1 w2 w3 : World} {aj : ActL} {lr : List Bs} {r : Option (ActL × List Bs)} (g : Grow (fun k => k = b ∨ k = rb ∨ w.heap.size ≤ k) w wr) (n1 : Newer wr w1) (h : FStep K Kw b rb wr.heap.size w1 w2 aj lr) (n3 : Newer w2 w3) (hr : r = none) :
    FillPost K Kw b rb w r (.panicked (gaveUp 380)) w3 :=
  ⟨.inr ⟨hr, rfl⟩, fill_wide g (fill_grow n1 h (n3.mono (fun _ hk => .inr hk)))⟩

/-- the next round's -/
theorem fill_next {K Kw : Nat → Prop} {b rb q : Nat} {w wr w1 w2 w3 : World} {aj a' : ActL} {s : Bs} {lr : List Bs} {nd : Bs} (hq : w.heap.size ≤ q) (I : FillI K Kw b rb q w wr nd aj (s :: lr)) (G : FGeo K Kw b rb w wr) (n1 : Newer wr w1) (h : FStep K Kw b rb wr.heap.size w1 w2 aj lr)
    (ha : ActAt w3 K b a') (g3 : Grow (fun k => k = b ∨ w2.heap.size ≤ k) w2 w3) : FillI K Kw b rb q w w3 nd a' lr := by
  have gg := fill_grow n1 h g3
  have hr : rb < wr.heap.size := Nat.lt_of_lt_of_le (G.hk _ G.kr) G.sz
  have hb : b < wr.heap.size := Nat.lt_of_lt_of_le (G.hk _ G.kb) G.sz
  have hr' := G.hk _ G.kr
  have hb' := G.hk _ G.kb
  have s1 := n1.size
  have s2 := h.2.2.2.2.size
  have hq1 := I.hq
  refine ⟨ha, ?_, fun j hj => ?_, ?_, fill_wide I.g gg, fun x hx => I.small x (List.mem_cons_of_mem _ hx), Nat.lt_of_lt_of_le I.hq gg.size⟩
  · refine h.2.2.2.1.grow g3 (fun hk => ?_) (fun k hk => ?_)
    · rcases hk with hk | hk
      · exact G.hne hk
      · omega
    · rcases hk with hk | hk
      · exact .inl (hk ▸ G.kwb)
      · exact .inr hk
  · exact (gg.cell (p := ⟨q, j, none⟩) I.hq (fun hk => by
      rcases hk with hk | hk | hk
      · have hk : q = b := hk; omega
      · have hk : q = rb := hk; omega
      · have hk : wr.heap.size ≤ q := hk; omega)).trans (I.bytes j hj)
  · exact h.2.1.below (Grow.below g3 (n := b) (fun k hk => by
      rcases hk with hk | hk
      · have hk : k = b := hk; omega
      · omega) (by omega)) G.hbb

set_option maxRecDepth 100000 in
set_option maxHeartbeats 6400000 in
theorem fill_any (K Kw : Nat → Prop) (b rb : Nat) (hne : rb ≠ b) (hkb : K rb) (hkw : Kw b) (a : ActL) (l : List Bs) (nm needs : Bs) (hlet : ∀ c ∈ needs, c ∈ letters) (hnl : needs.length ≤ 100) (w : World) (hK : ∀ k, K k → k < w.heap.size) (E : Env w) (hrb : 5 < rb) (hbb : 5 < b) (ha : ActAt w K b a) (hw : WordsAt w Kw rb l) (hs : ∀ s ∈ l, s.length ≤ 100000) :
    Calls Tryz.prog 51 #[.pointer (some ⟨rb, 0, none⟩), .pointer (some ⟨b, 0, none⟩), verb nm needs] w (FillPost K Kw b rb w (fillL needs a l)) := by
  obtain ⟨n, hn⟩ : ∃ n, needs.length = n := ⟨_, rfl⟩
  obtain ⟨w0, hw0⟩ : ∃ w0, w.alloc (.cells #[.string ⟨nm.toArray⟩, .string ⟨needs.toArray⟩] 79) = w0 := ⟨_, rfl⟩
  have hcv := Lib.run_convert_string_bytes (P := Tryz.prog) w0 9 24 5 ⟨needs.toArray⟩ Tryz.underlying9 Tryz.underlying24 Tryz.underlying5
  have hsz : (ByteArray.mk needs.toArray).size = n := by show needs.toArray.size = n; simp [hn]
  have hb1 : Newer w0 (Lib.bytesWorld w0 5 ⟨needs.toArray⟩) := Newer.of (Go.Joins.below_bytesWorld _ _ _ _ (Nat.le_refl _))
  have hcell : ∀ j (h : j < needs.length), (Lib.bytesWorld w0 5 ⟨needs.toArray⟩).cell? ⟨w0.heap.size, j, none⟩ = some (byteV needs[j]) := fun j h => by
    rw [Lib.bytesWorld_cell w0 5 ⟨needs.toArray⟩ j (by rw [hsz]; omega)]
    simp [byteV, List.getD, List.getElem?_eq_getElem h]
  have hbs := Lib.bytesWorld_size w0 5 ⟨needs.toArray⟩
  rw [hsz] at hcv
  obtain ⟨q, hq⟩ : ∃ q, w0.heap.size = q := ⟨_, rfl⟩
  obtain ⟨cp, hcp⟩ : ∃ cp, grownCap w0 n 0 5 = cp := ⟨_, rfl⟩
  generalize Lib.bytesWorld w0 5 ⟨needs.toArray⟩ = w1 at *
  rw [hq, hcp] at hcv
  rw [hq] at hbs
  rw [hq] at hcell
  have n0 : Newer w w0 := hw0 ▸ Newer.alloc _ _
  have hqw : w.heap.size ≤ q := hq ▸ n0.size
  have hc1 : w0.cell? ⟨w.heap.size, 1, none⟩ = some (.string ⟨needs.toArray⟩) := by subst hw0; simp [go_sem]
  have hF : FillI K Kw b rb q w w1 needs a l := ⟨ha.newer (n0.trans hb1), hw.newer (n0.trans hb1), hcell, E.newer (n0.trans hb1), (n0.trans hb1).mono (fun k h => .inr (.inr h)), hs, by rw [hbs]; omega⟩
  have hrw : rb < w.heap.size := hK _ hkb
  have hbw : b < w.heap.size := hK _ ha.kb
  have hG : FGeo K Kw b rb w w := ⟨hrb, hbb, hne, hK, hkb, ha.kb, hkw, Nat.le_refl _⟩
  have HG := Lib.hid hG
  have HF := Lib.hid hF
  have HW := Lib.hid hw0
  have HN := Lib.hid hn
  have HLT := Lib.hid hlet
  have HKA := Lib.hid hK
  have hkk := Lib.hid hkb
  clear hG ha hw hcell hsz hb1 n0 hF E hs hq hcp hbs hlet hn hK hkb
  unfold verb
  go_enter Tryz.func51, Tryz.ntmps51
  go_wp2_with fail
  simp only [undef]
  go_loopw [7, 12] (fun u i wr => ∃ j : Nat, i = .int .i64 j ∧ j ≤ n ∧ ∃ aj lj, FillI K Kw b rb q w wr needs aj lj ∧ fillL (needs.drop j) aj lj = fillL needs a l ) (fun _ i _ => n - (intOf i).toNat)
  case atStart => exact ⟨0, rfl, Nat.zero_le _, a, l, HF.out, rfl⟩
  case round =>
    obtain ⟨j, rfl, hj, aj, lj, hI, hfl⟩ := hrel
    have HI := Lib.hid hI
    have HX := Lib.hid hfl
    clear hI hfl
    by_cases hlt : j < n
    · obtain ⟨c, hc⟩ : ∃ c, needs[j]'(by rw [HN.out]; exact hlt) = c := ⟨_, rfl⟩
      have hd : needs.drop j = c :: needs.drop (j + 1) := by rw [← hc]; exact List.drop_eq_getElem_cons _
      have HJ := Lib.hid (And.intro hlt (by rw [← HN.out]; exact hnl : n ≤ 100))
      have HC := Lib.hid (HLT.out c (hc ▸ List.getElem_mem _))
      have c0 : wr.cell? ⟨q, j, none⟩ = some (.int .u8 c.toNat) := by rw [HI.out.bytes j (by rw [HN.out]; exact hlt), hc]; rfl
      have hX := HX.out
      rw [hd] at hX
      have hG : FGeo K Kw b rb w wr := ⟨HG.out.hrb, HG.out.hbb, HG.out.hne, HG.out.hk, HG.out.kr, HG.out.kb, HG.out.kwb, HI.out.g.size⟩
      have HI := Lib.hid (And.intro HI.out.env (And.intro HI.out.act (And.intro HI.out.words (And.intro HI.out.g (And.intro HI.out hG)))))
      clear HX hc hd hG
      cases lj with
      | nil =>
        have HX := Lib.hid (hX.symm.trans (fillL_nil _ _ _))
        clear hX
        go_wp2_with fail
        refine wp_region_any (by kernel_rfl) ?_
        (try (change wpAny _ _ _ _ _ _ _ (World.drew _)))
        refine wpAny_take (i := 1) (v := ?_) rfl (by kernel_rfl) (by kernel_rfl) (by kernel_rfl) (fun _ _ _ h => h) (Or.inl ⟨by rfl, ?_⟩) ?_
        rotate_left 1
        · intro w; go_simp; try with_reducible rfl
        refine wpAny_take (i := 4) (v := ?_) rfl (by kernel_rfl) (by kernel_rfl) (by kernel_rfl) (fun _ _ _ h => h) (Or.inl ⟨by rfl, ?_⟩) ?_
        rotate_left 1
        · intro w; go_simp; try with_reducible rfl
        refine wpAny_take (i := 5) (v := ?_) rfl (by kernel_rfl) (by kernel_rfl) (by kernel_rfl) (fun _ _ _ h => h) (Or.inl ⟨by rfl, ?_⟩) ?_
        rotate_left 1
        · intro w; go_simp; try with_reducible rfl
        refine wpAny_take (i := 6) (v := ?_) rfl (by kernel_rfl) (by kernel_rfl) (by kernel_rfl) (fun _ _ _ h => h) (Or.inl ⟨by rfl, ?_⟩) ?_
        rotate_left 1
        · intro w; go_simp; try with_reducible rfl
        refine wpAny_take (i := 7) (v := ?_) rfl (by kernel_rfl) (by kernel_rfl) (by kernel_rfl) (fun _ _ _ h => h) (Or.inl ⟨by rfl, ?_⟩) ?_
        rotate_left 1
        · intro w; go_simp; try with_reducible rfl
        refine wpAny_ready (rs := [0]) (by kernel_rfl) (by simp) ?_
        refine AllReady.cons rfl (fun KK hKK => ?_) AllReady.nil
        go_simp
        refine (parts_any _).mono ?_
        rintro e w1 ⟨rfl, np, bt, bm, ba, bn, bp, bq, hp⟩
        obtain ⟨v, hpart, hlk⟩ := parts_part hp c HC.out
        obtain ⟨fr, capr, fs, caps, rfl, e1, e2, hok, hbad, -⟩ := hpart
        have n1 : Newer wr w1 := (Newer.drew wr).trans np
        have hBz : wr.heap.size ≤ w1.heap.size := n1.size
        have hl1 := hlk w1 (Held.newer _ (Newer.refl _))
        rw [World.size_drew] at hl1
        have ef : ∀ w, (Instr.field 84 (.agg #[.func (.func fr) #[] capr, .func (.func fs) #[] caps]) 0).run Tryz.prog w = .ok (.func (.func fr) #[] capr) w := fun _ => rfl
        have HL := Lib.hid hlk
        have HP := Lib.hid (And.intro hok hbad)
        have W1 := Lib.hid (And.intro n1 (And.intro (HI.out.1.newer n1) (And.intro (HI.out.2.1.newer n1) (HI.out.2.2.1.newer n1))))
        clear np hp hlk hok hbad n1 e2
        refine hKK _ _ ?_
        clear hKK KK
        refine wpAny_ready (rs := [2, 8]) (by kernel_rfl) (by simp) ?_
        refine AllReady.cons rfl (fun KK hKK => ?_) ?_
        · go_simp
          refine hKK _ _ ?_
          clear hKK KK
          refine wpAny_take (i := 3) (v := ?_) rfl (by kernel_rfl) (by kernel_rfl) (by kernel_rfl) (fun _ _ _ h => h) (Or.inl ⟨by rfl, ?_⟩) ?_
          rotate_left 1
          · intro w; go_simp; try with_reducible rfl
          refine wpAny_ready (rs := [8]) (by kernel_rfl) (by simp) ?_
          refine AllReady.cons rfl (fun KK hKK => ?_) AllReady.nil
          go_simp
          refine (take_none Kw _ _ W1.out.2.2.2).mono ?_
          rintro e w' ⟨rfl, rfl⟩
          exact ⟨rfl, fill_none (HI.out.2.2.2.1) W1.out.1 HX.out⟩
        refine AllReady.cons rfl (fun KK hKK => ?_) AllReady.nil
        · go_simp
          refine (take_none Kw _ _ W1.out.2.2.2).mono ?_
          rintro e w' ⟨rfl, rfl⟩
          exact ⟨rfl, fill_none (HI.out.2.2.2.1) W1.out.1 HX.out⟩

      | cons s lr =>
        have HS := Lib.hid (HI.out.2.2.2.2.1.small s (List.mem_cons_self ..))
        cases hset : setL c aj s with
        | none =>
          have HSET := Lib.hid hset
          have HX := Lib.hid (hX.symm.trans (fillL_none hset))
          clear hX hset
          go_wp2_with fail
          refine wp_region_any (by kernel_rfl) ?_
          (try (change wpAny _ _ _ _ _ _ _ (World.drew _)))
          refine wpAny_take (i := 1) (v := ?_) rfl (by kernel_rfl) (by kernel_rfl) (by kernel_rfl) (fun _ _ _ h => h) (Or.inl ⟨by rfl, ?_⟩) ?_
          rotate_left 1
          · intro w; go_simp; try with_reducible rfl
          refine wpAny_take (i := 4) (v := ?_) rfl (by kernel_rfl) (by kernel_rfl) (by kernel_rfl) (fun _ _ _ h => h) (Or.inl ⟨by rfl, ?_⟩) ?_
          rotate_left 1
          · intro w; go_simp; try with_reducible rfl
          refine wpAny_take (i := 5) (v := ?_) rfl (by kernel_rfl) (by kernel_rfl) (by kernel_rfl) (fun _ _ _ h => h) (Or.inl ⟨by rfl, ?_⟩) ?_
          rotate_left 1
          · intro w; go_simp; try with_reducible rfl
          refine wpAny_take (i := 6) (v := ?_) rfl (by kernel_rfl) (by kernel_rfl) (by kernel_rfl) (fun _ _ _ h => h) (Or.inl ⟨by rfl, ?_⟩) ?_
          rotate_left 1
          · intro w; go_simp; try with_reducible rfl
          refine wpAny_take (i := 7) (v := ?_) rfl (by kernel_rfl) (by kernel_rfl) (by kernel_rfl) (fun _ _ _ h => h) (Or.inl ⟨by rfl, ?_⟩) ?_
          rotate_left 1
          · intro w; go_simp; try with_reducible rfl
          refine wpAny_ready (rs := [0]) (by kernel_rfl) (by simp) ?_
          refine AllReady.cons rfl (fun KK hKK => ?_) AllReady.nil
          go_simp
          refine (parts_any _).mono ?_
          rintro e w1 ⟨rfl, np, bt, bm, ba, bn, bp, bq, hp⟩
          obtain ⟨v, hpart, hlk⟩ := parts_part hp c HC.out
          obtain ⟨fr, capr, fs, caps, rfl, e1, e2, hok, hbad, -⟩ := hpart
          have n1 : Newer wr w1 := (Newer.drew wr).trans np
          have hBz : wr.heap.size ≤ w1.heap.size := n1.size
          have hl1 := hlk w1 (Held.newer _ (Newer.refl _))
          rw [World.size_drew] at hl1
          have ef : ∀ w, (Instr.field 84 (.agg #[.func (.func fr) #[] capr, .func (.func fs) #[] caps]) 0).run Tryz.prog w = .ok (.func (.func fr) #[] capr) w := fun _ => rfl
          have HL := Lib.hid hlk
          have HP := Lib.hid (And.intro hok hbad)
          have W1 := Lib.hid (And.intro n1 (And.intro (HI.out.1.newer n1) (And.intro (HI.out.2.1.newer n1) (HI.out.2.2.1.newer n1))))
          clear np hp hlk hok hbad n1 e2
          refine hKK _ _ ?_
          clear hKK KK
          refine wpAny_ready (rs := [2, 8]) (by kernel_rfl) (by simp) ?_
          refine AllReady.cons rfl (fun KK hKK => ?_) ?_
          · go_simp
            refine hKK _ _ ?_
            clear hKK KK
            refine wpAny_take (i := 3) (v := ?_) rfl (by kernel_rfl) (by kernel_rfl) (by kernel_rfl) (fun _ _ _ h => h) (Or.inl ⟨by rfl, ?_⟩) ?_
            rotate_left 1
            · intro w; go_simp; try with_reducible rfl
            refine wpAny_ready (rs := [8]) (by kernel_rfl) (by simp) ?_
            refine AllReady.cons rfl (fun KK hKK => ?_) AllReady.nil
            go_simp
            refine (take_some Kw _ _ _ _ W1.out.2.2.2).mono ?_
            rintro e w2 ⟨rfl, hw2, u, hu⟩
            have W2 := Lib.hid (fill_step1 W1.out.1 HI.out.2.2.2.2.2 W1.out.2.1 W1.out.2.2.1 hw2 hu)
            have hl2 := HL.out w2 W2.out.1
            rw [World.size_drew] at hl2
            clear hw2 hu
            refine hKK _ _ ?_
            clear hKK KK
            refine wpAny_ready (rs := [9]) (by kernel_rfl) (by simp) ?_
            refine AllReady.cons rfl (fun KK hKK => ?_) AllReady.nil
            go_simp
            refine (HP.out.2 w2 W2.out.1 W2.out.2.1 K b aj s HS.out W2.out.2.2.1 HSET.out).mono ?_
            rintro e w3 ⟨rfl, n3⟩
            exact ⟨rfl, fill_bad HI.out.2.2.2.1 W1.out.1 W2.out n3 HX.out⟩
          refine AllReady.cons rfl (fun KK hKK => ?_) AllReady.nil
          · go_simp
            refine (take_some Kw _ _ _ _ W1.out.2.2.2).mono ?_
            rintro e w2 ⟨rfl, hw2, u, hu⟩
            have W2 := Lib.hid (fill_step1 W1.out.1 HI.out.2.2.2.2.2 W1.out.2.1 W1.out.2.2.1 hw2 hu)
            have hl2 := HL.out w2 W2.out.1
            rw [World.size_drew] at hl2
            clear hw2 hu
            refine hKK _ _ ?_
            clear hKK KK
            refine wpAny_ready (rs := [2]) (by kernel_rfl) (by simp) ?_
            refine AllReady.cons rfl (fun KK hKK => ?_) AllReady.nil
            go_simp
            refine hKK _ _ ?_
            clear hKK KK
            refine wpAny_take (i := 3) (v := ?_) rfl (by kernel_rfl) (by kernel_rfl) (by kernel_rfl) (fun _ _ _ h => h) (Or.inl ⟨by rfl, ?_⟩) ?_
            rotate_left 1
            · intro w; go_simp; try with_reducible rfl
            refine wpAny_ready (rs := [9]) (by kernel_rfl) (by simp) ?_
            refine AllReady.cons rfl (fun KK hKK => ?_) AllReady.nil
            go_simp
            refine (HP.out.2 w2 W2.out.1 W2.out.2.1 K b aj s HS.out W2.out.2.2.1 HSET.out).mono ?_
            rintro e w3 ⟨rfl, n3⟩
            exact ⟨rfl, fill_bad HI.out.2.2.2.1 W1.out.1 W2.out n3 HX.out⟩

        | some a' =>
          have HSET := Lib.hid hset
          have HX := Lib.hid ((fillL_some hset).symm.trans hX)
          clear hX hset
          go_wp2_with fail
          refine wp_region_any (by kernel_rfl) ?_
          (try (change wpAny _ _ _ _ _ _ _ (World.drew _)))
          refine wpAny_take (i := 1) (v := ?_) rfl (by kernel_rfl) (by kernel_rfl) (by kernel_rfl) (fun _ _ _ h => h) (Or.inl ⟨by rfl, ?_⟩) ?_
          rotate_left 1
          · intro w; go_simp; try with_reducible rfl
          refine wpAny_take (i := 4) (v := ?_) rfl (by kernel_rfl) (by kernel_rfl) (by kernel_rfl) (fun _ _ _ h => h) (Or.inl ⟨by rfl, ?_⟩) ?_
          rotate_left 1
          · intro w; go_simp; try with_reducible rfl
          refine wpAny_take (i := 5) (v := ?_) rfl (by kernel_rfl) (by kernel_rfl) (by kernel_rfl) (fun _ _ _ h => h) (Or.inl ⟨by rfl, ?_⟩) ?_
          rotate_left 1
          · intro w; go_simp; try with_reducible rfl
          refine wpAny_take (i := 6) (v := ?_) rfl (by kernel_rfl) (by kernel_rfl) (by kernel_rfl) (fun _ _ _ h => h) (Or.inl ⟨by rfl, ?_⟩) ?_
          rotate_left 1
          · intro w; go_simp; try with_reducible rfl
          refine wpAny_take (i := 7) (v := ?_) rfl (by kernel_rfl) (by kernel_rfl) (by kernel_rfl) (fun _ _ _ h => h) (Or.inl ⟨by rfl, ?_⟩) ?_
          rotate_left 1
          · intro w; go_simp; try with_reducible rfl
          refine wpAny_ready (rs := [0]) (by kernel_rfl) (by simp) ?_
          refine AllReady.cons rfl (fun KK hKK => ?_) AllReady.nil
          go_simp
          refine (parts_any _).mono ?_
          rintro e w1 ⟨rfl, np, bt, bm, ba, bn, bp, bq, hp⟩
          obtain ⟨v, hpart, hlk⟩ := parts_part hp c HC.out
          obtain ⟨fr, capr, fs, caps, rfl, e1, e2, hok, hbad, -⟩ := hpart
          have n1 : Newer wr w1 := (Newer.drew wr).trans np
          have hBz : wr.heap.size ≤ w1.heap.size := n1.size
          have hl1 := hlk w1 (Held.newer _ (Newer.refl _))
          rw [World.size_drew] at hl1
          have ef : ∀ w, (Instr.field 84 (.agg #[.func (.func fr) #[] capr, .func (.func fs) #[] caps]) 0).run Tryz.prog w = .ok (.func (.func fr) #[] capr) w := fun _ => rfl
          have HL := Lib.hid hlk
          have HP := Lib.hid (And.intro hok hbad)
          have W1 := Lib.hid (And.intro n1 (And.intro (HI.out.1.newer n1) (And.intro (HI.out.2.1.newer n1) (HI.out.2.2.1.newer n1))))
          clear np hp hlk hok hbad n1 e2
          refine hKK _ _ ?_
          clear hKK KK
          refine wpAny_ready (rs := [2, 8]) (by kernel_rfl) (by simp) ?_
          refine AllReady.cons rfl (fun KK hKK => ?_) ?_
          · go_simp
            refine hKK _ _ ?_
            clear hKK KK
            refine wpAny_take (i := 3) (v := ?_) rfl (by kernel_rfl) (by kernel_rfl) (by kernel_rfl) (fun _ _ _ h => h) (Or.inl ⟨by rfl, ?_⟩) ?_
            rotate_left 1
            · intro w; go_simp; try with_reducible rfl
            refine wpAny_ready (rs := [8]) (by kernel_rfl) (by simp) ?_
            refine AllReady.cons rfl (fun KK hKK => ?_) AllReady.nil
            go_simp
            refine (take_some Kw _ _ _ _ W1.out.2.2.2).mono ?_
            rintro e w2 ⟨rfl, hw2, u, hu⟩
            have W2 := Lib.hid (fill_step1 W1.out.1 HI.out.2.2.2.2.2 W1.out.2.1 W1.out.2.2.1 hw2 hu)
            have hl2 := HL.out w2 W2.out.1
            rw [World.size_drew] at hl2
            clear hw2 hu
            refine hKK _ _ ?_
            clear hKK KK
            refine wpAny_ready (rs := [9]) (by kernel_rfl) (by simp) ?_
            refine AllReady.cons rfl (fun KK hKK => ?_) AllReady.nil
            go_simp
            refine (HP.out.1 w2 W2.out.1 W2.out.2.1 K b aj s a' HS.out (fill_k HI.out.2.2.2.2.2 W1.out.1 W2.out) W2.out.2.2.1 HSET.out).mono ?_
            rintro e w3 ⟨rfl, ha3, g3⟩
            have W3 := Lib.hid (fill_next hqw HI.out.2.2.2.2.1 HI.out.2.2.2.2.2 W1.out.1 W2.out ha3 g3)
            clear ha3 g3
            refine hKK _ _ ?_
            clear hKK KK
            refine wpAny_done (by kernel_rfl) ?_ _
            go_wp2_with fail
            have iw : wrap64 ((j : Int) + 1) = ((j + 1 : Nat) : Int) := by have := HJ.out; exact IntWalk.wrap64_in _ (by omega)
            rw [iw]
            clear iw
            go_roundw
            case rel => exact ⟨j + 1, rfl, by have := HJ.out; omega, a', lr, W3.out, HX.out⟩
            case measure =>
              have := HJ.out
              simp [intOf]
              omega
          refine AllReady.cons rfl (fun KK hKK => ?_) AllReady.nil
          · go_simp
            refine (take_some Kw _ _ _ _ W1.out.2.2.2).mono ?_
            rintro e w2 ⟨rfl, hw2, u, hu⟩
            have W2 := Lib.hid (fill_step1 W1.out.1 HI.out.2.2.2.2.2 W1.out.2.1 W1.out.2.2.1 hw2 hu)
            have hl2 := HL.out w2 W2.out.1
            rw [World.size_drew] at hl2
            clear hw2 hu
            refine hKK _ _ ?_
            clear hKK KK
            refine wpAny_ready (rs := [2]) (by kernel_rfl) (by simp) ?_
            refine AllReady.cons rfl (fun KK hKK => ?_) AllReady.nil
            go_simp
            refine hKK _ _ ?_
            clear hKK KK
            refine wpAny_take (i := 3) (v := ?_) rfl (by kernel_rfl) (by kernel_rfl) (by kernel_rfl) (fun _ _ _ h => h) (Or.inl ⟨by rfl, ?_⟩) ?_
            rotate_left 1
            · intro w; go_simp; try with_reducible rfl
            refine wpAny_ready (rs := [9]) (by kernel_rfl) (by simp) ?_
            refine AllReady.cons rfl (fun KK hKK => ?_) AllReady.nil
            go_simp
            refine (HP.out.1 w2 W2.out.1 W2.out.2.1 K b aj s a' HS.out (fill_k HI.out.2.2.2.2.2 W1.out.1 W2.out) W2.out.2.2.1 HSET.out).mono ?_
            rintro e w3 ⟨rfl, ha3, g3⟩
            have W3 := Lib.hid (fill_next hqw HI.out.2.2.2.2.1 HI.out.2.2.2.2.2 W1.out.1 W2.out ha3 g3)
            clear ha3 g3
            refine hKK _ _ ?_
            clear hKK KK
            refine wpAny_done (by kernel_rfl) ?_ _
            go_wp2_with fail
            have iw : wrap64 ((j : Int) + 1) = ((j + 1 : Nat) : Int) := by have := HJ.out; exact IntWalk.wrap64_in _ (by omega)
            rw [iw]
            clear iw
            go_roundw
            case rel => exact ⟨j + 1, rfl, by have := HJ.out; omega, a', lr, W3.out, HX.out⟩
            case measure =>
              have := HJ.out
              simp [intOf]
              omega

    · have hd : needs.drop j = [] := List.drop_eq_nil_of_le (by rw [HN.out]; omega)
      have hX := HX.out
      rw [hd] at hX
      have HX := Lib.hid ((fillL_end _ _).symm.trans hX)
      clear hX hd
      go_wp2_with fail
      go_end0
      exact ⟨.inl ⟨aj, lj, HX.out.symm, rfl, HI.out.act, HI.out.words⟩, HI.out.g⟩

end Go.Proofs.YtgdaaafejfjilaaGreatDoor
