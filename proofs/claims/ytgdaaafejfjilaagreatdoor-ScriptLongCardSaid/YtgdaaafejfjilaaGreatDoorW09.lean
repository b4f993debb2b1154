/- maps that a call lays with constant keys: the tables of package script -/
import Derived.Test.YtgdaaafejfjilaaGreatDoorW01
import Derived.Maps.RangeWalk
namespace Go.Proofs.YtgdaaafejfjilaaGreatDoor
open Go.RowKit Go.Maps

/-- an entry of a map literal, at the operation -/
theorem wpList_insert_own {H : Type} {P : Program} (w : World) {ops : Array Oper} {rest : List Oper} {o : Oper} {a : Act} {Q : Exit → Act → World → Prop}
    (hg : o.guard = none) (m x v : Operand) (t : TypeId) (hop : o.op = Op.insert t m x v)
    (k e : TypeId) (K : Keyed P k) (ht : P.underlying t = some (.map k e)) (R : Value → Option (DataW H × List MemPlace)) (b n : Nat) (D : DataW H)
    (hm : a.eval m = .map (some b)) (hown : w.ownsMap P k R b n D) (hn : n < maxLen) (key val : Value) (kl : Lit) (hx : a.eval x = key) (hv : a.eval v = val) (hkey : keyOf P k key = some kl)
    (d : DataW H) (ps : List MemPlace) (hval : R val = some (d, ps))
    (hK : ∀ w', w'.ownsMap P k R b (n + 1) (D.put kl d) → w.grownBy w' (some b) → wpList P ops Q rest (a.put o.dst undef) w') :
    wpList P ops Q (o :: rest) a w := by
  refine wpList_plain hg fun K' hK' => ?_
  obtain ⟨w', hrun, r1, r2⟩ := hown.update K ht hn hkey hval
  unfold Oper.wp
  simp [execOp, hop, hm, hx, hv, hrun, Result.andThen]
  exact hK' _ _ (hK w' r1 r2)

/-- an element reads as itself -/
def Rv (v : Value) : Option (DataW Value × List MemPlace) := some (.held v, [])

def verb (name needs : List UInt8) : Value := .agg #[.string ⟨name.toArray⟩, .string ⟨needs.toArray⟩]
theorem law22 : Keyed Tryz.prog 22 := int_keyed Tryz.underlying22

theorem law23 : Keyed Tryz.prog 23 := int_keyed Tryz.underlying23

/-- the table of verbs -/
def verbsD : DataW Value := (((((DataW.map []).put (.int .i64 1) (.held (verb [113, 117, 101, 117, 101] [116]))).put (.int .i64 2) (.held (verb [115, 116, 101, 112] [116, 109]))).put (.int .i64 3) (.held (verb [101, 118, 105, 99, 116] [109]))).put (.int .i64 4) (.held (verb [99, 114, 97, 115, 104] [107]))).put (.int .i64 5) (.held (verb [114, 101, 99, 111, 118, 101, 114] [109]))
/-- the table of operations -/
def opsD : DataW Value := (((((((((((DataW.map []).put (.int .i64 1) (.held (verb [115, 116, 97, 116] [112]))).put (.int .i64 2) (.held (verb [108, 105, 115, 116] [112]))).put (.int .i64 3) (.held (verb [114, 101, 97, 100] [112, 97, 110]))).put (.int .i64 4) (.held (verb [109, 97, 107, 101] [112]))).put (.int .i64 5) (.held (verb [109, 107, 100, 105, 114] [112]))).put (.int .i64 6) (.held (verb [117, 110, 108, 105, 110, 107] [112]))).put (.int .i64 7) (.held (verb [114, 109, 100, 105, 114] [112]))).put (.int .i64 8) (.held (verb [114, 101, 110, 97, 109, 101] [112, 113]))).put (.int .i64 9) (.held (verb [108, 105, 110, 107] [112, 113]))).put (.int .i64 10) (.held (verb [119, 114, 105, 116, 101] [112, 97, 98]))).put (.int .i64 11) (.held (verb [99, 117, 116] [112, 110]))

set_option maxRecDepth 100000 in
set_option maxHeartbeats 1600000 in
theorem verbs_any (w : World) : Calls Tryz.prog 41 #[] w fun en w' => en = .returned (.map (some w.heap.size)) ∧ w'.ownsMap Tryz.prog 22 Rv w.heap.size 5 verbsD ∧ Below w.heap.size w w' := by
  have hmm := @run_makeMap Tryz.prog
  have hown := World.ownsMap_made w Tryz.prog 22 Rv
  have hb : Below w.heap.size w (w.alloc (.map #[] 0)) := (Below.refl _ _).alloc (Nat.le_refl _) _
  go_enter Tryz.func41, Tryz.ntmps41
  go_wp2_with (refine wpList_insert_own _ rfl _ _ _ 80 rfl 22 79 law22 Tryz.underlying80 Rv _ _ _ rfl hown (by unfold maxLen; omega) _ _ _ rfl rfl (keyOf_int_mk Tryz.underlying22 (by decide)) _ [] rfl ?_; intro w1 h1 g1; replace hown := h1; replace hb := hb.grown g1 hb.size (fun k e => by cases e; exact Nat.le_refl _); clear h1 g1)
  go_ret
  exact ⟨rfl, hown, hb⟩
set_option maxRecDepth 100000 in
set_option maxHeartbeats 1600000 in
theorem ops_any (w : World) : Calls Tryz.prog 44 #[] w fun en w' => en = .returned (.map (some w.heap.size)) ∧ w'.ownsMap Tryz.prog 23 Rv w.heap.size 11 opsD ∧ Below w.heap.size w w' := by
  have hmm := @run_makeMap Tryz.prog
  have hown := World.ownsMap_made w Tryz.prog 23 Rv
  have hb : Below w.heap.size w (w.alloc (.map #[] 0)) := (Below.refl _ _).alloc (Nat.le_refl _) _
  go_enter Tryz.func44, Tryz.ntmps44
  go_wp2_with (refine wpList_insert_own _ rfl _ _ _ 88 rfl 23 79 law23 Tryz.underlying88 Rv _ _ _ rfl hown (by unfold maxLen; omega) _ _ _ rfl rfl (keyOf_int_mk Tryz.underlying23 (by decide)) _ [] rfl ?_; intro w1 h1 g1; replace hown := h1; replace hb := hb.grown g1 hb.size (fun k e => by cases e; exact Nat.le_refl _); clear h1 g1)
  go_ret
  exact ⟨rfl, hown, hb⟩

end Go.Proofs.YtgdaaafejfjilaaGreatDoor
