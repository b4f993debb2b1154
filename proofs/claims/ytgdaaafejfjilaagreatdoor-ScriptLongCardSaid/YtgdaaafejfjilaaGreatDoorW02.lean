/- the plain law of scripts: acts, lines -/
import Derived.Lib.AtoiAll
import Derived.Lib.ItoaNum
import Derived.Lib.Split
namespace Go.Proofs.YtgdaaafejfjilaaGreatDoor

abbrev Bs := List UInt8

/-- an act -/
structure ActL where
  kind : Int
  thread : Int
  n : Int
  okind : Int
  path : Bs
  dest : Bs
  at_ : Int
  on : Int
  bytes : Bs
  marks : List Bool

def ActL.zero : ActL := ⟨0, 0, 0, 0, [], [], 0, 0, [], []⟩

def sameL (a b : ActL) : Bool :=
  a.kind == b.kind && (a.thread == b.thread && (a.n == b.n && (a.okind == b.okind && (a.path == b.path && (a.dest == b.dest && (a.at_ == b.at_ && (a.on == b.on && (a.bytes == b.bytes && a.marks == b.marks))))))))
theorem sameL_iff {a b : ActL} : sameL a b = true ↔ a = b := by
  cases a; cases b
  simp [sameL]

/-- a number of a word -/
def numL (s : Bs) : Option Int := match Lib.atoiAll s with
  | .ok v => if s.length ≤ 9 ∧ Lib.itoa v = s ∧ 0 ≤ v then some v else none
  | _ => none
/-- a path -/
def pathL (s : Bs) : Option Bs := if 1 ≤ s.length ∧ s.length ≤ 300 ∧ (10 : UInt8) ∉ s then some s else none
/-- half of a byte -/
def halfL (c : UInt8) : Option Nat := if 48 ≤ c.toNat ∧ c.toNat ≤ 57 then some (c.toNat - 48) else if 97 ≤ c.toNat ∧ c.toNat ≤ 102 then some (c.toNat - 87) else none
def pairsL : Bs → Option Bs
  | [] => some []
  | [_] => none
  | a :: b :: r => match halfL a, halfL b, pairsL r with
    | some x, some y, some z => some (UInt8.ofNat (16 * x + y) :: z)
    | _, _, _ => none
def bytesL (s : Bs) : Option Bs := if s = [45] then some [] else if 0 < s.length ∧ s.length % 2 = 0 ∧ s.length ≤ 896 then pairsL s else none
def bitsL (s : Bs) : Option (List Bool) := if ∀ c ∈ s, c = 48 ∨ c = 49 then some (s.map (· == 49)) else none
def marksL (s : Bs) : Option (List Bool) := if s = [45] then some [] else if 1 ≤ s.length ∧ s.length ≤ 60 then bitsL s else none

/-- a word is read, by a letter -/
def setL (c : UInt8) (a : ActL) (s : Bs) : Option ActL :=
  if c = 116 then (numL s).map fun v => { a with thread := v }
  else if c = 109 then (numL s).map fun v => { a with n := v }
  else if c = 97 then (numL s).map fun v => { a with at_ := v }
  else if c = 110 then (numL s).map fun v => { a with on := v }
  else if c = 112 then (pathL s).map fun v => { a with path := v }
  else if c = 113 then (pathL s).map fun v => { a with dest := v }
  else if c = 98 then (bytesL s).map fun v => { a with bytes := v }
  else if c = 107 then (marksL s).map fun v => { a with marks := v }
  else none
/-- words are read, by letters -/
def fillL : Bs → ActL → List Bs → Option (ActL × List Bs)
  | [], a, l => some (a, l)
  | _ :: _, _, [] => none
  | c :: cs, a, s :: l => match setL c a s with
    | some a' => fillL cs a' l
    | none => none

def verbL (k : Int) : Bs × Bs :=
  if k = 1 then ([113, 117, 101, 117, 101], [116]) else if k = 2 then ([115, 116, 101, 112], [116, 109]) else if k = 3 then ([101, 118, 105, 99, 116], [109])
  else if k = 4 then ([99, 114, 97, 115, 104], [107]) else if k = 5 then ([114, 101, 99, 111, 118, 101, 114], [109]) else ([], [])
def opL (k : Int) : Bs × Bs :=
  if k = 1 then ([115, 116, 97, 116], [112]) else if k = 2 then ([108, 105, 115, 116], [112]) else if k = 3 then ([114, 101, 97, 100], [112, 97, 110]) else if k = 4 then ([109, 97, 107, 101], [112])
  else if k = 5 then ([109, 107, 100, 105, 114], [112]) else if k = 6 then ([117, 110, 108, 105, 110, 107], [112]) else if k = 7 then ([114, 109, 100, 105, 114], [112])
  else if k = 8 then ([114, 101, 110, 97, 109, 101], [112, 113]) else if k = 9 then ([108, 105, 110, 107], [112, 113]) else if k = 10 then ([119, 114, 105, 116, 101], [112, 97, 98])
  else if k = 11 then ([99, 117, 116], [112, 110]) else ([], [])
/-- the kind that a word is the verb of -/
def kindL (s : Bs) : Option Int := [1, 2, 3, 4, 5].find? fun k => (verbL k).1 == s
def opkL (s : Bs) : Option Int := [1, 2, 3, 4, 5, 6, 7, 8, 9, 10, 11].find? fun k => (opL k).1 == s

/-- the words of a line -/
def wordsL (sep : UInt8) : Bs → List Bs
  | [] => [[]]
  | c :: r => if c = sep then [] :: wordsL sep r else match wordsL sep r with
    | [] => [[c]]
    | w :: l => (c :: w) :: l

/-- the act of words -/
def readL : List Bs → Option ActL
  | [] => none
  | v :: l => match kindL v with
    | none => none
    | some k => match fillL (verbL k).2 { ActL.zero with kind := k } l with
      | none => none
      | some (a, l1) => if k = 1 then match l1 with
          | [] => none
          | o :: l2 => match opkL o with
            | none => none
            | some x => match fillL (opL x).2 { a with okind := x } l2 with
              | none => none
              | some (b, l3) => if l3 = [] then some b else none
        else if l1 = [] then some a else none
/-- the act of a line -/
def parseL (s : Bs) : Option ActL := readL (wordsL 32 s)

def hexD (n : Nat) : UInt8 := UInt8.ofNat (if n < 10 then 48 + n else 87 + n)
def hexL (b : Bs) : Bs := if b = [] then [45] else b.flatMap fun c => [hexD (c.toNat / 16), hexD (c.toNat % 16)]
def dotsL (l : List Bool) : Bs := if l = [] then [45] else l.map fun x => if x then 49 else 48
/-- what is printed of an act, by a letter -/
def showL (c : UInt8) (a : ActL) : Bs :=
  if c = 116 then Lib.itoa a.thread else if c = 109 then Lib.itoa a.n else if c = 97 then Lib.itoa a.at_ else if c = 110 then Lib.itoa a.on
  else if c = 112 then a.path else if c = 113 then a.dest else if c = 98 then hexL a.bytes else if c = 107 then dotsL a.marks else []
def addL (needs : Bs) (a : ActL) : Bs := needs.flatMap fun c => 32 :: showL c a
/-- an act's line, as far as it goes -/
def laidL (a : ActL) : Bs := (verbL a.kind).1 ++ addL (verbL a.kind).2 a ++ if a.kind = 1 then (32 :: (opL a.okind).1) ++ addL (opL a.okind).2 a else []
def printL (a : ActL) : Option Bs := match parseL (laidL a) with
  | some b => if sameL a b then some (laidL a) else none
  | none => none

end Go.Proofs.YtgdaaafejfjilaaGreatDoor
