/- Plain: how two lines are compared by an order. -/
import Derived.Test.YtinpgnekjebipaaDoorMem
import Derived.Lib.Bytealg
import Derived.Lib.Small
set_option linter.unusedVariables false
namespace Go.Pw

/-- a byte of a string, by its place -/
def bt (s : ByteArray) (i : Nat) : UInt8 := s.data.toList.getD i 0
theorem bt_eq {s : ByteArray} {i : Nat} (h : i < s.size) : bt s i = s[i] := by
  unfold bt
  have : i < s.data.toList.length := by simpa using h
  rw [List.getD_eq_getElem?_getD, List.getElem?_eq_getElem this]; rfl
def blankB (c : UInt8) : Bool := c == 9 || c == 32
def digB (c : UInt8) : Bool := decide (48 ≤ c.toNat) && decide (c.toNat ≤ 57)

/-- does a field end at a place -/
def fldHit (line sep : ByteArray) (i : Nat) : Bool := if sep.size = 0 then decide (0 < i) && blankB (bt line i) && !blankB (bt line (i - 1)) else bt line i == bt sep 0
/-- the fields that end ahead of a place, and where the next one begins -/
def fldTo (line sep : ByteArray) : Nat → List (Nat × Nat) × Nat
  | 0 => ([], 0)
  | i + 1 => if fldHit line sep i then ((fldTo line sep i).1 ++ [((fldTo line sep i).2, i)], if sep.size = 0 then i else i + 1) else fldTo line sep i
def fldL (line sep : ByteArray) : List (Nat × Nat) := (fldTo line sep line.size).1 ++ [((fldTo line sep line.size).2, line.size)]
theorem fldTo_ok (line sep : ByteArray) : ∀ i, (fldTo line sep i).2 ≤ i ∧ (fldTo line sep i).1.length ≤ i ∧ ∀ p ∈ (fldTo line sep i).1, p.1 ≤ p.2 ∧ p.2 ≤ i
  | 0 => ⟨Nat.le_refl _, Nat.le_refl _, fun p hp => by cases hp⟩
  | i + 1 => by
    obtain ⟨h1, h2, h3⟩ := fldTo_ok line sep i
    unfold fldTo
    split
    · refine ⟨?_, by simp; omega, fun p hp => ?_⟩
      · dsimp only; split <;> omega
      · rcases List.mem_append.1 hp with h | h
        · have := h3 p h; omega
        · simp at h; subst h; exact ⟨h1, by simp⟩
    · exact ⟨by omega, by omega, fun p hp => by have := h3 p hp; omega⟩
theorem fldL_ok (line sep : ByteArray) : (fldL line sep).length ≤ line.size + 1 ∧ 0 < (fldL line sep).length ∧ ∀ p ∈ fldL line sep, p.1 ≤ p.2 ∧ p.2 ≤ line.size := by
  obtain ⟨h1, h2, h3⟩ := fldTo_ok line sep line.size
  unfold fldL
  refine ⟨by simp; omega, by simp, fun p hp => ?_⟩
  rcases List.mem_append.1 hp with h | h
  · exact h3 p h
  · simp at h; subst h; exact ⟨h1, Nat.le_refl _⟩

/-- blanks are passed over -/
def skipF (s : ByteArray) : Nat → Nat → Nat
  | 0, i => i
  | n + 1, i => if blankB (bt s i) then skipF s n (i + 1) else i
theorem skipF_ok (s : ByteArray) : ∀ n i, i ≤ skipF s n i ∧ skipF s n i ≤ i + n
  | 0, i => ⟨Nat.le_refl _, Nat.le_refl _⟩
  | n + 1, i => by
    have := skipF_ok s n (i + 1)
    unfold skipF
    split <;> omega
def begAt (s : ByteArray) (blanks : Bool) (f : Nat × Nat) : Nat := if blanks then skipF s (f.2 - f.1) f.1 else f.1
theorem begAt_ok (s : ByteArray) (b : Bool) (f : Nat × Nat) (h : f.1 ≤ f.2) : f.1 ≤ begAt s b f ∧ begAt s b f ≤ f.2 := by
  have := skipF_ok s (f.2 - f.1) f.1
  unfold begAt
  split <;> omega

/-- a key of an order, as data -/
structure Ky where
  first : Int
  firstB : Int
  last : Int
  lastB : Int
  numeric : Bool
  reverse : Bool
  fold : Bool
  blanks : Bool
/-- an order, as data -/
structure Sp where
  sep : ByteArray
  keys : List Ky
  reverse : Bool
  stable : Bool
  unique : Bool

def keyErr (k : Ky) : Int := if (1 ≤ k.first ∧ k.first ≤ 4096) ∧ (1 ≤ k.firstB ∧ k.firstB ≤ 4096) ∧ (0 ≤ k.last ∧ k.last ≤ 4096) ∧ (0 ≤ k.lastB ∧ k.lastB ≤ 4096) ∧ ¬ (k.last = 0 ∧ k.lastB ≠ 0) then 0 else 3
def Ky.good (k : Ky) : Prop := (1 ≤ k.first ∧ k.first ≤ 4096) ∧ (1 ≤ k.firstB ∧ k.firstB ≤ 4096) ∧ (0 ≤ k.last ∧ k.last ≤ 4096) ∧ (0 ≤ k.lastB ∧ k.lastB ≤ 4096)

def keyFrom (k : Ky) (line sep : ByteArray) : Nat :=
  if k.first ≤ (fldL line sep).length then min (begAt line k.blanks ((fldL line sep).getD (k.first.toNat - 1) (0, 0)) + k.firstB.toNat - 1) ((fldL line sep).getD (k.first.toNat - 1) (0, 0)).2 else line.size
def keyTo (k : Ky) (line sep : ByteArray) : Nat :=
  if 0 < k.last ∧ k.last ≤ (fldL line sep).length then
    (if 0 < k.lastB then min (begAt line k.blanks ((fldL line sep).getD (k.last.toNat - 1) (0, 0)) + k.lastB.toNat) ((fldL line sep).getD (k.last.toNat - 1) (0, 0)).2 else ((fldL line sep).getD (k.last.toNat - 1) (0, 0)).2)
  else line.size
/-- the key of a line -/
def keyOf (k : Ky) (line sep : ByteArray) : ByteArray := if keyTo k line sep < keyFrom k line sep then ⟨#[]⟩ else line.extract (keyFrom k line sep) (keyTo k line sep)

/-- a number: its sign, its digits -/
structure Nm where
  neg : Bool
  whole : List UInt8
  part : List UInt8
def tailZ (l : List UInt8) : List UInt8 := (l.reverse.dropWhile (· == 48)).reverse
def afterSign (l : List UInt8) : List UInt8 := match l with | 45 :: t => t | l => l
def hasSign (l : List UInt8) : Bool := match l with | 45 :: _ => true | _ => false
def partD (l : List UInt8) : List UInt8 := match l with | 46 :: t => t.takeWhile digB | _ => []
def numOf (s : List UInt8) : Nm :=
  ⟨hasSign (s.dropWhile blankB) && !((((afterSign (s.dropWhile blankB)).takeWhile digB).dropWhile (· == 48)) ++ tailZ (partD ((afterSign (s.dropWhile blankB)).dropWhile digB))).isEmpty,
   ((afterSign (s.dropWhile blankB)).takeWhile digB).dropWhile (· == 48),
   tailZ (partD ((afterSign (s.dropWhile blankB)).dropWhile digB))⟩
def cmpNum (a b : Nm) : Int :=
  if a.neg ≠ b.neg then (if a.neg then -1 else 1)
  else if a.neg then -firstNZ [Lib.compareInt a.whole.length b.whole.length, Lib.compareBytes a.whole b.whole, Lib.compareBytes a.part b.part]
  else firstNZ [Lib.compareInt a.whole.length b.whole.length, Lib.compareBytes a.whole b.whole, Lib.compareBytes a.part b.part]
def upB (c : UInt8) : UInt8 := if 97 ≤ c.toNat ∧ c.toNat ≤ 122 then c - 32 else c
def rawCmp (k : Ky) (x y : ByteArray) : Int :=
  if k.numeric then cmpNum (numOf x.data.toList) (numOf y.data.toList)
  else if k.fold then Lib.compareBytes (x.data.toList.map upB) (y.data.toList.map upB)
  else Lib.compareBytes x.data.toList y.data.toList
def keyCmp (sep a b : ByteArray) (k : Ky) : Int := if k.reverse then -rawCmp k (keyOf k a sep) (keyOf k b sep) else rawCmp k (keyOf k a sep) (keyOf k b sep)
def keysCmp (o : Sp) (a b : ByteArray) : Int := firstNZ (o.keys.map (keyCmp o.sep a b))
def wholeCmp (o : Sp) (a b : ByteArray) : Int := if o.reverse then -Lib.compareBytes a.data.toList b.data.toList else Lib.compareBytes a.data.toList b.data.toList
/-- how two lines stand to each other -/
def ordCmp (o : Sp) (a b : ByteArray) : Int :=
  if keysCmp o a b ≠ 0 ∨ (o.keys ≠ [] ∧ (o.stable = true ∨ o.unique = true)) then keysCmp o a b else wholeCmp o a b
def ordErr (o : Sp) : Int :=
  if 1 < o.sep.size ∨ o.sep = ⟨#[10]⟩ then 5 else if 8 < o.keys.length then 2 else firstNZ (o.keys.map keyErr)
end Go.Pw
