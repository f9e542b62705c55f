/- The digest (SHA-256) over words: plain. -/
import Derived.Test.YtinpgnekjebipaaDoorSmQ
import Derived.Test.YtinpgnekjebipaaDoorSmC
set_option linter.unusedVariables false
namespace Go.Pw
open Go.RowKit
abbrev W32 := BitVec 32
def rotr (x : W32) (k : Nat) : W32 := x >>> k ||| x <<< (32 - k)
def sg0 (x : W32) : W32 := rotr x 7 ^^^ rotr x 18 ^^^ x >>> 3
def sg1 (x : W32) : W32 := rotr x 17 ^^^ rotr x 19 ^^^ x >>> 10
def sS0 (a : W32) : W32 := rotr a 2 ^^^ rotr a 13 ^^^ rotr a 22
def sS1 (e : W32) : W32 := rotr e 6 ^^^ rotr e 11 ^^^ rotr e 25
def chS (e f g : W32) : W32 := (e &&& f) ^^^ (~~~e &&& g)
def mjS (a b c : W32) : W32 := (a &&& b) ^^^ (a &&& c) ^^^ (b &&& c)
/-- eight words -/
structure V8 where
  a : W32
  b : W32
  c : W32
  d : W32
  e : W32
  f : W32
  g : W32
  h : W32
def V8.one (v : V8) (k w : W32) : W32 := v.h + sS1 v.e + chS v.e v.f v.g + k + w
def V8.two (v : V8) : W32 := sS0 v.a + mjS v.a v.b v.c
def V8.next (v : V8) (k w : W32) : V8 := ⟨v.one k w + v.two, v.a, v.b, v.c, v.d + v.one k w, v.e, v.f, v.g⟩
def V8.add (v u : V8) : V8 := ⟨v.a + u.a, v.b + u.b, v.c + u.c, v.d + u.d, v.e + u.e, v.f + u.f, v.g + u.g, v.h + u.h⟩
/-- a word of four bytes -/
def wordAt (m : List UInt8) (i : Nat) : Nat → W32
  | 0 => 0#32
  | k + 1 => (wordAt m i k) <<< 8 ||| BitVec.ofNat 32 (m.getD (4 * i + k) 0).toNat
/-- the next word of a block -/
def nextW (m : List UInt8) (l : List W32) : W32 :=
  if l.length < 16 then wordAt m l.length 4
  else l.getD (l.length - 16) 0 + sg0 (l.getD (l.length - 15) 0) + l.getD (l.length - 7) 0 + sg1 (l.getD (l.length - 2) 0)
def words (m : List UInt8) : Nat → List W32
  | 0 => []
  | n + 1 => words m n ++ [nextW m (words m n)]
theorem words_len (m : List UInt8) : ∀ n, (words m n).length = n
  | 0 => rfl
  | n + 1 => by rw [words, List.length_append, words_len m n]; rfl
/-- so many rounds -/
def rounds8 (v : V8) (m : List UInt8) : Nat → V8
  | 0 => v
  | n + 1 => (rounds8 v m n).next (BitVec.ofNat 32 (shaK.getD n 0)) ((words m 64).getD n 0)
/-- a block is taken in -/
def block8 (v : V8) (m : List UInt8) : V8 := v.add (rounds8 v m 64)
def blocks8 (v : V8) : Nat → List UInt8 → V8
  | 0, _ => v
  | n + 1, m => blocks8 (block8 v m) n (m.drop 64)
def four8 (n : Nat) : List UInt8 := [UInt8.ofNat (n / 16777216), UInt8.ofNat (n / 65536), UInt8.ofNat (n / 256), UInt8.ofNat n]
/-- the text with what is put behind it -/
def padM (s : List UInt8) : List UInt8 := s ++ 128 :: List.replicate ((119 - s.length % 64) % 64) 0 ++ (four8 (s.length * 8 / 4294967296) ++ four8 (s.length * 8 % 4294967296))
theorem padM_len (s : List UInt8) : (padM s).length % 64 = 0 := by
  unfold padM four8
  simp only [List.length_append, List.length_cons, List.length_replicate, List.length_nil]
  omega
def start8 : V8 := ⟨0x6a09e667#32, 0xbb67ae85#32, 0x3c6ef372#32, 0xa54ff53a#32, 0x510e527f#32, 0x9b05688c#32, 0x1f83d9ab#32, 0x5be0cd19#32⟩
def dig8 (s : List UInt8) : V8 := blocks8 start8 ((padM s).length / 64) (padM s)
def V8.list (v : V8) : List W32 := [v.a, v.b, v.c, v.d, v.e, v.f, v.g, v.h]
def sha8 (s : List UInt8) : List UInt8 := (dig8 s).list.flatMap fun x => hexN 8 x.toNat
end Go.Pw
