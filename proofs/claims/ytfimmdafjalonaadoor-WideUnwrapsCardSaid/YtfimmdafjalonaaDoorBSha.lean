/- SHA-256 over plain numbers. -/
namespace Go.Sha

def M : Nat := 4294967296
/-- A word turned to the right. -/
def rr (x n : Nat) : Nat := x / 2 ^ n + x * 2 ^ (32 - n) % 4294967296
def s0 (x : Nat) : Nat := rr x 7 ^^^ rr x 18 ^^^ x / 8
def s1 (x : Nat) : Nat := rr x 17 ^^^ rr x 19 ^^^ x / 1024
def S1 (x : Nat) : Nat := rr x 6 ^^^ rr x 11 ^^^ rr x 25
def S0 (x : Nat) : Nat := rr x 2 ^^^ rr x 13 ^^^ rr x 22
def ch (e f g : Nat) : Nat := g ^^^ (e &&& (f ^^^ g))
def maj (a b c : Nat) : Nat := (a &&& b) ||| (c &&& (a ||| b))

def ks : List Nat := [
    0x428a2f98, 0x71374491, 0xb5c0fbcf, 0xe9b5dba5, 0x3956c25b, 0x59f111f1, 0x923f82a4, 0xab1c5ed5,
    0xd807aa98, 0x12835b01, 0x243185be, 0x550c7dc3, 0x72be5d74, 0x80deb1fe, 0x9bdc06a7, 0xc19bf174,
    0xe49b69c1, 0xefbe4786, 0x0fc19dc6, 0x240ca1cc, 0x2de92c6f, 0x4a7484aa, 0x5cb0a9dc, 0x76f988da,
    0x983e5152, 0xa831c66d, 0xb00327c8, 0xbf597fc7, 0xc6e00bf3, 0xd5a79147, 0x06ca6351, 0x14292967,
    0x27b70a85, 0x2e1b2138, 0x4d2c6dfc, 0x53380d13, 0x650a7354, 0x766a0abb, 0x81c2c92e, 0x92722c85,
    0xa2bfe8a1, 0xa81a664b, 0xc24b8b70, 0xc76c51a3, 0xd192e819, 0xd6990624, 0xf40e3585, 0x106aa070,
    0x19a4c116, 0x1e376c08, 0x2748774c, 0x34b0bcb5, 0x391c0cb3, 0x4ed8aa4a, 0x5b9cca4f, 0x682e6ff3,
    0x748f82ee, 0x78a5636f, 0x84c87814, 0x8cc70208, 0x90befffa, 0xa4506ceb, 0xbef9a3f7, 0xc67178f2]

/-- Eight words. -/
structure V where
  a : Nat
  b : Nat
  c : Nat
  d : Nat
  e : Nat
  f : Nat
  g : Nat
  h : Nat

def V.list (v : V) : List Nat := [v.a, v.b, v.c, v.d, v.e, v.f, v.g, v.h]
def V.ok (v : V) : Prop := v.a < 4294967296 ∧ v.b < 4294967296 ∧ v.c < 4294967296 ∧ v.d < 4294967296 ∧ v.e < 4294967296 ∧ v.f < 4294967296 ∧ v.g < 4294967296 ∧ v.h < 4294967296

def v0 : V := ⟨0x6a09e667, 0xbb67ae85, 0x3c6ef372, 0xa54ff53a, 0x510e527f, 0x9b05688c, 0x1f83d9ab, 0x5be0cd19⟩

def tt (v : V) (k w : Nat) : Nat := (v.h + S1 v.e + ch v.e v.f v.g + k + w) % 4294967296
def uu (v : V) : Nat := (S0 v.a + maj v.a v.b v.c) % 4294967296
/-- One round, with a constant and a word. -/
def round (v : V) (k w : Nat) : V := ⟨(tt v k w + uu v) % 4294967296, v.a, v.b, v.c, (v.d + tt v k w) % 4294967296, v.e, v.f, v.g⟩

/-- The next sixteen words. -/
def nextw (l : List Nat) : List Nat := l.drop 1 ++ [(l.getD 0 0 + s0 (l.getD 1 0) + l.getD 9 0 + s1 (l.getD 14 0)) % 4294967296]
def rstep (p : List Nat × V) (k : Nat) : List Nat × V := (nextw p.1, round p.2 k (p.1.getD 0 0))
/-- Rounds, over the next sixteen words. -/
def rounds (l ws : List Nat) (v : V) : V := (l.foldl rstep (ws, v)).2

def add (x y : Nat) : Nat := (x + y) % 4294967296
def V.plus (v w : V) : V := ⟨add v.a w.a, add v.b w.b, add v.c w.c, add v.d w.d, add v.e w.e, add v.f w.f, add v.g w.g, add v.h w.h⟩

def be (l : List UInt8) : Nat := l.foldl (fun n b => n * 256 + b.toNat) 0
/-- Bytes as words of four. -/
def words : Nat → List UInt8 → List Nat
  | 0, _ => []
  | n + 1, l => be (l.take 4) :: words n (l.drop 4)

/-- A block goes in. -/
def press (v : V) (block : List UInt8) : V := v.plus (rounds ks (words 16 block) v)

/-- Blocks go in. -/
def pressAll : Nat → V → List UInt8 → V
  | 0, v, _ => v
  | n + 1, v, l => pressAll n (press v (l.take 64)) (l.drop 64)

def tail8 (n : Nat) : List UInt8 := (List.range 8).map fun i => UInt8.ofNat (n / 2 ^ (56 - 8 * i))
def pad (n : Nat) : List UInt8 := 128 :: (List.replicate ((119 - n % 64) % 64) 0 ++ tail8 (n * 8))
def out (v : V) : List UInt8 := v.list.flatMap fun x => [UInt8.ofNat (x / 16777216), UInt8.ofNat (x / 65536), UInt8.ofNat (x / 256), UInt8.ofNat x]
/-- The digest of a text. -/
def sha (s : List UInt8) : List UInt8 := out (pressAll ((s.length + 72) / 64) v0 (s ++ pad s.length))
end Go.Sha
