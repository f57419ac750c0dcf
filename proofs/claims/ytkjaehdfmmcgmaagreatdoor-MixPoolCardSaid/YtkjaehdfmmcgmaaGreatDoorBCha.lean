/- HMAC, HKDF, ChaCha20 and wide blocks over plain numbers. -/
import Derived.Test.YtkjaehdfmmcgmaaGreatDoorBM1x169c
namespace Go.Sha

def xors (a b : List UInt8) : List UInt8 := List.zipWith (· ^^^ ·) a b

def keyPad (key : List UInt8) (by' : UInt8) : List UInt8 :=
  let k := if 64 < key.length then sha key else key
  (k ++ List.replicate (64 - k.length) 0).map (· ^^^ by')
def hmac (key t : List UInt8) : List UInt8 := sha (keyPad key 0x5c ++ sha (keyPad key 0x36 ++ t))

/-- The pieces of an expanded key, from piece i on, behind the last one. -/
def pieces (key info : List UInt8) : Nat → Nat → List UInt8 → List UInt8
  | 0, _, _ => []
  | n + 1, i, last => let t := hmac key (last ++ info ++ [UInt8.ofNat i]); t ++ pieces key info n (i + 1) t
def expand (key info : List UInt8) (n : Nat) : List UInt8 := (pieces key info ((n + 31) / 32) 1 []).take n
def salt : List UInt8 := [100, 111, 118, 101, 99, 111, 116, 101]
def derive (secret label : List UInt8) (n : Nat) : List UInt8 := expand (hmac salt secret) label n

/-- A word turned to the left. -/
def rl (x n : Nat) : Nat := x * 2 ^ n % 4294967296 + x / 2 ^ (32 - n)
def quarter (a b c d : Nat) : Nat × Nat × Nat × Nat :=
  let a1 := add a b
  let d1 := rl (d ^^^ a1) 16
  let c1 := add c d1
  let b1 := rl (b ^^^ c1) 12
  let a2 := add a1 b1
  let d2 := rl (d1 ^^^ a2) 8
  let c2 := add c1 d2
  let b2 := rl (b1 ^^^ c2) 7
  (a2, b2, c2, d2)
def turn (s : List Nat) (i j k l : Nat) : List Nat :=
  let q := quarter (s.getD i 0) (s.getD j 0) (s.getD k 0) (s.getD l 0)
  (((s.set i q.1).set j q.2.1).set k q.2.2.1).set l q.2.2.2
def column (s : List Nat) (i : Nat) : List Nat := turn s i (4 + i) (8 + i) (12 + i)
def diagonal (s : List Nat) (i : Nat) : List Nat := turn s i (4 + (i + 1) % 4) (8 + (i + 2) % 4) (12 + (i + 3) % 4)
def twice (s : List Nat) : List Nat := (List.range 4).foldl diagonal ((List.range 4).foldl column s)
def turned : Nat → List Nat → List Nat
  | 0, s => s
  | n + 1, s => turned n (twice s)

def le : List UInt8 → Nat
  | a :: b :: c :: d :: _ => a.toNat + b.toNat * 256 + c.toNat * 65536 + d.toNat * 16777216
  | _ => 0
def lewords : Nat → List UInt8 → List Nat
  | 0, _ => []
  | n + 1, l => le l :: lewords n (l.drop 4)
def start (key nonce : List UInt8) (counter : Nat) : List Nat :=
  [0x61707865, 0x3320646e, 0x79622d32, 0x6b206574] ++ (lewords 8 key ++ (counter :: lewords 3 nonce))
def lebytes (x : Nat) : List UInt8 := [UInt8.ofNat x, UInt8.ofNat (x / 256), UInt8.ofNat (x / 65536), UInt8.ofNat (x / 16777216)]
def sblock (s : List Nat) : List UInt8 := (List.zipWith add s (turned 10 s)).flatMap lebytes
def cblock (key nonce : List UInt8) (counter : Nat) : List UInt8 := sblock (start key nonce counter)
/-- So many blocks of the stream, from a counter on. -/
def blocks (key nonce : List UInt8) : Nat → Nat → List UInt8
  | 0, _ => []
  | n + 1, c => cblock key nonce (c % 4294967296) ++ blocks key nonce n (c + 1)
def stream (key nonce : List UInt8) (counter n : Nat) : List UInt8 := (blocks key nonce ((n + 63) / 64) counter).take n

def zeros12 : List UInt8 := List.replicate 12 0
def wlabel : List UInt8 := [119, 105, 100, 101]
def wkey (key : List UInt8) (i : Nat) : List UInt8 := ((derive key wlabel 128).drop (32 * i)).take 32
def wflow (key : List UInt8) (i : Nat) (x : List UInt8 × List UInt8) : List UInt8 × List UInt8 :=
  (x.1, xors x.2 (stream (xors (wkey key i) x.1) zeros12 0 x.2.length))
def wpress (key : List UInt8) (i : Nat) (x : List UInt8 × List UInt8) : List UInt8 × List UInt8 :=
  (xors x.1 (hmac (wkey key i) x.2), x.2)
def halves (b : List UInt8) : List UInt8 × List UInt8 := (b.take 32, b.drop 32)
def whole (x : List UInt8 × List UInt8) : List UInt8 := x.1 ++ x.2
def wshut (key b : List UInt8) : List UInt8 := whole (wpress key 3 (wflow key 2 (wpress key 1 (wflow key 0 (halves b)))))
def wopen (key b : List UInt8) : List UInt8 := whole (wflow key 0 (wpress key 1 (wflow key 2 (wpress key 3 (halves b)))))
def wplain (text : List UInt8) (n : Nat) : List UInt8 :=
  List.replicate 32 0 ++ (UInt8.ofNat (text.length / 256) :: UInt8.ofNat text.length :: (text ++ List.replicate (n - 34 - text.length) 0))
/-- The text of an opened block. -/
def wtext (b : List UInt8) : Option (List UInt8) :=
  let n := (b.getD 32 0).toNat * 256 + (b.getD 33 0).toNat
  if (b.take 32).all (· == 0) ∧ n ≤ b.length - 34 ∧ (b.drop (34 + n)).all (· == 0) then some ((b.drop 34).take n) else none

/-! Laws. -/
theorem xors_len {a b : List UInt8} (h : a.length ≤ b.length) : (xors a b).length = a.length := by simp [xors]; omega
theorem xors_twice : ∀ {a b : List UInt8}, a.length ≤ b.length → xors (xors a b) b = a
  | [], _, _ => by simp [xors]
  | x :: a, [], h => by simp at h
  | x :: a, y :: b, h => by
    have ih := xors_twice (a := a) (b := b) (by simpa using h)
    simp only [xors, List.zipWith_cons_cons] at ih ⊢
    rw [ih, UInt8.xor_assoc, UInt8.xor_self, UInt8.xor_zero]

theorem out_len (v : V) : (out v).length = 32 := by simp [out, V.list]
theorem sha_len (s : List UInt8) : (sha s).length = 32 := out_len _
theorem hmac_len (k t : List UInt8) : (hmac k t).length = 32 := sha_len _
theorem pieces_len (key info : List UInt8) : ∀ (n i : Nat) (last : List UInt8), (pieces key info n i last).length = 32 * n
  | 0, _, _ => rfl
  | n + 1, i, last => by
    simp only [pieces, List.length_append, hmac_len, pieces_len key info n]
    omega
theorem expand_len (key info : List UInt8) (n : Nat) : (expand key info n).length = n := by
  unfold expand
  rw [List.length_take, pieces_len]
  omega
theorem wkey_len (key : List UInt8) {i : Nat} (h : i < 4) : (wkey key i).length = 32 := by
  unfold wkey derive
  rw [List.length_take, List.length_drop, expand_len]
  omega
theorem lewords_len : ∀ (n : Nat) (l : List UInt8), (lewords n l).length = n
  | 0, _ => rfl
  | n + 1, l => by simp [lewords, lewords_len n]
theorem start_len (k n : List UInt8) (c : Nat) : (start k n c).length = 16 := by simp [start, lewords_len]
theorem turn_len (s : List Nat) (i j k l : Nat) : (turn s i j k l).length = s.length := by simp [turn]
theorem foldl_len {f : List Nat → Nat → List Nat} (h : ∀ s i, (f s i).length = s.length) : ∀ (l : List Nat) (s : List Nat), (l.foldl f s).length = s.length
  | [], _ => rfl
  | i :: l, s => by rw [List.foldl_cons, foldl_len h l, h]
theorem twice_len (s : List Nat) : (twice s).length = s.length := by
  unfold twice
  rw [foldl_len (f := diagonal) (fun s i => turn_len s _ _ _ _), foldl_len (f := column) (fun s i => turn_len s _ _ _ _)]
theorem turned_len : ∀ (n : Nat) (s : List Nat), (turned n s).length = s.length
  | 0, _ => rfl
  | n + 1, s => by rw [turned, turned_len n, twice_len]
theorem le4_len (l : List Nat) : (l.flatMap lebytes).length = 4 * l.length := by
  induction l with
  | nil => rfl
  | cons x l ih => rw [List.flatMap_cons, List.length_append, ih]; simp only [lebytes, List.length_cons, List.length_nil]; omega
theorem sblock_len {s : List Nat} (h : s.length = 16) : (sblock s).length = 64 := by
  unfold sblock
  rw [le4_len, List.length_zipWith, turned_len, h]
  rfl
theorem cblock_len (k n : List UInt8) (c : Nat) : (cblock k n c).length = 64 := sblock_len (start_len _ _ _)
theorem blocks_len (k n : List UInt8) : ∀ (m c : Nat), (blocks k n m c).length = 64 * m
  | 0, _ => rfl
  | m + 1, c => by rw [blocks, List.length_append, cblock_len, blocks_len k n m]; omega
theorem stream_len (k n : List UInt8) (c m : Nat) : (stream k n c m).length = m := by
  unfold stream
  rw [List.length_take, blocks_len]
  omega

/-- Halves of 32 bytes and so many. -/
def Halved (m : Nat) (x : List UInt8 × List UInt8) : Prop := x.1.length = 32 ∧ x.2.length = m
theorem wflow_halved {m : Nat} {key : List UInt8} {i : Nat} {x : List UInt8 × List UInt8} (h : Halved m x) : Halved m (wflow key i x) :=
  ⟨h.1, by unfold wflow; rw [xors_len (by rw [stream_len]; omega)]; exact h.2⟩
theorem wpress_halved {m : Nat} {key : List UInt8} {i : Nat} {x : List UInt8 × List UInt8} (h : Halved m x) : Halved m (wpress key i x) :=
  ⟨by unfold wpress; rw [xors_len (by rw [hmac_len, h.1]; omega)]; exact h.1, h.2⟩
theorem wflow_twice {m : Nat} {key : List UInt8} {i : Nat} {x : List UInt8 × List UInt8} (_h : Halved m x) : wflow key i (wflow key i x) = x := by
  unfold wflow
  simp only
  rw [xors_len (by rw [stream_len]; omega), xors_twice (by rw [stream_len]; omega)]
theorem wpress_twice {m : Nat} {key : List UInt8} {i : Nat} {x : List UInt8 × List UInt8} (h : Halved m x) : wpress key i (wpress key i x) = x := by
  unfold wpress
  simp only
  rw [xors_twice (by rw [hmac_len, h.1]; omega)]
theorem halves_halved {b : List UInt8} (h : 32 ≤ b.length) : Halved (b.length - 32) (halves b) := by
  exact ⟨by show (b.take 32).length = 32; rw [List.length_take]; omega, List.length_drop⟩
theorem whole_halves (b : List UInt8) : whole (halves b) = b := List.take_append_drop 32 b
theorem halves_whole {m : Nat} {x : List UInt8 × List UInt8} (h : Halved m x) : halves (whole x) = x := by
  unfold halves whole
  rw [List.take_left' h.1, List.drop_left' h.1]
theorem whole_len {m : Nat} {x : List UInt8 × List UInt8} (h : Halved m x) : (whole x).length = 32 + m := by
  unfold whole; rw [List.length_append, h.1, h.2]
theorem wshut_len (key : List UInt8) {b : List UInt8} (h : 32 ≤ b.length) : (wshut key b).length = b.length := by
  unfold wshut
  rw [whole_len (wpress_halved (wflow_halved (wpress_halved (wflow_halved (halves_halved h)))))]; omega
theorem wopen_len (key : List UInt8) {b : List UInt8} (h : 32 ≤ b.length) : (wopen key b).length = b.length := by
  unfold wopen
  rw [whole_len (wflow_halved (wpress_halved (wflow_halved (wpress_halved (halves_halved h)))))]; omega
theorem wopen_shut (key : List UInt8) {b : List UInt8} (h : 32 ≤ b.length) : wopen key (wshut key b) = b := by
  have h0 := halves_halved h
  have h1 := wflow_halved (key := key) (i := 0) h0
  have h2 := wpress_halved (key := key) (i := 1) h1
  have h3 := wflow_halved (key := key) (i := 2) h2
  have h4 := wpress_halved (key := key) (i := 3) h3
  unfold wopen wshut
  rw [halves_whole h4, wpress_twice h3, wflow_twice h2, wpress_twice h1, wflow_twice h0, whole_halves]
theorem wplain_len {text : List UInt8} {n : Nat} (h : text.length + 34 ≤ n) : (wplain text n).length = n := by
  unfold wplain
  simp only [List.length_append, List.length_cons, List.length_replicate]
  omega
end Go.Sha
