/- What functions of the given program do, one after the other, told by that layer. -/
import Derived.Test.YtkjaehdfmmcgmaaGreatDoorBCha
/- A log on a disk: plain lists, no program. -/
namespace Go.Mx
open Go.Sha
def zer (n : Nat) : List UInt8 := List.replicate n 0
theorem zer_len (n : Nat) : (zer n).length = n := List.length_replicate ..
theorem zer_add (a b : Nat) : zer (a + b) = zer a ++ zer b := by unfold zer; rw [List.replicate_append_replicate]
theorem zer_take {k n : Nat} (h : k ≤ n) : (zer n).take k = zer k := by unfold zer; rw [List.take_replicate, Nat.min_eq_left h]
theorem zer_drop (k n : Nat) : (zer n).drop k = zer (n - k) := by unfold zer; rw [List.drop_replicate]
/-- Bytes are written over others. -/
def wrU (l : List UInt8) (o : Nat) (b : List UInt8) : List UInt8 := l.take o ++ (b ++ l.drop (o + b.length))
theorem wrU_len {l b : List UInt8} {o : Nat} (h : o + b.length ≤ l.length) : (wrU l o b).length = l.length := by
  unfold wrU
  rw [List.length_append, List.length_append, List.length_take, List.length_drop]
  omega
theorem wrU_nil (l : List UInt8) (o : Nat) : wrU l o [] = l := by
  unfold wrU
  simp
/-- Written piece by piece. -/
theorem wrU_app {l a b : List UInt8} {o : Nat} (h : o + a.length + b.length ≤ l.length) : wrU (wrU l o a) (o + a.length) b = wrU l o (a ++ b) := by
  have h1 : (l.take o).length = o := by rw [List.length_take]; omega
  have e1 : (wrU l o a).take (o + a.length) = l.take o ++ a := by
    unfold wrU
    rw [← List.append_assoc, List.take_left' (by rw [List.length_append, h1])]
  have e2 : (wrU l o a).drop (o + a.length + b.length) = l.drop (o + a.length + b.length) := by
    unfold wrU
    rw [← List.append_assoc, List.drop_append, List.drop_of_length_le (by rw [List.length_append, h1]; omega), List.nil_append, List.length_append, h1, List.drop_drop]
    congr 1
    omega
  rw [show wrU (wrU l o a) (o + a.length) b = (wrU l o a).take (o + a.length) ++ (b ++ (wrU l o a).drop (o + a.length + b.length)) from rfl, e1, e2]
  unfold wrU
  rw [List.length_append, Nat.add_assoc]
  simp
/-- A sector. -/
def secU (l : List UInt8) (at_ : Nat) : List UInt8 := (l.drop (64 * at_)).take 64
theorem secU_len {l : List UInt8} {a : Nat} (h : 64 * a + 64 ≤ l.length) : (secU l a).length = 64 := by
  unfold secU
  rw [List.length_take, List.length_drop]
  omega
def be4B (n : Nat) : List UInt8 := [UInt8.ofNat (n / 16777216), UInt8.ofNat (n / 65536), UInt8.ofNat (n / 256), UInt8.ofNat n]
/-- A half's head: its eight bytes, its mark, its sector. -/
def headN (n : Nat) : List UInt8 := [76, 79, 71, 0] ++ be4B n
def markN (n : Nat) : List UInt8 := (sha (headN n)).take 16
def headB (n : Nat) : List UInt8 := headN n ++ (markN n ++ zer 40)
/-- A record of a text behind a mark. -/
def longB (n : Nat) : List UInt8 := [UInt8.ofNat (n / 256), UInt8.ofNat n]
def padN (n : Nat) : Nat := (64 - n % 64) % 64
def ownM (m t : List UInt8) : List UInt8 := (sha (m ++ (longB t.length ++ t))).take 16
def recB (m t : List UInt8) : List UInt8 := longB t.length ++ (ownM m t ++ (t ++ zer (padN (18 + t.length))))
/-- How many sectors a text's record has; all texts' records. -/
def secN (t : List UInt8) : Nat := (18 + t.length + 63) / 64
def usedN : List (List UInt8) → Nat
  | [] => 0
  | t :: ts => secN t + usedN ts
def recs : List UInt8 → List (List UInt8) → List UInt8
  | _, [] => []
  | m, t :: ts => recB m t ++ recs (ownM m t) ts
def mks : List UInt8 → List (List UInt8) → List UInt8
  | m, [] => m
  | m, t :: ts => mks (ownM m t) ts
def diskM (total : Nat) (ts : List (List UInt8)) : List UInt8 := headB 1 ++ (recs (markN 1) ts ++ zer (64 * (total - 1 - usedN ts)))
theorem take16 (l : List UInt8) : ((sha l).take 16).length = 16 := by rw [List.length_take, sha_len]; rfl
theorem recB_len (m t : List UInt8) : (recB m t).length = 64 * secN t := by
  unfold recB ownM padN secN
  rw [List.length_append, List.length_append, List.length_append, take16, zer_len]
  show 2 + _ = _
  omega
theorem headB_len (n : Nat) : (headB n).length = 64 := by
  unfold headB markN
  rw [List.length_append, List.length_append, take16, zer_len]
  rfl
theorem recs_len : ∀ (m : List UInt8) (ts : List (List UInt8)), (recs m ts).length = 64 * usedN ts
  | _, [] => rfl
  | m, t :: ts => by rw [recs, List.length_append, recs_len, recB_len, usedN]; omega
theorem recs_snoc : ∀ (m : List UInt8) (ts : List (List UInt8)) (t : List UInt8), recs m (ts ++ [t]) = recs m ts ++ recB (mks m ts) t
  | _, [], _ => by simp [recs, mks]
  | m, x :: ts, t => by rw [List.cons_append, recs, recs, mks, recs_snoc, List.append_assoc]
theorem mks_snoc : ∀ (m : List UInt8) (ts : List (List UInt8)) (t : List UInt8), mks m (ts ++ [t]) = ownM (mks m ts) t
  | _, [], _ => rfl
  | m, x :: ts, t => by rw [List.cons_append, mks, mks, mks_snoc]
theorem used_snoc : ∀ (ts : List (List UInt8)) (t : List UInt8), usedN (ts ++ [t]) = usedN ts + secN t
  | [], t => by simp [usedN]
  | x :: ts, t => by rw [List.cons_append, usedN, usedN, used_snoc]; omega
theorem mks_len : ∀ {m : List UInt8} (ts : List (List UInt8)), m.length = 16 → (mks m ts).length = 16
  | _, [], h => h
  | _, _ :: ts, _ => mks_len ts (take16 _)
theorem secN_pos (t : List UInt8) : 1 ≤ secN t := by unfold secN; omega
/-- A record is put behind the others. -/
theorem diskM_push {total : Nat} {ts : List (List UInt8)} {t : List UInt8} (h : usedN ts + 1 + secN t ≤ total) : wrU (diskM total ts) (64 * (1 + usedN ts)) (recB (mks (markN 1) ts) t) = diskM total (ts ++ [t]) := by
  have hl : (headB 1 ++ recs (markN 1) ts).length = 64 * (1 + usedN ts) := by rw [List.length_append, headB_len, recs_len]; omega
  have e : diskM total ts = (headB 1 ++ recs (markN 1) ts) ++ zer (64 * (total - 1 - usedN ts)) := by unfold diskM; rw [List.append_assoc]
  unfold wrU
  rw [e, List.take_left' hl, recB_len, List.drop_append, List.drop_of_length_le (by rw [hl]; omega), hl, zer_drop]
  unfold diskM
  rw [recs_snoc, used_snoc, show 64 * (total - 1 - usedN ts) - (64 * (1 + usedN ts) + 64 * secN t - 64 * (1 + usedN ts)) = 64 * (total - 1 - (usedN ts + secN t)) by omega]
  simp only [List.append_assoc, List.nil_append]
/-- What is read of a half from its first record on. -/
def restM (m : List UInt8) (ts : List (List UInt8)) (k : Nat) : List UInt8 := recs m ts ++ zer (64 * k)
theorem restM_cons (m t : List UInt8) (ts : List (List UInt8)) (k : Nat) : restM m (t :: ts) k = recB m t ++ restM (ownM m t) ts k := by
  unfold restM
  rw [recs, List.append_assoc]
theorem restM_nil (m : List UInt8) (k : Nat) : restM m [] k = zer (64 * k) := by unfold restM; rfl
theorem disk_rest {size total : Nat} {ts : List (List UInt8)} (h : usedN ts + 1 ≤ size) (h2 : size ≤ total) : ((diskM total ts).drop 64).take (64 * (size - 1)) = restM (markN 1) ts (size - 1 - usedN ts) := by
  unfold diskM restM
  rw [List.drop_append, List.drop_of_length_le (by rw [headB_len]; omega), headB_len, Nat.sub_self, List.drop_zero, List.nil_append, List.take_append, recs_len, List.take_of_length_le (by rw [recs_len]; omega), zer_take (by omega)]
  congr 2
  omega
theorem disk_head (total : Nat) (ts : List (List UInt8)) : secU (diskM total ts) 0 = headB 1 := by
  unfold secU diskM
  rw [Nat.mul_zero, List.drop_zero, List.take_left' (headB_len 1)]
/-- Sectors that no record has are empty. -/
theorem disk_free {total at_ : Nat} {ts : List (List UInt8)} (h : usedN ts + 1 ≤ at_) (h2 : at_ < total) : secU (diskM total ts) at_ = zer 64 := by
  have hl : (headB 1 ++ recs (markN 1) ts).length = 64 * (1 + usedN ts) := by rw [List.length_append, headB_len, recs_len]; omega
  unfold secU diskM
  rw [← List.append_assoc, List.drop_append, List.drop_of_length_le (by rw [hl]; omega), List.nil_append, hl, zer_drop, zer_take (by omega)]
end Go.Mx

/- A log that is read again: each record is found behind the ones ahead. -/
namespace Go.Mx
open Go.Sha
theorem restM_front {m t : List UInt8} {ts : List (List UInt8)} {k : Nat} :
    (restM m (t :: ts) k)[0]? = some (UInt8.ofNat (t.length / 256)) ∧ (restM m (t :: ts) k)[1]? = some (UInt8.ofNat t.length) ∧ ((restM m (t :: ts) k).drop 18).take t.length = t ∧ 18 + t.length ≤ (restM m (t :: ts) k).length := by
  have e : restM m (t :: ts) k = [UInt8.ofNat (t.length / 256), UInt8.ofNat t.length] ++ (ownM m t ++ (t ++ (zer (padN (18 + t.length)) ++ restM (ownM m t) ts k))) := by
    rw [restM_cons]
    unfold recB longB
    simp only [List.append_assoc]
  have ho : (ownM m t).length = 16 := take16 _
  refine ⟨by rw [e]; rfl, by rw [e]; rfl, ?_, ?_⟩
  · rw [e, ← List.append_assoc, List.drop_left' (by rw [List.length_append, ho]; rfl), List.take_left' rfl]
  · rw [e, List.length_append, List.length_append, List.length_append, ho]
    show 18 + t.length ≤ 2 + _
    omega
theorem restM_drop {m t : List UInt8} {ts : List (List UInt8)} {k : Nat} : (restM m (t :: ts) k).drop (recB m t).length = restM (ownM m t) ts k := by
  rw [restM_cons, List.drop_left' rfl]
theorem restM_pre {m t : List UInt8} {ts : List (List UInt8)} {k : Nat} : (restM m (t :: ts) k).take (recB m t).length = recB m t := by
  rw [restM_cons, List.take_left' rfl]
theorem restM_len (m : List UInt8) (ts : List (List UInt8)) (k : Nat) : (restM m ts k).length = 64 * (usedN ts + k) := by
  unfold restM
  rw [List.length_append, recs_len, zer_len]
  omega
/-- The tags' records. -/
def putB (tag : List UInt8) : List UInt8 := 84 :: tag
theorem putB_sec {tag : List UInt8} (h : tag.length = 16) : secN (putB tag) = 1 := by
  unfold secN putB
  rw [List.length_cons, h]
theorem used_put : ∀ {tags : List (List UInt8)}, (∀ t ∈ tags, t.length = 16) → usedN (tags.map putB) = tags.length
  | [], _ => rfl
  | t :: ts, h => by
    rw [List.map_cons, usedN, putB_sec (h t (.head _)), used_put fun x hx => h x (.tail _ hx), List.length_cons]
    omega
end Go.Mx
