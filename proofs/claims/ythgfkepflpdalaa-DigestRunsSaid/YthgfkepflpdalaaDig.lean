/- A running digest in memory, and what it stands for: plain lists. -/
import Derived.Test.YthgfkepflpdalaaRound
import Derived.Laws.CopyOwn
namespace Go.Proofs.Ythgfkepflpdalaa
open Go.RowKit

def IV : St := ⟨1779033703#32, 3144134277#32, 1013904242#32, 2773480762#32, 1359893119#32, 2600822924#32, 528734635#32, 1541459225#32⟩
theorem iv_st : arr 8 iv = stv IV := rfl

/-- What m blocks of some bytes make of the state at first. -/
def runB (xs : List UInt8) : Nat → St
  | 0 => IV
  | m + 1 => (runB xs m).next ((xs.drop (64 * m)).take 64)
theorem runB_more (xs ys : List UInt8) : ∀ m, 64 * m ≤ xs.length → runB (xs ++ ys) m = runB xs m
  | 0, _ => rfl
  | m + 1, h => by
    rw [runB, runB, runB_more xs ys m (by omega)]
    congr 1
    rw [List.drop_append_of_le_length (by omega), List.take_append_of_le_length (by rw [List.length_drop]; omega)]

/-- The cells of a digest that New made. -/
def digL (s : St) (wt : List UInt8) (n : Nat) : List Value := [.bool true, wv s.a, wv s.b, wv s.c, wv s.d, wv s.e, wv s.f, wv s.g, wv s.h] ++ (bcs wt ++ [.int .i64 (n : Int)])
theorem digL_length (s : St) {wt : List UInt8} (h : wt.length = 64) (n : Nat) : (digL s wt n).length = 74 := by simp [digL, bcs, h]
theorem digL_n (s : St) {wt : List UInt8} (h : wt.length = 64) (n : Nat) : (digL s wt n)[73]? = some (.int .i64 (n : Int)) := by
  unfold digL
  rw [List.getElem?_append_right (by simp), List.getElem?_append_right (by simp [bcs, h])]
  simp [bcs, h]
theorem digL_w (s : St) {wt : List UInt8} (h : wt.length = 64) (n : Nat) {i : Nat} (hi : i < 64) : (digL s wt n)[9 + i]? = some (bv (wt.getD i 0)) := by
  unfold digL
  rw [List.getElem?_append_right (by simp), List.getElem?_append_left (by simp [bcs, h]; omega)]
  simp [bcs, h, hi]
theorem digL_setn (s : St) {wt : List UInt8} (h : wt.length = 64) (n m : Nat) : (digL s wt n).set 73 (.int .i64 (m : Int)) = digL s wt m := by
  unfold digL
  rw [List.set_append_right _ _ (by simp), List.set_append_right _ _ (by simp [bcs, h])]
  simp [bcs, h]
theorem digL_splice (s : St) {wt ys : List UInt8} (h : wt.length = 64) (n : Nat) {p : Nat} (hp : p + ys.length ≤ 64) : splice (digL s wt n) (9 + p) (bcs ys) = digL s (splice wt p ys) n := by
  have e1 : (digL s wt n).take (9 + p) = [.bool true, wv s.a, wv s.b, wv s.c, wv s.d, wv s.e, wv s.f, wv s.g, wv s.h] ++ bcs (wt.take p) := by
    unfold digL
    rw [List.take_append]
    simp only [List.length_cons, List.length_nil]
    rw [List.take_of_length_le (by simp), show 9 + p - (0 + 1 + 1 + 1 + 1 + 1 + 1 + 1 + 1 + 1) = p by omega, List.take_append_of_le_length (by simp [bcs, h]; omega)]
    simp [bcs]
  have e2 : (digL s wt n).drop (9 + p + ys.length) = bcs (wt.drop (p + ys.length)) ++ [.int .i64 (n : Int)] := by
    unfold digL
    rw [List.drop_append]
    simp only [List.length_cons, List.length_nil]
    rw [List.drop_of_length_le (by simp; omega), show 9 + p + ys.length - (0 + 1 + 1 + 1 + 1 + 1 + 1 + 1 + 1 + 1) = p + ys.length by omega, List.nil_append, List.drop_append_of_le_length (by simp [bcs, h]; omega)]
    simp [bcs]
  unfold splice
  rw [bcs_length, e1, e2]
  simp [digL, bcs]

/-- Block g is a digest of the bytes xs. -/
def Dig (w : World) (g : Nat) (xs : List UInt8) : Prop :=
  ∃ wt : List UInt8, wt.length = 64 ∧ wt.take (xs.length % 64) = xs.drop (64 * (xs.length / 64)) ∧ Blk w g 54 (digL (runB xs (xs.length / 64)) wt xs.length).toArray

theorem Dig.chg {S : Nat → Prop} {w w' : World} {g : Nat} {xs : List UInt8} (h : Dig w g xs) (hc : Chg S w w') (hg : ¬ S g) : Dig w' g xs := by
  obtain ⟨wt, h1, h2, hb⟩ := h
  exact ⟨wt, h1, h2, hb.chg hc hg⟩

/-- A piece is laid behind, and the block is not full. -/
theorem dig_part {xs ys wt : List UInt8} {p : Nat} (hp : p = xs.length % 64) (hw : wt.length = 64) (ht : wt.take p = xs.drop (64 * (xs.length / 64))) (hl : p + ys.length < 64) :
    (xs ++ ys).length / 64 = xs.length / 64 ∧ (splice wt p ys).length = 64 ∧ (splice wt p ys).take ((xs ++ ys).length % 64) = (xs ++ ys).drop (64 * ((xs ++ ys).length / 64)) ∧ runB (xs ++ ys) ((xs ++ ys).length / 64) = runB xs (xs.length / 64) := by
  have hn : (xs ++ ys).length = xs.length + ys.length := List.length_append
  have hd : (xs ++ ys).length / 64 = xs.length / 64 := by omega
  have hm : (xs ++ ys).length % 64 = p + ys.length := by omega
  refine ⟨hd, by rw [length_splice _ _ _ (by omega), hw], ?_, ?_⟩
  · rw [hd, hm, List.drop_append_of_le_length (by omega), ← ht]
    unfold splice
    rw [← List.append_assoc, List.take_append_of_le_length (by simp; omega), List.take_of_length_le (by simp; omega)]
  · rw [hd, runB_more _ _ _ (by omega)]
/-- A piece is laid behind, and the block is full. -/
theorem dig_full {xs ys wt : List UInt8} {p : Nat} (hp : p = xs.length % 64) (hw : wt.length = 64) (ht : wt.take p = xs.drop (64 * (xs.length / 64))) (hl : p + ys.length = 64) :
    (splice wt p ys).length = 64 ∧ (splice wt p ys).take ((xs ++ ys).length % 64) = (xs ++ ys).drop (64 * ((xs ++ ys).length / 64)) ∧ runB (xs ++ ys) ((xs ++ ys).length / 64) = (runB xs (xs.length / 64)).next (splice wt p ys) := by
  have hn : (xs ++ ys).length = xs.length + ys.length := List.length_append
  have hd : (xs ++ ys).length / 64 = xs.length / 64 + 1 := by omega
  have hm : (xs ++ ys).length % 64 = 0 := by omega
  have hs : splice wt p ys = xs.drop (64 * (xs.length / 64)) ++ ys := by
    unfold splice
    rw [ht, List.drop_of_length_le (by omega : wt.length ≤ p + ys.length), List.append_nil]
  refine ⟨by rw [length_splice _ _ _ (by omega), hw], ?_, ?_⟩
  · rw [hm, List.take_zero, List.drop_of_length_le (by omega)]
  · rw [hd, runB, runB_more _ _ _ (by omega), hs, List.drop_append_of_le_length (by omega), List.take_of_length_le]
    simp; omega
end Go.Proofs.Ythgfkepflpdalaa
