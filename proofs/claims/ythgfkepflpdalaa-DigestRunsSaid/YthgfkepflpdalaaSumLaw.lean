/- The digest of bytes, as a list: plain. -/
import Derived.Test.YthgfkepflpdalaaNew
namespace Go.Proofs.Ythgfkepflpdalaa
open Go.RowKit

def b8 (n : Nat) : UInt8 := UInt8.ofNat n
theorem b8_nat (n : Nat) : (b8 n).toNat = n % 256 := by simp [b8]
theorem bv_b8 (n : Nat) : bv (b8 n) = .int .u8 (((n % 256 : Nat)) : Int) := by unfold bv; rw [b8_nat]
/-- One byte of how many bits n bytes have. -/
def lenb (n i : Nat) : UInt8 := b8 (8 * n / 2 ^ i)
/-- What is laid behind n bytes: j of the eight last. -/
def padJ (n j : Nat) : List UInt8 := 128 :: (List.replicate ((119 - n % 64) % 64) 0 ++ (List.range j).map fun k => lenb n (56 - 8 * k))
def padL (n : Nat) : List UInt8 := padJ n 8
theorem padJ_length (n j : Nat) : (padJ n j).length = 1 + (119 - n % 64) % 64 + j := by simp [padJ]; omega
theorem padJ_succ (n j : Nat) : padJ n (j + 1) = padJ n j ++ [lenb n (56 - 8 * j)] := by
  unfold padJ
  rw [List.range_succ, List.map_append]
  simp
/-- A word as four bytes. -/
def be4 (x : W32) : List UInt8 := [b8 (x.toNat / 16777216), b8 (x.toNat / 65536), b8 (x.toNat / 256), b8 x.toNat]
def stB (s : St) : List UInt8 := s.list.flatMap be4
theorem stB_length (s : St) : (stB s).length = 32 := by simp [stB, St.list, be4]
/-- The digest of bytes. -/
def sumB (xs : List UInt8) : List UInt8 := stB (runB (xs ++ padL xs.length) ((xs ++ padL xs.length).length / 64))
theorem sumB_length (xs : List UInt8) : (sumB xs).length = 32 := stB_length _
/-- The digest, j words told. -/
def outJ (s : St) (j : Nat) : List UInt8 := (s.list.take j).flatMap be4 ++ List.replicate (32 - 4 * j) 0
theorem outJ_splice (s : St) {j : Nat} (hj : j < 8) : splice (outJ s j) (4 * j) (be4 (s.list.getD j 0)) = outJ s (j + 1) ∧ (outJ s j).length = 32 := by
  match j, hj with
  | 0, _ => exact ⟨rfl, rfl⟩
  | 1, _ => exact ⟨rfl, rfl⟩
  | 2, _ => exact ⟨rfl, rfl⟩
  | 3, _ => exact ⟨rfl, rfl⟩
  | 4, _ => exact ⟨rfl, rfl⟩
  | 5, _ => exact ⟨rfl, rfl⟩
  | 6, _ => exact ⟨rfl, rfl⟩
  | 7, _ => exact ⟨rfl, rfl⟩
theorem outJ_full (s : St) : outJ s 8 = stB s := by simp [outJ, stB, St.list]
theorem outJ_zero (s : St) : outJ s 0 = List.replicate 32 0 := rfl
theorem index_st (s : St) {j : Nat} (hj : j < 8) (w : World) : (Instr.index 51 (.agg (stv s)) (.int .i64 (j : Int))).run Try.prog w = .ok (.int .u32 ((s.list.getD j 0).toNat : Int)) w := by
  match j, hj with
  | 0, _ => show _ = _; kernel_rfl
  | 1, _ => show _ = _; kernel_rfl
  | 2, _ => show _ = _; kernel_rfl
  | 3, _ => show _ = _; kernel_rfl
  | 4, _ => show _ = _; kernel_rfl
  | 5, _ => show _ = _; kernel_rfl
  | 6, _ => show _ = _; kernel_rfl
  | 7, _ => show _ = _; kernel_rfl
theorem info5' : (Try.prog.info? 5).map (fun i => (i.zero, i.size, i.bytes)) = some (some (.int .u8 0), 1, 1) := by kernel_rfl
theorem make_pad (w : World) (n : Nat) (hn : n ≤ 80) : (Instr.makeSlice 25 (.int .i64 (n : Int)) (.int .i64 80)).run Try.prog w = .ok (.slice (some ⟨w.heap.size, 0, none⟩) n 80) (w.alloc (.cells (bcs (List.replicate 80 0)).toArray 5)) := by
  obtain ⟨i0, hi0, hz0, hz1, hz2⟩ := info_parts info5'
  have := run_make (P := Try.prog) w 25 5 i0 _ Try.underlying25 hi0 hz0 .i64 .i64 (n : Int) 80 (by omega) (by omega) (by rw [hz2]; omega) (by omega)
  rw [hz1] at this
  rw [this, Int.toNat_natCast]
  have e : madeCells (Value.int IntKind.u8 0).cells (Int.toNat 80 * 1) = (bcs (List.replicate 80 0)).toArray := by kernel_rfl
  rw [e]
  rfl
end Go.Proofs.Ythgfkepflpdalaa
