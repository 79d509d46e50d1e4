/- Text (13). -/
import Derived.Test.YthgfkepflpdalaaBld
namespace Go.Proofs.Ythgfkepflpdalaa
open Go.RowKit

def hexD : List UInt8 := [48, 49, 50, 51, 52, 53, 54, 55, 56, 57, 97, 98, 99, 100, 101, 102]
def hexT (bs : List UInt8) : List UInt8 := bs.flatMap fun b => [hexD.getD (b.toNat / 16) 0, hexD.getD (b.toNat % 16) 0]
theorem hexT_length (bs : List UInt8) : (hexT bs).length = 2 * bs.length := by
  induction bs with
  | nil => rfl
  | cons a r ih => simp [hexT] at ih ⊢; omega
theorem hexT_take {bs : List UInt8} {j : Nat} (h : j < bs.length) : hexT (bs.take (j + 1)) = hexT (bs.take j) ++ [hexD.getD (bs[j].toNat / 16) 0] ++ [hexD.getD (bs[j].toNat % 16) 0] := by
  rw [List.take_succ_eq_append_getElem h]
  unfold hexT
  rw [List.flatMap_append]
  simp

theorem index_arr {t n : Nat} (ht : Try.prog.underlying t = some (.array n 5)) {X : Array Value} {j : Nat} {v : Value} (hj : j < n) (hv : X[j]? = some v) (w : World) : (Instr.index t (.agg X) (.int .i64 (j : Int))).run Try.prog w = .ok v w := by
  unfold Instr.index
  simp [asIntOf, run_underlying ht, Try.sizeOf5, part, isAgg, hj, hv]
theorem hex_get {m : Nat} (hm : m < (ByteArray.mk #[48, 49, 50, 51, 52, 53, 54, 55, 56, 57, 97, 98, 99, 100, 101, 102]).size) : (ByteArray.mk #[48, 49, 50, 51, 52, 53, 54, 55, 56, 57, 97, 98, 99, 100, 101, 102])[m] = hexD.getD m 0 := by
  have h : ∀ m : Fin 16, (ByteArray.mk #[48, 49, 50, 51, 52, 53, 54, 55, 56, 57, 97, 98, 99, 100, 101, 102])[m.val]'(m.isLt) = hexD.getD m.val 0 := by decide
  exact h ⟨m, hm⟩

set_option maxRecDepth 100000 in
set_option maxHeartbeats 1000000 in
theorem text_any (w : World) (bs : List UInt8) (hl : bs.length = 16) : Calls Try.prog 13 #[.agg (bcs bs).toArray] w fun e w' => e = .returned (.string ⟨(hexT bs).toArray⟩) ∧ Chg (fun _ => False) w w' := by
  have hX0 : (bcs bs).toArray.size = 16 := by simp [bcs_length, hl]
  have hX1 := bcs_one bs
  have hXj : ∀ j (h : j < bs.length), (bcs bs).toArray[j]? = some (bv bs[j]) := fun j h => by simp [bcs, h]
  generalize (bcs bs).toArray = X at *
  have hA := (Blk.new w 23 X).alloc (.cells #[.pointer none, .slice none 0 0] 61)
  have hN := bld_new (w.alloc (.cells X 23))
  rw [show (w.alloc (.cells X 23)).heap.size = w.heap.size + 1 by simp] at hN
  have k0 := ((Chg.refl (fun _ => False) w).alloc (.cells X 23)).alloc (.cells #[.pointer none, .slice none 0 0] 61)
  go_enter Try.func13, Try.ntmps13
  go_wp2_with (first
    | ((with_reducible refine wpList_loadE (o := ⟨some 6, .load 23 (.tmp 1), _, _, _, none⟩) rfl 23 (.tmp 1) rfl w.heap.size rfl X 16 rt23 hX0 ?_ ?_); exact ⟨_, hA⟩))
  go_loopg [7] 16 (fun k i wr => ∃ j : Nat, j + k = 16 ∧ i = .int .i64 j ∧ (∃ p, (p = .pointer none ∨ p = .pointer (some ⟨w.heap.size + 1, 0, none⟩)) ∧ Bld wr (w.heap.size + 1) (w.heap.size + 1) p (hexT (bs.take j))) ∧ Chg (fun _ => False) w wr)
  case atStart => exact ⟨0, rfl, rfl, ⟨_, .inl rfl, hN⟩, k0⟩
  case round =>
    obtain ⟨j, hj, rfl, ⟨p, hp, hb⟩, hc⟩ := hrel
    by_cases h : j < 16
    · have hXj' := hXj j (by omega)
      obtain ⟨n, hnv, hn⟩ : ∃ n : Nat, bs[j].toNat = n ∧ bv (bs[j]'(by omega)) = .int .u8 n := ⟨_, rfl, rfl⟩
      have hn256 : n < 256 := by rw [← hnv]; exact UInt8.toNat_lt _
      have hn1 : n / 16 < 16 := by omega
      have hn2 : n % 16 < 16 := by omega
      have hI := index_arr Try.underlying23 h hXj'
      rw [hn] at hI
      clear hXj'
      have hTl := hexT_length (bs.take j)
      have hTL := hexT_take (bs := bs) (j := j) (by omega)
      rw [hnv] at hTL
      rw [List.length_take] at hTl
      have HT := Lib.hid hTL
      clear hTL
      go_wp2_with (first
        | (go_at_call 28; refine (writeByte_any hb hp (by omega) _).mono ?_; rintro e w1 ⟨rfl, hb1, k1⟩)
        | (go_at_call 28; refine (writeByte_any hb1 (.inr rfl) (by simp; omega) _).mono ?_; rintro e w2 ⟨rfl, hb2, k2⟩))
      go_roundg (16 - (j + 1))
      case measure => omega
      case rel => 
        rw [hex_get, hex_get, ← HT.out] at hb2
        exact ⟨j + 1, by omega, by simp, ⟨_, .inr rfl, hb2⟩, (hc.trans k1 fun k hk h => by omega).trans k2 fun k hk h => by omega⟩
    · have : j = 16 := by omega
      subst this
      rw [List.take_of_length_le (by omega)] at hb
      go_wp2_with (go_at_call 29; refine (string_any hb (by rw [← List.length_pos_iff, hexT_length]; omega)).mono ?_; rintro e w1 ⟨rfl, k1⟩)
      go_ret
      exact ⟨rfl, hc.trans k1 fun k hk h => by omega⟩
end Go.Proofs.Ythgfkepflpdalaa
