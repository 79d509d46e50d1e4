/- Words of 32 bits: what the model's operations say of them; turning a word (math/bits.RotateLeft32, digest.down, the reference's turn). -/
import Derived.Test.YthgfkepflpdalaaApp
import Derived.Test.YthgfkepflpdalaaRow
namespace Go.Proofs.Ythgfkepflpdalaa
open Go.RowKit

abbrev W32 := BitVec 32
def wv (x : W32) : Value := .int .u32 (x.toNat : Int)

theorem w_lt (x : W32) : (x.toNat : Int) < 4294967296 := by have := x.isLt; omega
theorem w_wrap (x : W32) : IntKind.u32.wrap (x.toNat : Int) = (x.toNat : Int) := by
  have := w_lt x
  rw [IntKind.wrap_u32]; omega
theorem w_of (x : W32) : BitVec.ofInt 32 (x.toNat : Int) = x := by
  rw [BitVec.ofInt_natCast, BitVec.ofNat_toNat, BitVec.setWidth_eq]
theorem w_xor (x y : W32) : bits .xor .u32 (x.toNat : Int) (y.toNat : Int) = ((x ^^^ y).toNat : Int) := by
  unfold bits
  show IntKind.u32.wrap (((BitVec.ofInt 32 (x.toNat : Int)) ^^^ (BitVec.ofInt 32 (y.toNat : Int))).toNat : Int) = _
  rw [w_of, w_of, w_wrap]
theorem w_or (x y : W32) : bits .or .u32 (x.toNat : Int) (y.toNat : Int) = ((x ||| y).toNat : Int) := by
  unfold bits
  show IntKind.u32.wrap (((BitVec.ofInt 32 (x.toNat : Int)) ||| (BitVec.ofInt 32 (y.toNat : Int))).toNat : Int) = _
  rw [w_of, w_of, w_wrap]
theorem w_and (x y : W32) : bits .and .u32 (x.toNat : Int) (y.toNat : Int) = ((x &&& y).toNat : Int) := by
  unfold bits
  show IntKind.u32.wrap (((BitVec.ofInt 32 (x.toNat : Int)) &&& (BitVec.ofInt 32 (y.toNat : Int))).toNat : Int) = _
  rw [w_of, w_of, w_wrap]
theorem w_not (x : W32) : bits .xor .u32 IntKind.u32.max (x.toNat : Int) = ((~~~x).toNat : Int) := by
  unfold bits
  show IntKind.u32.wrap (((BitVec.ofInt 32 IntKind.u32.max) ^^^ (BitVec.ofInt 32 (x.toNat : Int))).toNat : Int) = _
  rw [w_of, w_wrap]
  have : BitVec.ofInt 32 IntKind.u32.max = BitVec.allOnes 32 := by decide
  rw [this, BitVec.allOnes_xor]
theorem w_add (x y : W32) : IntKind.u32.wrap ((x.toNat : Int) + (y.toNat : Int)) = ((x + y).toNat : Int) := by
  rw [IntKind.wrap_u32, BitVec.toNat_add]; omega

theorem w_shl (x : W32) (n : Nat) : ((x.toNat : Int) * 2 ^ n) % 4294967296 = ((x <<< n).toNat : Int) := by
  have h : (x <<< n).toNat = x.toNat * 2 ^ n % 4294967296 := by rw [BitVec.toNat_shiftLeft, Nat.shiftLeft_eq]
  rw [h, Int.natCast_emod, Int.natCast_mul, Int.natCast_pow]
  rfl
theorem w_shr (x : W32) (n : Nat) : (x.toNat : Int) / 2 ^ n = ((x >>> n).toNat : Int) := by
  have h : (x >>> n).toNat = x.toNat / 2 ^ n := by rw [BitVec.toNat_ushiftRight, Nat.shiftRight_eq_div_pow]
  rw [h, Int.natCast_ediv, Int.natCast_pow]
  rfl

/-- A word turned down. -/
def rotr (x : W32) (n : Nat) : W32 := x >>> n ||| x <<< (32 - n)

theorem back_bits (n : Nat) (h1 : 1 ≤ n) (h2 : n ≤ 31) : bits .and .u64 (IntKind.u64.wrap (-(n : Int))) 31 = 32 - (n : Int) := by
  have : ∀ n : Fin 32, 1 ≤ n.val → bits .and .u64 (IntKind.u64.wrap (-(n.val : Int))) 31 = 32 - (n.val : Int) := by decide
  exact this ⟨n, by omega⟩ h1

theorem rotate_any (x : W32) (n : Nat) (h1 : 1 ≤ n) (h2 : n ≤ 31) (k : Int) (hk : k = -(n : Int)) (w : World) :
    Calls Try.prog 46 #[wv x, .int .i64 k] w fun e w' => e = .returned (wv (rotr x n)) ∧ w = w' := by
  have hb := back_bits n h1 h2
  rw [← hk] at hb
  have hx := w_lt x
  have hx0 : (0 : Int) ≤ (x.toNat : Int) := by omega
  have hgoal : bits .or .u32 ((x.toNat : Int) * 2 ^ (32 - n) % 4294967296) ((x.toNat : Int) / 2 ^ n) = ((rotr x n).toNat : Int) := by
    rw [w_shl, w_shr, w_or, rotr, BitVec.or_comm]
  have HG := Lib.hid hgoal
  have e1 : (32 - (n : Int)).toNat = 32 - n := by omega
  clear hgoal hk
  unfold wv
  go_enter Try.func46, Try.ntmps46
  go_wp2
  go_ret
  exact ⟨by rw [show 32 - (32 - n) = n by omega, HG.out]; rfl, rfl⟩

theorem down_any (x : W32) (n : Nat) (h1 : 1 ≤ n) (h2 : n ≤ 31) (k : Int) (hk : k = (n : Int)) (w : World) :
    Calls Try.prog 40 #[wv x, .int .i64 k] w fun e w' => e = .returned (wv (rotr x n)) ∧ w = w' := by
  have hc := rotate_any x n h1 h2 (-k) (by omega)
  have e1 : IntKind.i64.wrap (-k) = -k := by rw [IntKind.wrap_i64]; omega
  have hk1 : 1 ≤ k := by omega
  have hk2 : k ≤ 31 := by omega
  unfold wv at hc ⊢
  generalize (rotr x n).toNat = r at *
  generalize x.toNat = y at *
  clear h1 h2 hk
  go_enter Try.func40, Try.ntmps40
  go_wp2_with (go_at_call 46; refine (hc _).mono ?_; rintro e w' ⟨rfl, rfl⟩)
  go_ret
  exact ⟨rfl, rfl⟩

theorem turn_any (x : W32) (n : Nat) (h1 : 1 ≤ n) (h2 : n ≤ 31) (k : Int) (hk : k = (n : Int)) (w : World) :
    Calls Try.prog 43 #[wv x, .int .i64 k] w fun e w' => e = .returned (wv (rotr x n)) ∧ ∃ m, w' = w.drewN m := by
  have hgoal : bits .or .u32 ((x.toNat : Int) / 2 ^ n) ((x.toNat : Int) * 2 ^ (32 - n) % 4294967296) = ((rotr x n).toNat : Int) := by
    rw [w_shl, w_shr, w_or, rotr]
  have HG := Lib.hid hgoal
  have e1 : (32 - k).toNat = 32 - n := by omega
  have e2 : k.toNat = n := by omega
  have hk1 : 1 ≤ k := by omega
  have hk2 : k ≤ 31 := by omega
  have hx := w_lt x
  have hx0 : (0 : Int) ≤ (x.toNat : Int) := by omega
  clear hgoal hk
  unfold wv
  go_enter Try.func43, Try.ntmps43
  go_wp2
  go_quiet (fail)
  go_wp2
  go_ret
  exact ⟨by rw [← HG.out]; rfl, _, rfl⟩
end Go.Proofs.Ythgfkepflpdalaa
