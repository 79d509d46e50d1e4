/- The sixty-four words of sixty-four bytes: plain lists. -/
import Derived.Test.YthgfkepflpdalaaWord
namespace Go.Proofs.Ythgfkepflpdalaa

def bw (b : UInt8) : W32 := BitVec.ofNat 32 b.toNat
theorem bw_toNat (b : UInt8) : (bw b).toNat = b.toNat := by
  unfold bw
  rw [BitVec.toNat_ofNat]
  have := b.toNat_lt
  omega
/-- The i-th word of some bytes. -/
def w4 (a b c d : UInt8) : W32 := bw a <<< 24 ||| bw b <<< 16 ||| bw c <<< 8 ||| bw d
def word4 (bs : List UInt8) (i : Nat) : W32 := w4 (bs.getD (4 * i) 0) (bs.getD (4 * i + 1) 0) (bs.getD (4 * i + 2) 0) (bs.getD (4 * i + 3) 0)
def first16 (bs : List UInt8) : List W32 := (List.range 16).map (word4 bs)
def sig0 (x : W32) : W32 := rotr x 7 ^^^ rotr x 18 ^^^ x >>> 3
def sig1 (x : W32) : W32 := rotr x 17 ^^^ rotr x 19 ^^^ x >>> 10
/-- The next word. -/
def ext (ws : List W32) : W32 := ws.getD (ws.length - 16) 0 + sig0 (ws.getD (ws.length - 15) 0) + ws.getD (ws.length - 7) 0 + sig1 (ws.getD (ws.length - 2) 0)
def extN (ws : List W32) : Nat → List W32
  | 0 => ws
  | n + 1 => extN ws n ++ [ext (extN ws n)]
def sched (bs : List UInt8) : List W32 := extN (first16 bs) 48
theorem extN_length (ws : List W32) (n : Nat) : (extN ws n).length = ws.length + n := by
  induction n with
  | zero => rfl
  | succ n ih => simp [extN, ih]; omega
theorem first16_length (bs : List UInt8) : (first16 bs).length = 16 := by simp [first16]
theorem sched_length (bs : List UInt8) : (sched bs).length = 64 := by rw [sched, extN_length, first16_length]

/-- An array of n words that is filled from the front. -/
def arr (n : Nat) (ws : List W32) : Array Value := ((ws ++ List.replicate (n - ws.length) 0).map wv).toArray
theorem arr_set {n : Nat} {ws : List W32} (h : ws.length < n) (x : W32) : (arr n ws).setIfInBounds ws.length (wv x) = arr n (ws ++ [x]) := by
  unfold arr
  rw [List.setIfInBounds_toArray, ← List.map_set]
  congr 2
  rw [List.set_append_right _ _ (Nat.le_refl _), Nat.sub_self, List.append_assoc]
  congr 1
  rw [show n - ws.length = (n - (ws.length + 1)) + 1 by omega, List.replicate_succ]
  simp
theorem arr_full {n : Nat} {ws : List W32} (h : ws.length = n) : arr n ws = (ws.map wv).toArray := by
  unfold arr
  rw [h, Nat.sub_self]
  simp
theorem arr_get {n : Nat} {ws : List W32} {i : Nat} (hi : i < ws.length) : (arr n ws)[i]? = some (wv (ws.getD i 0)) := by
  unfold arr
  rw [List.getElem?_toArray, List.getElem?_map, List.getElem?_append_left hi, List.getElem?_eq_getElem hi, List.getD_eq_getElem?_getD, List.getElem?_eq_getElem hi]
  rfl
theorem arr_one (n : Nat) (ws : List W32) : (arr n ws).all (·.oneCell') = true := by
  rw [Array.all_eq_true_iff_forall_mem]
  intro v hv
  unfold arr at hv
  rw [List.mem_toArray, List.mem_map] at hv
  obtain ⟨x, _, rfl⟩ := hv
  rfl
theorem arr_some {n : Nat} {ws : List W32} {i : Nat} (hi : i < n) (hl : ws.length ≤ n) : ∃ v, (arr n ws)[i]? = some v := by
  have : i < (arr n ws).size := by simp [arr]; omega
  exact ⟨_, Array.getElem?_eq_getElem this⟩
theorem arr_size {n : Nat} {ws : List W32} (hl : ws.length ≤ n) : (arr n ws).size = n := by simp [arr]; omega
theorem range_snoc (f : Nat → W32) (j : Nat) : (List.range (j + 1)).map f = (List.range j).map f ++ [f j] := by
  rw [List.range_succ, List.map_append]; rfl
theorem w_shl' (x : W32) (n : Nat) (m : Int) (hm : m = 2 ^ n) : IntKind.u32.wrap ((x.toNat : Int) * m) = ((x <<< n).toNat : Int) := by
  rw [IntKind.wrap_u32, hm, w_shl]
theorem w_shr' (x : W32) (n : Nat) (m : Int) (hm : m = 2 ^ n) : (x.toNat : Int) / m = ((x >>> n).toNat : Int) := by rw [hm, w_shr]
theorem b_nat (b : UInt8) : (b.toNat : Int) = ((bw b).toNat : Int) := by rw [bw_toNat]
theorem w4_val (a b c d : UInt8) : bits .or .u32 (bits .or .u32 (bits .or .u32 (IntKind.u32.wrap (IntKind.u32.wrap (a.toNat : Int) * 16777216)) (IntKind.u32.wrap (IntKind.u32.wrap (b.toNat : Int) * 65536))) (IntKind.u32.wrap (IntKind.u32.wrap (c.toNat : Int) * 256))) (IntKind.u32.wrap (d.toNat : Int)) = ((w4 a b c d).toNat : Int) := by
  rw [b_nat a, b_nat b, b_nat c, b_nat d, w_wrap, w_wrap, w_wrap, w_wrap, w_shl' (bw a) 24 _ (by decide), w_shl' (bw b) 16 _ (by decide), w_shl' (bw c) 8 _ (by decide), w_or, w_or, w_or]
  rfl
theorem w4_val' (a b c d : UInt8) : bits .or .u32 (bits .or .u32 (bits .or .u32 ((a.toNat : Int) * 16777216) ((b.toNat : Int) * 65536)) ((c.toNat : Int) * 256)) (d.toNat : Int) = ((w4 a b c d).toNat : Int) := by
  have ha := a.toNat_lt
  have hb := b.toNat_lt
  have hc := c.toNat_lt
  have hd := d.toNat_lt
  rw [← w4_val]
  have e : ∀ n : Int, 0 ≤ n → n < 4294967296 → IntKind.u32.wrap n = n := fun n h1 h2 => by rw [IntKind.wrap_u32]; omega
  rw [e (a.toNat : Int) (by omega) (by omega), e (b.toNat : Int) (by omega) (by omega), e (c.toNat : Int) (by omega) (by omega), e (d.toNat : Int) (by omega) (by omega), e _ (by omega) (by omega), e _ (by omega) (by omega), e _ (by omega) (by omega)]
theorem ext_val' (a b c d : W32) : ((((a.toNat : Int) + (b.toNat : Int)) % 4294967296 + (c.toNat : Int)) % 4294967296 + (d.toNat : Int)) % 4294967296 = ((a + b + c + d).toNat : Int) := by
  have := w_add (a + b + c) d
  have h2 := w_add (a + b) c
  have h3 := w_add a b
  rw [IntKind.wrap_u32] at this h2 h3
  rw [h3, h2, this]
theorem ext_val2 (a b c d : W32) : ((a.toNat : Int) + (b.toNat : Int) + (c.toNat : Int) + (d.toNat : Int)) % 4294967296 = ((a + b + c + d).toNat : Int) := by
  rw [← ext_val']; omega
theorem ext_val (a b c d : W32) : IntKind.u32.wrap (IntKind.u32.wrap (IntKind.u32.wrap ((a.toNat : Int) + (b.toNat : Int)) + (c.toNat : Int)) + (d.toNat : Int)) = ((a + b + c + d).toNat : Int) := by
  rw [w_add, w_add, w_add]
theorem down_is (x : W32) (n : Nat) (k : Int) (h1 : 1 ≤ n ∧ n ≤ 31 ∧ k = (n : Int)) (w : World) :
    Calls Try.prog 40 #[.int .u32 (x.toNat : Int), .int .i64 k] w fun e w' => e = .returned (.int .u32 ((rotr x n).toNat : Int)) ∧ w = w' := down_any x n h1.1 h1.2.1 k h1.2.2 w
theorem turn_is (x : W32) (n : Nat) (k : Int) (h1 : 1 ≤ n ∧ n ≤ 31 ∧ k = (n : Int)) (w : World) :
    Calls Try.prog 43 #[.int .u32 (x.toNat : Int), .int .i64 k] w fun e w' => e = .returned (.int .u32 ((rotr x n).toNat : Int)) ∧ ∃ m, w' = w.drewN m := turn_any x n h1.1 h1.2.1 k h1.2.2 w
/-- The places of one round's four bytes. -/
theorem ix4 {j i0 i1 i2 i3 : Nat} (hj : j < 16) (g0 : 4 * j = i0) (g1 : 4 * j + 1 = i1) (g2 : 4 * j + 2 = i2) (g3 : 4 * j + 3 = i3) :
    (((4 : Int) * (j : Int)).toNat = i0 ∧ ((4 : Int) * (j : Int) + 1).toNat = i1 ∧ ((4 : Int) * (j : Int) + 2).toNat = i2 ∧ ((4 : Int) * (j : Int) + 3).toNat = i3) ∧
    ((0 : Int) ≤ 4 * (j : Int) ∧ (0 : Int) ≤ 4 * (j : Int) + 1 ∧ (0 : Int) ≤ 4 * (j : Int) + 2 ∧ (0 : Int) ≤ 4 * (j : Int) + 3) ∧
    (4 * (j : Int) < 64 ∧ 4 * (j : Int) + 1 < 64 ∧ 4 * (j : Int) + 2 < 64 ∧ 4 * (j : Int) + 3 < 64) ∧
    (IntKind.i64.wrap (4 * (j : Int)) = 4 * (j : Int) ∧ IntKind.i64.wrap (4 * (j : Int) + 1) = 4 * (j : Int) + 1 ∧ IntKind.i64.wrap (4 * (j : Int) + 2) = 4 * (j : Int) + 2 ∧ IntKind.i64.wrap (4 * (j : Int) + 3) = 4 * (j : Int) + 3) := by
  simp only [IntKind.wrap_i64]
  omega
/-- The places of one round's four words. -/
theorem ixw {j j1 j9 j14 jj : Nat} (hj : j < 48) (e1 : j + 1 = j1) (e9 : j + 9 = j9) (e14 : j + 14 = j14) (ejj : 16 + j = jj) :
    (((jj : Int) - 15).toNat = j1 ∧ ((jj : Int) - 2).toNat = j14 ∧ ((jj : Int) - 16).toNat = j ∧ ((jj : Int) - 7).toNat = j9) ∧
    (IntKind.i64.wrap ((jj : Int) - 15) = (j1 : Int) ∧ IntKind.i64.wrap ((jj : Int) - 2) = (j14 : Int) ∧ IntKind.i64.wrap ((jj : Int) - 16) = (j : Int) ∧ IntKind.i64.wrap ((jj : Int) - 7) = (j9 : Int)) ∧
    ((jj : Int) - 15 = (j1 : Int) ∧ (jj : Int) - 2 = (j14 : Int) ∧ (jj : Int) - 16 = (j : Int) ∧ (jj : Int) - 7 = (j9 : Int)) ∧
    ((j1 : Int) < 64 ∧ (j14 : Int) < 64 ∧ (j : Int) < 64 ∧ (j9 : Int) < 64 ∧ (jj : Int) < 64) ∧ (16 : Int) + (j : Int) = (jj : Int) ∧ (jj : Int) + 1 = 16 + ((j : Int) + 1) ∧ (j ≠ jj ∧ j9 ≠ jj) ∧ jj ≠ j ∧ jj ≠ j9 := by
  simp only [IntKind.wrap_i64]
  omega
theorem sig0_val (x : W32) : bits .xor .u32 (bits .xor .u32 ((rotr x 7).toNat : Int) ((rotr x 18).toNat : Int)) ((x.toNat : Int) / 8) = ((sig0 x).toNat : Int) := by
  rw [w_shr' x 3 _ (by decide), w_xor, w_xor]; rfl
theorem sig1_val (x : W32) : bits .xor .u32 (bits .xor .u32 ((rotr x 17).toNat : Int) ((rotr x 19).toNat : Int)) ((x.toNat : Int) / 1024) = ((sig1 x).toNat : Int) := by
  rw [w_shr' x 10 _ (by decide), w_xor, w_xor]; rfl
theorem blk_put {wr : World} {g t n i : Nat} {ws : List W32} (hB : Blk wr g t (arr n ws)) (h : ws.length = i) (hi : i < n) {x : W32} {v : Value} (hv : v = wv x) : Blk (wr.setCell ⟨g, i, none⟩ v) g t (arr n (ws ++ [x])) := by
  subst h; subst hv
  rw [← arr_set hi x]
  exact hB.set_ _ _
theorem blk_at {wr : World} {g t n i : Nat} {ws : List W32} (hB : Blk wr g t (arr n ws)) (h : i < ws.length) : wr.cell? ⟨g, i, none⟩ = some (.int .u32 ((ws.getD i 0).toNat : Int)) := by
  rw [hB.cell, arr_get h]; rfl
end Go.Proofs.Ythgfkepflpdalaa
