/- Bytes filled up: the document's fill (32). -/
import Derived.Test.YthgfkepflpdalaaSum
namespace Go.Proofs.Ythgfkepflpdalaa
open Go.RowKit

theorem own_empty (w : World) : OwnB 5 (w.alloc (.cells #[] 5)) (.slice (some ⟨w.heap.size, 0, none⟩) 0 0) [] :=
  .inr ⟨w.heap.size, 0, [], rfl, Blk.new w 5 #[], rfl, rfl, by simp, by simp⟩
theorem own_step {w wr w2 : World} {u v : Value} (hk : Chg (fun _ => False) w wr) (h : Chg (fun k => some k = u.ownBlock) wr w2) (hg : ∀ g, u.ownBlock = some g → w.heap.size ≤ g) {B : Nat} (ha : v.ownBlock = u.ownBlock ∨ v.ownBlock = some B) (hB : w.heap.size ≤ B) :
    Chg (fun _ => False) w w2 ∧ ∀ g, v.ownBlock = some g → w.heap.size ≤ g := by
  refine ⟨hk.trans h fun k hk he => absurd (hg k he.symm) (by omega), fun g hv => ?_⟩
  rcases ha with ha | ha
  · exact hg g (ha ▸ hv)
  · rw [hv] at ha
    have := Option.some.inj ha
    omega
theorem rep_snoc (bs : List UInt8) (t : Nat) : (bs ++ (128 :: List.replicate t 0)) ++ [0] = bs ++ (128 :: List.replicate (t + 1) 0) := by
  rw [List.replicate_succ', List.append_assoc]; rfl
theorem pad_zero (n : Nat) : padJ n 0 = 128 :: List.replicate ((119 - n % 64) % 64) 0 := by simp [padJ]
theorem pad_cond {n t z : Nat} (hz : (119 - n % 64) % 64 = z) (ht : t ≤ z) : (n + (t + 1)) % 64 = 56 ↔ t = z := by omega

set_option maxRecDepth 100000 in
set_option maxHeartbeats 1600000 in
theorem fill_any {D : Nat → Prop} {w : World} {A : Option Addr} {bs : List UInt8} {c : Nat} (hr : Rd D w A bs) (hl : bs.length ≤ 1048576) :
    Calls Try.prog 32 #[.slice A bs.length c] w fun e w' => ∃ v, e = .returned v ∧ OwnB 5 w' v (bs ++ padL bs.length) ∧ (∀ g, v.ownBlock = some g → w.heap.size ≤ g) ∧ Chg (fun _ => False) w w' := by
  obtain ⟨i5, hi5, hz5, hs5, hb5⟩ := info_parts info5'
  have hr1 := hr.chg ((Chg.refl (fun _ => False) w).alloc (.cells #[] 5)) (fun _ _ h => h)
  have hq1 : ([] : List UInt8).length + bs.length ≤ 140737488355328 := by simp; omega
  have hq2 : ([] ++ bs : List UInt8).length + [128].length ≤ 140737488355328 := by simp; omega
  have hgB : ∀ g, (Value.slice (some ⟨w.heap.size, 0, none⟩) 0 0).ownBlock = some g → w.heap.size ≤ g := fun g h => by
    have : w.heap.size = g := by simpa [Value.ownBlock] using h
    omega
  go_enter Try.func32, Try.ntmps32
  go_wp2_with (first
    | ((with_reducible refine wpList_append_bytes _ rfl (.tmp 6) (.tmp 7) 25 rfl 5 i5 Try.underlying25 hi5 hz5 hs5 hb5 (.slice (some ⟨w.heap.size, 0, none⟩) 0 0) [] rfl (own_empty w) A c bs rfl hr1 hq1 ?_); intro v1 w1 hO1 hk1 ha1)
    | ((with_reducible refine wpList_append_bytes _ rfl (.tmp 9) (.tmp 10) 25 rfl 5 i5 Try.underlying25 hi5 hz5 hs5 hb5 v1 ([] ++ bs) rfl ?_ (some ⟨w1.heap.size, 0, none⟩) 1 [128] rfl (D := fun k => k = w1.heap.size) ?_ hq2 ?_); exact hO1.chg ((Chg.refl (fun _ => False) w1).alloc _) (fun _ _ h => h); exact one_byte rfl; intro v2 w2 hO2 hk2 ha2))
  have k0 := (Chg.refl (fun _ => False) w).alloc (.cells #[] 5)
  obtain ⟨K1, g1⟩ := own_step k0 hk1 hgB ha1 (by simp)
  obtain ⟨K2, g2⟩ := own_step (K1.alloc (.cells #[.int .u8 128] 5)) hk2 g1 ha2 (by have := K1.size; simp; omega)
  rw [List.nil_append] at hO2
  obtain ⟨z, hz⟩ : ∃ z, (119 - bs.length % 64) % 64 = z := ⟨_, rfl⟩
  have hz64 : z < 64 := by omega
  clear hO1 hk1 ha1 hk2 ha2 hq1 hq2 hgB hr1 k0 g1 K1
  go_loopg [3] z (fun k v wr => ∃ t : Nat, t + k = z ∧ OwnB 5 wr v (bs ++ 128 :: List.replicate t 0) ∧ (∀ g, v.ownBlock = some g → w.heap.size ≤ g) ∧ Chg (fun _ => False) w wr)
  case atStart => exact ⟨0, by omega, hO2, g2, K2⟩
  case round =>
    obtain ⟨t, ht, hO, hg, hk⟩ := hrel
    have hL : (bs ++ 128 :: List.replicate t 0).length = bs.length + (t + 1) := by simp
    have hc := pad_cond hz (t := t) (by omega)
    have hsn := rep_snoc bs t
    generalize hXs : bs ++ 128 :: List.replicate t 0 = X at *
    obtain ⟨A', c', rfl, hc', _⟩ := hO.shape
    have hx63 : (X.length : Int) ≤ 9223372036854775807 := by omega
    obtain ⟨r, hr64⟩ : ∃ r : Nat, X.length % 64 = r := ⟨_, rfl⟩
    have hrI : (X.length : Int) % 64 = (r : Int) := by omega
    rw [← hL, hr64] at hc
    by_cases htz : t < z
    · have hr56 : ¬ (r : Int) = 56 := fun h => by
        have := hc.1 (by omega)
        omega
      have hq : X.length + [(0 : UInt8)].length ≤ 140737488355328 := by simp; omega
      clear hr64 hL hc
      go_wp2_with (first
        | ((with_reducible refine wpList_append_bytes _ rfl (.tmp 16) (.tmp 17) 25 rfl 5 i5 Try.underlying25 hi5 hz5 hs5 hb5 (.slice A' X.length c') X rfl ?_ (some ⟨wr.heap.size, 0, none⟩) 1 [0] rfl (D := fun k => k = wr.heap.size) ?_ hq ?_); exact hO.chg ((Chg.refl (fun _ => False) wr).alloc _) (fun _ _ h => h); exact one_byte rfl; intro v3 w3 hO3 hk3 ha3))
      obtain ⟨K3, g3⟩ := own_step (hk.alloc (.cells #[.int .u8 0] 5)) hk3 hg ha3 (by have := hk.size; simp; omega)
      go_roundg (z - (t + 1))
      case measure => omega
      case rel => exact ⟨t + 1, by omega, by rw [← hsn]; exact hO3, g3, K3⟩
    · have htz : t = z := by omega
      have hr56 : (r : Int) = 56 := by have := hc.2 htz; omega
      have hX := Lib.hid (show X = bs ++ padJ bs.length 0 by rw [pad_zero, hz, ← htz, hXs])
      subst htz
      have hn8 : 8 * (bs.length : Int) ≤ 9223372036854775807 := by omega
      have hn9 : (0 : Int) ≤ 8 * (bs.length : Int) := by omega
      clear hr64 hL hc hXs hsn
      generalize hn : bs.length = n at *
      go_wp2_with fail
      clear hrI hr56
      go_loopg [3, 5] 8 (fun k v i wr => ∃ j : Nat, (j + k ≤ 8 ∧ 8 ≤ j + k) ∧ i = .int .i64 (7 - (j : Int)) ∧ OwnB 5 wr v (bs ++ padJ n j) ∧ (∀ g, v.ownBlock = some g → w.heap.size ≤ g) ∧ Chg (fun _ => False) w wr)
      case atStart => exact ⟨0, ⟨by omega, by omega⟩, by simp, by rw [← hX.out]; exact hO, hg, hk⟩
      case round =>
        obtain ⟨j, ⟨hj1, hj2⟩, rfl, hO, hg, hk⟩ := hrel
        by_cases hj : j < 8
        · obtain ⟨i7, hi7⟩ : ∃ i7 : Nat, i7 + j = 7 := ⟨7 - j, by omega⟩
          obtain ⟨s56, hs⟩ : ∃ s, 56 - 8 * j = s := ⟨_, rfl⟩
          have e7 : (7 : Int) - (j : Int) = (i7 : Int) := by omega
          have es : 8 * (i7 : Int) = (s56 : Int) := by omega
          have hi0 : (0 : Int) ≤ (i7 : Int) := by omega
          have hs1 : (0 : Int) ≤ (s56 : Int) := by omega
          have hs2 : s56 ≤ 56 := by omega
          have hsn := Lib.hid (padJ_succ n j)
          rw [hs] at hsn
          have hpl := padJ_length n j
          have hq : (bs ++ padJ n j).length + [lenb n s56].length ≤ 140737488355328 := by rw [List.length_append, hpl]; simp; omega
          have hss := Lib.hid (show (i7 : Int) - 1 = 7 - ((j : Int) + 1) by omega)
          have HI := Lib.hid hi7
          rw [e7]
          clear hs hpl e7 hi7
          go_wp2_with (first
            | ((with_reducible refine wpList_append_bytes _ rfl (.tmp 26) (.tmp 32) 25 rfl 5 i5 Try.underlying25 hi5 hz5 hs5 hb5 u3 (bs ++ padJ n j) rfl ?_ (some ⟨wr.heap.size, 0, none⟩) 1 [lenb n s56] rfl (D := fun k => k = wr.heap.size) ?_ hq ?_); exact hO.chg ((Chg.refl (fun _ => False) wr).alloc _) (fun _ _ h => h); exact one_byte (lenb_val n s56); intro v3 w3 hO3 hk3 ha3))
          obtain ⟨K3, g3⟩ := own_step (hk.alloc _) hk3 hg ha3 (by have := hk.size; simp; omega)
          go_roundg (gk - 1)
          case measure => omega
          case rel => exact ⟨j + 1, ⟨by omega, by omega⟩, by rw [hss.out]; simp, by rw [hsn.out, ← List.append_assoc]; exact hO3, g3, K3⟩
        · obtain rfl : j = 8 := by omega
          go_wp2_with fail
          go_ret
          exact ⟨_, rfl, by rw [hn]; exact hO, hg, hk⟩
end Go.Proofs.Ythgfkepflpdalaa
