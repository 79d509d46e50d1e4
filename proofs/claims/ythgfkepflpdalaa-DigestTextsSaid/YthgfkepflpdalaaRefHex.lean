/- The document's digit (35), Text (26). -/
import Derived.Test.YthgfkepflpdalaaHexLaw
import Derived.Laws.BytesString
namespace Go.Proofs.Ythgfkepflpdalaa
open Go.RowKit

def rdg (c : UInt8) : UInt8 := if dgI c < 0 then 16 else dg c
theorem rdg_at : ∀ n : Fin 256, (bv (rdg (UInt8.ofNat n.val)) = .int .u8 (if 48 ≤ n.val ∧ n.val ≤ 57 then ((n.val : Int) - 48) else if 97 ≤ n.val ∧ n.val ≤ 102 then ((n.val : Int) - 97 + 10) else 16)) := by
  have h : ∀ n : Fin 256, ((rdg (UInt8.ofNat n.val)).toNat : Int) = (if 48 ≤ n.val ∧ n.val ≤ 57 then ((n.val : Int) - 48) else if 97 ≤ n.val ∧ n.val ≤ 102 then ((n.val : Int) - 97 + 10) else 16) := by decide +kernel
  intro n
  unfold bv
  rw [h n]

set_option maxHeartbeats 1000000 in
theorem digit_any (w : World) (c : UInt8) : Calls Try.prog 35 #[bv c] w fun e w' => e = .returned (bv (rdg c)) ∧ w = w' := by
  obtain ⟨n, hn⟩ : ∃ n : Fin 256, c = UInt8.ofNat n.val := ⟨⟨c.toNat, UInt8.toNat_lt c⟩, by simp⟩
  subst hn
  rw [rdg_at n]
  obtain ⟨m, hm⟩ : ∃ m : Nat, n.val = m := ⟨_, rfl⟩
  have hm256 : m < 256 := by omega
  have hb : bv (UInt8.ofNat n.val) = .int .u8 m := by rw [hm]; unfold bv; simp; omega
  rw [hb, hm]
  clear hb hm n
  by_cases h1 : 48 ≤ m ∧ m ≤ 57
  · rw [if_pos h1]
    obtain ⟨ha, hb⟩ := h1
    go_enter Try.func35, Try.ntmps35
    go_wp2_with fail
    go_ret
    exact ⟨rfl, rfl⟩
  · rw [if_neg h1]
    by_cases h2 : 97 ≤ m ∧ m ≤ 102
    · rw [if_pos h2]
      obtain ⟨ha, hb⟩ := h2
      have h3 : 57 < m := by omega
      go_enter Try.func35, Try.ntmps35
      go_wp2_with fail
      go_ret
      exact ⟨rfl, rfl⟩
    · rw [if_neg h2]
      go_enter Try.func35, Try.ntmps35
      go_wp2_with fail
      all_goals (first | (exfalso; omega) | (go_ret; exact ⟨rfl, rfl⟩))

theorem two_bytes {w : World} {x y : Value} {a b : UInt8} (hx : x = bv a) (hy : y = bv b) : Rd (fun k => k = w.heap.size) (w.alloc (.cells #[x, y] 5)) (some ⟨w.heap.size, 0, none⟩) [a, b] := fun _ => ⟨_, rfl, rfl, fun j u hu => by
  subst hx; subst hy
  rw [Addr.add_lit, Nat.zero_add, (Blk.new w 5 #[bv a, bv b]).cell, ← hu, show (#[bv a, bv b] : Array Value) = (bcs [a, b]).toArray from rfl, List.getElem?_toArray]⟩
theorem hex_val {m : Nat} (hm : m < (ByteArray.mk #[48, 49, 50, 51, 52, 53, 54, 55, 56, 57, 97, 98, 99, 100, 101, 102]).size) : Value.int .u8 (((ByteArray.mk #[48, 49, 50, 51, 52, 53, 54, 55, 56, 57, 97, 98, 99, 100, 101, 102])[m]).toNat : Int) = bv (hexD.getD m 0) := by
  rw [hex_get]; rfl
theorem foldl_push : ∀ (bs : List UInt8) (s : ByteArray), (bs.map fun b => (b.toNat : Int)).foldl (fun r n => r.push (UInt8.ofNat n.toNat)) s = ⟨s.data ++ bs.toArray⟩
  | [], s => by simp
  | b :: bs, s => by
    rw [List.map_cons, List.foldl_cons, foldl_push bs]
    simp [ByteArray.push]
theorem conv_str {w : World} {v : Value} {bs : List UInt8} (h : OwnB 5 w v bs) (h0 : bs ≠ []) : (convert 25 9 v).run Try.prog w = .ok (.string ⟨bs.toArray⟩) w := by
  rcases h with ⟨_, h⟩ | ⟨g, c, all, rfl, hb, hl, ht, _, hc⟩
  · exact absurd h h0
  rw [run_convert_bytes_string w 25 9 5 _ _ _ Try.underlying25 Try.underlying5 Try.underlying9]
  have hld := run_loadCells_list (P := Try.prog) w ⟨g, 0, none⟩ (bcs bs) (fun k u hu => by
    have hk : k < bs.length := by have := (List.getElem?_eq_some_iff.1 hu).1; rwa [bcs_length] at this
    rw [Addr.add_lit, Nat.zero_add, cell_of_row _ g k _ 5 (0, 0) hb, List.getElem?_toArray, ← hu]
    rw [ht]
    simp only [bcs, List.map_take, List.getElem?_take]
    rw [if_pos hk])
  rw [bcs_length] at hld
  have e : bcs bs = (bs.map fun b => (b.toNat : Int)).map (Value.int .u8) := by simp [bcs, bv, Function.comp_def]
  rw [e] at hld
  rw [run_bytesToString w _ _ _ _ hld, foldl_push]
  congr 3
  simp
theorem rtext_done {w wr w2 : World} {v u : Value} {xs ys : List UInt8} {a b : UInt8} (hO : OwnB 5 w2 v (xs ++ [a, b])) (hy : ys = xs ++ [a] ++ [b]) (hk : Chg (fun k => some k = u.ownBlock) wr w2) (hg : ∀ g, u.ownBlock = some g → w.heap.size < g) {B : Nat} (ha : v.ownBlock = u.ownBlock ∨ v.ownBlock = some B) (hB : w.heap.size < B) :
    OwnB 5 w2 v ys ∧ (∀ g, v.ownBlock = some g → w.heap.size < g) ∧ Chg (fun k => w.heap.size < k) wr w2 := by
  refine ⟨by rw [hy, List.append_assoc]; exact hO, fun g h => ?_, hk.mono fun k _ h => hg k h.symm⟩
  rcases ha with e | e
  · exact hg g (e ▸ h)
  · rw [e] at h
    have := Option.some.inj h
    omega

set_option maxRecDepth 100000 in
set_option maxHeartbeats 1600000 in
theorem rtext_any (w : World) (bs : List UInt8) (hl : bs.length = 16) : Calls Try.prog 26 #[.agg (bcs bs).toArray] w fun e w' => e = .returned (.string ⟨(hexT bs).toArray⟩) ∧ Chg (fun _ => False) w w' := by
  obtain ⟨i5, hi5, hz5, hs5, hb5⟩ := info_parts info5'
  have hX0 : (bcs bs).toArray.size = 16 := by simp [bcs_length, hl]
  have hXj : ∀ j (h : j < bs.length), (bcs bs).toArray[j]? = some (bv bs[j]) := fun j h => by simp [bcs, h]
  generalize (bcs bs).toArray = X at *
  have hA := Blk.new w 23 X
  have k0 := (Chg.refl (fun _ => False) w).alloc (.cells X 23)
  go_enter Try.func26, Try.ntmps26
  go_wp2_with fail
  go_loopg [3, 4] 16 (fun k v i wr => ∃ j : Nat, j + k = 16 ∧ i = .int .i64 j ∧ OwnB 5 wr v (hexT (bs.take j)) ∧ (∀ g, v.ownBlock = some g → w.heap.size < g) ∧ Blk wr w.heap.size 23 X ∧ Chg (fun _ => False) w wr)
  case atStart => exact ⟨0, rfl, rfl, .inl ⟨rfl, rfl⟩, (fun g hg => by simp [Value.ownBlock] at hg), hA, k0⟩
  case round =>
    obtain ⟨j, hj, rfl, ho, hg, hA, hc⟩ := hrel
    by_cases h : j < 16
    · have hXj' := hXj j (by omega)
      obtain ⟨n, hnv, hn⟩ : ∃ n : Nat, bs[j].toNat = n ∧ bv (bs[j]'(by omega)) = .int .u8 n := ⟨_, rfl, rfl⟩
      have hn256 : n < 256 := by rw [← hnv]; exact UInt8.toNat_lt _
      have hn1 : n / 16 < 16 := by omega
      have hn2 : n % 16 < 16 := by omega
      have hcell : wr.cell? ⟨w.heap.size, j, none⟩ = some (.int .u8 n) := by rw [hA.cell, hXj', hn]
      have hcal : ∀ m o, ((wr.drewN m).alloc o).cell? ⟨w.heap.size, j, none⟩ = some (.int .u8 n) := fun m o => (((Chg.refl (fun _ => False) wr).drewN m).alloc o).cell hcell (fun h => h)
      clear hXj'
      have hTl := hexT_length (bs.take j)
      have hTL := hexT_take (bs := bs) (j := j) (by omega)
      rw [hnv] at hTL
      rw [List.length_take] at hTl
      obtain ⟨m1, hm1⟩ : ∃ m1, n / 16 = m1 := ⟨_, rfl⟩
      obtain ⟨m2, hm2⟩ : ∃ m2, n % 16 = m2 := ⟨_, rfl⟩
      rw [hm1, hm2] at hTL
      rw [hm1] at hn1
      rw [hm2] at hn2
      have hw1 : IntKind.u8.wrap ((n : Int) / 16) = (m1 : Int) := by rw [IntKind.wrap_u8]; omega
      have hw2 : IntKind.u8.wrap ((n : Int) % 16) = (m2 : Int) := by rw [IntKind.wrap_u8]; omega
      have hw3 : (n : Int).tmod 16 = (m2 : Int) := by rw [Int.tmod_eq_emod_of_nonneg (by omega)]; omega
      clear hm1 hm2
      have hi1 : (m1 : Int) < 16 := by omega
      have hi2 : (m2 : Int) < 16 := by omega
      have HT := Lib.hid hTL
      clear hTL
      go_wp2_with fail
      have hAl := hA.lt
      have hq : (hexT (bs.take j)).length + [hexD.getD (m1) 0, hexD.getD (m2) 0].length ≤ 140737488355328 := by rw [hTl]; simp; omega
      go_region_law (first
        | (refine step_append_bytes _ rfl (.tmp 9) (.tmp 20) 25 rfl 5 i5 Try.underlying25 hi5 hz5 hs5 hb5 u3 (hexT (bs.take j)) rfl (ho.chg (((Chg.refl (fun _ => False) wr).drewN _).alloc _) (fun _ _ h => h)) (some ⟨wr.heap.size, 0, none⟩) 2 [hexD.getD (m1) 0, hexD.getD (m2) 0] rfl (two_bytes (w := wr.drewN _) (hex_val _) (hex_val _)) hq ?_; intro v2 w2 hO2 hk2 ha2))
      all_goals (go_wp2_with fail)
      all_goals (
        go_roundg (16 - (j + 1))
        case measure => omega
        case rel =>
          obtain ⟨z1, z2, z3⟩ := rtext_done hO2 HT.out ((((Chg.refl (fun k => some k = u3.ownBlock) wr).drewN _).alloc _).trans hk2 (fun _ _ h => h)) hg ha2 (by simp; omega)
          exact ⟨j + 1, by omega, by simp, z1, z2, hA.chg z3 (by omega), hc.trans z3 fun k hk h => by omega⟩)
    · have : j = 16 := by omega
      subst this
      rw [List.take_of_length_le (by omega)] at ho
      have hcv := conv_str ho (by rw [← List.length_pos_iff, hexT_length]; omega)
      go_wp2_with fail
      go_ret
      exact ⟨rfl, hc⟩
end Go.Proofs.Ythgfkepflpdalaa
