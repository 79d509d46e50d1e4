/- The digest of bytes (18); a digest that nobody made tells noughts. -/
import Derived.Test.YthgfkepflpdalaaSum
namespace Go.Proofs.Ythgfkepflpdalaa
open Go.RowKit

theorem bcs_one (bs : List UInt8) : (bcs bs).toArray.all (·.oneCell') = true := by
  rw [Array.all_eq_true_iff_forall_mem]
  intro v hv
  rw [List.mem_toArray] at hv
  obtain ⟨b, _, rfl⟩ := List.mem_map.1 hv
  rfl

set_option maxRecDepth 100000 in
set_option maxHeartbeats 1600000 in
theorem sumNil_any (w : World) : Calls Try.prog 17 #[.pointer none] w fun e w' => e = .returned (.agg (bcs (List.replicate 32 0)).toArray) ∧ Chg (fun _ => False) w w' := by
  have hn32 : (bcs (List.replicate 32 0)).toArray.size = 32 := by kernel_rfl
  have hn1 := bcs_one (List.replicate 32 0)
  have hA := (Blk.new w 39 (bcs (List.replicate 32 0)).toArray).alloc (.cells (bcs (List.replicate 32 0)).toArray 39)
  have hB := Blk.newAt (w := w.alloc (.cells (bcs (List.replicate 32 0)).toArray 39)) (t := 39) (cs := (bcs (List.replicate 32 0)).toArray) (B := w.heap.size + 1) (by simp)
  have hk := ((Chg.refl (fun _ => False) w).alloc (.cells (bcs (List.replicate 32 0)).toArray 39)).alloc (.cells (bcs (List.replicate 32 0)).toArray 39)
  go_enter Try.func17, Try.ntmps17
  go_wp2_with (first
    | ((with_reducible refine wpList_loadE (o := ⟨some 18, .load 39 (.tmp 3), _, _, _, none⟩) rfl 39 (.tmp 3) rfl (w.heap.size + 1) rfl (bcs (List.replicate 32 0)).toArray 32 rt39 hn32 ?_ ?_); exact ⟨_, hB⟩)
    | ((with_reducible refine wpList_storeE (o := ⟨none, .store 39 (.tmp 2) (.tmp 18), _, _, _, none⟩) rfl 39 (.tmp 2) (.tmp 18) rfl w.heap.size (bcs (List.replicate 32 0)).toArray rfl rfl 32 rt39 hn32 hn1 ?_ ?_); exact ⟨_, _, hA, hn32⟩))
  refine bodyPost_ret (v := .agg (bcs (List.replicate 32 0)).toArray) (results_arr (fn := Try.f17) (p := 2) Try.results17 _ w.heap.size (by rfl) (hA.row _) rt39 hn32) ?_ ?_
  · rfl
  · exact ⟨rfl, hk.setRow (.inl (Nat.le_refl _)) _⟩

set_option maxRecDepth 100000 in
set_option maxHeartbeats 1600000 in
theorem sumUn_any {w : World} {g : Nat} (c0 : w.cell? ⟨g, 0, none⟩ = some (.bool false)) : Calls Try.prog 17 #[.pointer (some ⟨g, 0, none⟩)] w fun e w' => e = .returned (.agg (bcs (List.replicate 32 0)).toArray) ∧ Chg (fun _ => False) w w' := by
  have hn32 : (bcs (List.replicate 32 0)).toArray.size = 32 := by kernel_rfl
  have hn1 := bcs_one (List.replicate 32 0)
  have hA := (Blk.new w 39 (bcs (List.replicate 32 0)).toArray).alloc (.cells (bcs (List.replicate 32 0)).toArray 39)
  have hB := Blk.newAt (w := w.alloc (.cells (bcs (List.replicate 32 0)).toArray 39)) (t := 39) (cs := (bcs (List.replicate 32 0)).toArray) (B := w.heap.size + 1) (by simp)
  have hk := ((Chg.refl (fun _ => False) w).alloc (.cells (bcs (List.replicate 32 0)).toArray 39)).alloc (.cells (bcs (List.replicate 32 0)).toArray 39)
  have hg : g < w.heap.size := World.block_lt_of_cell? w _ c0
  go_enter Try.func17, Try.ntmps17
  go_wp2_with (first
    | ((with_reducible refine wpList_loadE (o := ⟨some 18, .load 39 (.tmp 3), _, _, _, none⟩) rfl 39 (.tmp 3) rfl (w.heap.size + 1) rfl (bcs (List.replicate 32 0)).toArray 32 rt39 hn32 ?_ ?_); exact ⟨_, hB⟩)
    | ((with_reducible refine wpList_storeE (o := ⟨none, .store 39 (.tmp 2) (.tmp 18), _, _, _, none⟩) rfl 39 (.tmp 2) (.tmp 18) rfl w.heap.size (bcs (List.replicate 32 0)).toArray rfl rfl 32 rt39 hn32 hn1 ?_ ?_); exact ⟨_, _, hA, hn32⟩))
  refine bodyPost_ret (v := .agg (bcs (List.replicate 32 0)).toArray) (results_arr (fn := Try.f17) (p := 2) Try.results17 _ w.heap.size (by rfl) (hA.row _) rt39 hn32) ?_ ?_
  · rfl
  · exact ⟨rfl, hk.setRow (.inl (Nat.le_refl _)) _⟩

set_option maxRecDepth 100000 in
set_option maxHeartbeats 1600000 in
theorem digSum_any {D : Nat → Prop} {w : World} {A : Option Addr} {bs : List UInt8} {c : Nat} (hr : Rd D w A bs) (hD : ∀ k, D k → k < w.heap.size) (hc : bs.length ≤ c) (hlen : bs.length ≤ 1099511627776) :
    Calls Try.prog 18 #[.slice A bs.length c] w fun e w' => e = .returned (.agg (bcs (sumB bs)).toArray) ∧ Chg (fun _ => False) w w' := by
  have hA := Blk.new w 39 (bcs (List.replicate 32 0)).toArray
  have k0 := (Chg.refl (fun _ => False) w).alloc (.cells (bcs (List.replicate 32 0)).toArray 39)
  have hn32 : (bcs (sumB bs)).toArray.size = 32 := by simp [bcs, sumB_length]
  have hn1 := bcs_one (sumB bs)
  generalize hout : (bcs (sumB bs)).toArray = out at *
  have HO := Lib.hid hout
  clear hout
  go_enter Try.func18, Try.ntmps18
  go_wp2_with (first
    | (go_at_call 15; refine (new_any _).mono ?_; rintro e w1 ⟨g, rfl, hg, hDg, k1⟩; have hA1 := hA.chg k1 (fun h => h); have hgw : w.heap.size < g := (by simp at hg; omega))
    | (go_at_call 16; refine (write_any hDg ((hr.chg k0 (fun _ _ h => h)).chg k1 (fun _ _ h => h)) (fun k hk he => by have := hD k hk; omega) (by simp; omega) hc).mono ?_; rintro e w2 ⟨rfl, hD2, k2⟩; have hA2 := hA1.chg k2 (by omega))
    | (go_at_call 17; refine (sum_any hD2 (by simpa using hlen)).mono ?_; rw [List.nil_append, HO.out]; rintro e w3 ⟨rfl, k3⟩; have hA3 := hA2.chg k3 (fun h => h))
    | ((with_reducible refine wpList_storeE (o := ⟨none, .store 39 (.tmp 2) (.tmp 9), _, _, _, none⟩) rfl 39 (.tmp 2) (.tmp 9) rfl w.heap.size out rfl rfl 32 rt39 hn32 hn1 ?_ ?_); exact ⟨_, _, hA3, by kernel_rfl⟩))
  refine bodyPost_ret (v := .agg out) (results_arr (fn := Try.f18) (p := 2) Try.results18 _ w.heap.size (by rfl) (hA3.row _) rt39 hn32) ?_ ?_
  · rfl
  · exact ⟨rfl, (((k0.trans k1 (fun _ _ h => h)).trans k2 (fun k hk he => by omega)).trans k3 (fun _ _ h => h)).setRow (.inl (Nat.le_refl _)) _⟩
end Go.Proofs.Ythgfkepflpdalaa
