/- The ID of bytes: the document's ID (22). -/
import Derived.Test.YthgfkepflpdalaaRefSum
namespace Go.Proofs.Ythgfkepflpdalaa
open Go.RowKit

set_option maxRecDepth 100000 in
set_option maxHeartbeats 1600000 in
theorem rid_any {D : Nat → Prop} {w : World} {A : Option Addr} {bs : List UInt8} {c : Nat} (hr : Rd D w A bs) (hl : bs.length ≤ 1048576) :
    Calls Try.prog 22 #[.slice A bs.length c] w fun e w' => e = .returned (.agg (bcs ((sumB bs).take 16)).toArray) ∧ Chg (fun _ => False) w w' := by
  obtain ⟨Z, hZ, hz23, hZn⟩ : ∃ Z : Array Value, (bcs (List.replicate 16 0)).toArray = Z ∧ (∀ w, (zeroValue 23).run Try.prog w = .ok (.agg Z) w) ∧ Z.size = 16 := ⟨_, rfl, (fun w => by kernel_rfl), by kernel_rfl⟩
  have HZ := Lib.hid hZ
  clear hZ
  have a0 := (Blk.new w 23 Z).alloc (.cells Z 23)
  have b0 := Blk.newAt (w := w.alloc (.cells Z 23)) (t := 23) (cs := Z) (B := w.heap.size + 1) (by simp)
  have k0 := ((Chg.refl (fun _ => False) w).alloc (.cells Z 23)).alloc (.cells Z 23)
  have hcal := fun w' k => rsum_any (w := w') (c := c) (hr.chg (w' := w') (S := fun _ => False) k (fun _ _ h => h)) hl
  have hSl := sumB_length bs
  have hTl : ((sumB bs).take 16).length = 16 := by rw [List.length_take, hSl]; rfl
  have hTg : ∀ i, i < 16 → ((sumB bs).take 16).getD i 0 = (sumB bs).getD i 0 := fun i hi => by
    simp [List.getD_eq_getElem?_getD, hi]
  have hn32 : (bcs (sumB bs)).toArray.size = 32 := by simp [bcs, hSl]
  have hn1 := bcs_one (sumB bs)
  have hSg : ∀ i, i < 16 → (bcs (sumB bs)).toArray[i]? = some (bv ((sumB bs).getD i 0)) := fun i hi => by
    have : i < (sumB bs).length := by omega
    simp [bcs, List.getD_eq_getElem?_getD, this]
  have hO1 := bcs_one ((sumB bs).take 16)
  have hO16 : (bcs ((sumB bs).take 16)).toArray.size = 16 := by simp [bcs, hSl]
  generalize sumB bs = S at *
  generalize S.take 16 = L at *
  generalize (bcs S).toArray = SA at *
  have HTG := Lib.hid hTg
  have HSG := Lib.hid hSg
  clear hTg hSg
  go_enter Try.func22, Try.ntmps22
  go_wp2_with (first
    | (go_at_call 21; (with_reducible refine (hcal _ k0).mono ?_); rintro e w1 ⟨rfl, k1⟩; have K1 := nochg k0 k1; have a1 := a0.chg k1 (fun h => h); have b1 := b0.chg k1 (fun h => h); have hl1 := b1.lt)
    | ((with_reducible refine wpList_storeW (o := ⟨none, .store 39 (.tmp 4) (.tmp 7), _, _, _, none⟩) rfl 39 (.tmp 4) (.tmp 7) rfl w1.heap.size SA rfl rfl 32 rt39 hn32 hn1 39 ?_ ?_); exact ⟨_, Blk.new w1 39 _, rfl⟩; intro w2 hS k2; have k2' := ((Chg.refl (fun _ => False) w1).alloc _).trans k2 (fun k hk he => by omega); have a2 := a1.chg k2' (fun h => h); have b2 := b1.chg k2' (fun h => h); have K2 := nochg K1 k2'))
  clear a0 b0 a1 b1 hcal
  go_loopg [5] 16 (fun k i wr => ∃ j : Nat, j + k = 16 ∧ i = .int .i64 j ∧ Blk wr w.heap.size 23 Z ∧ Blk wr w1.heap.size 39 SA ∧ Blk wr (w.heap.size + 1) 23 (bcs (L.take j ++ List.replicate (16 - j) 0)).toArray ∧ Chg (fun _ => False) w wr)
  case atStart => exact ⟨0, rfl, rfl, a2, hS, by rw [List.take_zero, List.nil_append, HZ.out]; exact b2, K2⟩
  case round =>
    obtain ⟨j, hj, rfl, ha, hs, hb, hk⟩ := hrel
    by_cases hj16 : j < 16
    · have cs := hs.cell j
      rw [HSG.out j hj16] at cs
      have hTj := HTG.out j hj16
      have hb3 := hb.set_ j (bv (S.getD j 0))
      rw [bcs_put, ← hTj, fill_setN hTl hj16, hTj] at hb3
      have hbl : (L.take j ++ List.replicate (16 - j) 0).length = 16 := by simp; omega
      obtain ⟨v0, hv0⟩ : ∃ v, wr.cell? ⟨w.heap.size + 1, j, none⟩ = some v := by
        rw [hb.cell]
        exact ⟨_, Array.getElem?_eq_getElem (by rw [List.size_toArray, bcs_length, hbl]; exact hj16)⟩
      have hfz := hb.frozen j
      have hk3 := hk.setCell (p := ⟨w.heap.size + 1, j, none⟩) (.inl (Nat.le_succ _)) (bv (S.getD j 0))
      have e1 : (j : Int) < 16 := by omega
      have e2 : (j : Int) < 32 := by omega
      have ha3 := ha.far (p := ⟨w.heap.size + 1, j, none⟩) (by simp) (bv (S.getD j 0))
      have hs3 := hs.far (p := ⟨w.heap.size + 1, j, none⟩) (by simp; omega) (bv (S.getD j 0))
      clear hTj hbl
      obtain ⟨n, hn⟩ : ∃ n : Int, bv (S.getD j 0) = .int .u8 n := ⟨_, rfl⟩
      rw [hn] at ha3 hs3 hb3 hk3 cs
      have HH := Lib.hid (And.intro ha3 (And.intro hs3 (And.intro hb3 hk3)))
      clear ha3 hs3 hb3 hk3 ha hs hb hk
      go_wp2_with fail
      go_roundg (16 - (j + 1))
      case measure => omega
      case rel => exact ⟨j + 1, by omega, by simp, HH.out.1, HH.out.2.1, HH.out.2.2.1, HH.out.2.2.2⟩
    · obtain rfl : j = 16 := by omega
      rw [List.take_of_length_le (by omega), Nat.sub_self, List.replicate_zero, List.append_nil] at hb
      generalize hPP : (bcs L).toArray = PP at *
      have HPP := Lib.hid hPP
      clear hPP
      go_wp2_with (first
        | ((with_reducible refine wpList_loadE (o := ⟨some 17, .load 23 (.tmp 3), _, _, _, none⟩) rfl 23 (.tmp 3) rfl (w.heap.size + 1) rfl PP 16 rt23 hO16 ?_ ?_); exact ⟨_, hb⟩)
        | ((with_reducible refine wpList_storeE (o := ⟨none, .store 23 (.tmp 2) (.tmp 17), _, _, _, none⟩) rfl 23 (.tmp 2) (.tmp 17) rfl w.heap.size PP rfl rfl 16 rt23 hO16 hO1 ?_ ?_); exact ⟨_, _, ha, hZn⟩))
      refine bodyPost_ret (v := .agg PP) (results_arr (fn := Try.f22) (p := 2) Try.results22 _ w.heap.size (by rfl) (ha.row _) rt23 hO16) ?_ ?_
      · rfl
      · exact ⟨by rw [HPP.out], hk.setRow (.inl (Nat.le_refl _)) _⟩
end Go.Proofs.Ythgfkepflpdalaa
