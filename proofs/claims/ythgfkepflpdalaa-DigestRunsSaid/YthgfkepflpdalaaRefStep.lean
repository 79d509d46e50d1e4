/- What sixty-four bytes do to a state: the document's step (33). -/
import Derived.Test.YthgfkepflpdalaaRefWords
import Derived.Test.YthgfkepflpdalaaRound
namespace Go.Proofs.Ythgfkepflpdalaa
open Go.RowKit

set_option maxRecDepth 100000 in
set_option maxHeartbeats 4000000 in
theorem step_any {D : Nat → Prop} {w : World} {ad : Addr} {bs : List UInt8} {c : Nat} (h : Rd D w (some ad) bs) (hl : bs.length = 64) (s : St) :
    Calls Try.prog 33 #[.agg (stv s), .slice (some ad) 64 c] w fun e w' => e = .returned (.agg (stv (s.next bs))) ∧ Chg (fun _ => False) w w' := by
  have hsp := fun (w' : World) (k : Chg (fun _ => False) w w') => rwords_any (c := c) (h.chg k (fun _ _ h => h)) hl
  have HSP := Lib.hid hsp
  have hs8 : (stv s).size = 8 := rfl
  have hs1 := stv_one s
  have hws64 : (arr 64 (sched bs)).size = 64 := arr_size (by rw [sched_length]; exact Nat.le_refl _)
  have hws1 := arr_one 64 (sched bs)
  have hkw64 : (arr 64 kW).size = 64 := by kernel_rfl
  have hkw1 := arr_one 64 kW
  have HN := Lib.hid (show s.next bs = (s.rounds kW (sched bs) 64).add s from rfl)
  have hlen := sched_length bs
  clear hsp
  generalize s.next bs = nx at *
  generalize sched bs = ws at *
  obtain ⟨S0, hS0⟩ : ∃ S0, stv s = S0 := ⟨_, rfl⟩
  rw [hS0] at hs8 hs1
  have HS0 := Lib.hid hS0
  rw [hS0]
  clear hS0
  go_enter Try.func33, Try.ntmps33
  go_wp2_with (first
    | (go_at_call 41; refine (HSP.out _ (((Chg.refl _ w).alloc _).alloc _)).mono ?_; rintro e w1 ⟨rfl, k1⟩)
    | (go_at_call 42; refine (rk_any _).mono ?_; rintro e w2 ⟨rfl, k2⟩; have k12 := k1.trans k2 (fun _ _ h => h); have hS2 := ((Blk.new w 50 S0).alloc _).chg k12 (fun h => h); have hlt2 : w.heap.size + 2 ≤ w2.heap.size := (by have := k12.size; simp at this; omega))
    | ((with_reducible refine wpList_storeE (o := ⟨none, .store 71 (.tmp 5) (.tmp 13), _, _, _, none⟩) rfl 71 (.tmp 5) (.tmp 13) rfl w2.heap.size (arr 64 ws) rfl rfl 64 rt71 hws64 hws1 ?_ ?_); exact ⟨_, _, (Blk.new w2 71 _).alloc _, rfl⟩)
    | ((with_reducible refine wpList_storeE (o := ⟨none, .store 71 (.tmp 6) (.tmp 14), _, _, _, none⟩) rfl 71 (.tmp 6) (.tmp 14) rfl (w2.heap.size + 1) (arr 64 kW) rfl rfl 64 rt71 hkw64 hkw1 ?_ ?_); exact ⟨_, _, (Blk.newAt (by simp)).row_far (by omega) _, rfl⟩)
    | ((with_reducible refine wpList_loadE (o := ⟨some 15, .load 50 (.tmp 2), _, _, _, none⟩) rfl 50 (.tmp 2) rfl w.heap.size rfl S0 8 rt50 hs8 ?_ ?_); exact ⟨_, (((hS2.alloc _).alloc _).row_far (by omega) _).row_far (by omega) _⟩)
    | ((with_reducible refine wpList_storeE (o := ⟨none, .store 50 (.tmp 7) (.tmp 15), _, _, _, none⟩) rfl 50 (.tmp 7) (.tmp 15) rfl (w2.heap.size + 1 + 1) S0 rfl rfl 8 rt50 hs8 hs1 ?_ ?_); exact ⟨_, _, Blk.newAt (by simp), rfl⟩))
  clear hS2
  go_loopg [8, 9, 10] 64 (fun k i _ _ wr => ∃ j : Nat, (j + k ≤ 64 ∧ 64 ≤ j + k) ∧ i = .int .i64 (j : Int) ∧ ∃ z, z.size = 8 ∧ EnvN w wr w2.heap.size 50 s (s.rounds kW ws j) ws z)
  case atStart =>
    refine ⟨0, ⟨by omega, by omega⟩, rfl, _, ?_, envN_start HS0.out k12⟩
    rfl
  case round =>
    obtain ⟨j, ⟨hj1, hj2⟩, rfl, z, hz8, hE⟩ := hrel
    generalize w2.heap.size = B at *
    by_cases hj : j < 64
    · have hrd := Lib.hid (show s.rounds kW ws (j + 1) = (s.rounds kW ws j).round (kW.getD j 0) (ws.getD j 0) from rfl)
      generalize s.rounds kW ws j = r at *
      have r0 := hE.hR.cell 0
      have r1 := hE.hR.cell 1
      have r2 := hE.hR.cell 2
      have r3 := hE.hR.cell 3
      have r4 := hE.hR.cell 4
      have r5 := hE.hR.cell 5
      have r6 := hE.hR.cell 6
      have r7 := hE.hR.cell 7
      have ck := blk_at hE.hK (i := j) hj
      have cw := blk_at hE.hW (i := j) (by omega)
      generalize kW.getD j 0 = kj at *
      generalize ws.getD j 0 = wj at *
      obtain ⟨xa, xb, xc, xd, xe, xf, xg, xh⟩ := r
      simp only [stv, wv, List.getElem?_toArray] at r0 r1 r2 r3 r4 r5 r6 r7
      have hji : (j : Int) < 64 := by omega
      go_wp2_with fail
      go_quiet ((first
        | (go_at_call 43; with_reducible exact Calls.quiet_of (turn_is xe 6 6 (by decide) _))
        | (go_at_call 43; with_reducible exact Calls.quiet_of (turn_is xe 11 11 (by decide) _))
        | (go_at_call 43; with_reducible exact Calls.quiet_of (turn_is xe 25 25 (by decide) _))))
      have HT := Lib.hid (show tt ⟨xa, xb, xc, xd, xe, xf, xg, xh⟩ kj wj = xh + bsig1 xe + ch xe xf xg + kj + wj from rfl)
      simp only [bsig1_val, ch_val', tsum_val]
      generalize xh + bsig1 xe + ch xe xf xg + kj + wj = T at *
      go_wp2_with fail
      go_quiet ((first
        | (go_at_call 43; with_reducible exact quiet_add (turn_is xa 2 2 (by decide) _))
        | (go_at_call 43; with_reducible exact quiet_add (turn_is xa 13 13 (by decide) _))
        | (go_at_call 43; with_reducible exact quiet_add (turn_is xa 22 22 (by decide) _))))
      have HU := Lib.hid (show uu ⟨xa, xb, xc, xd, xe, xf, xg, xh⟩ = bsig0 xa + maj xa xb xc from rfl)
      simp only [bsig0_val, maj_val, w_add']
      generalize bsig0 xa + maj xa xb xc = U at *
      have hcells : (#[.int .u32 (((T.toNat : Int) + (U.toNat : Int)) % 4294967296), .int .u32 (xa.toNat : Int), .int .u32 (xb.toNat : Int), .int .u32 (xc.toNat : Int), .int .u32 (((xd.toNat : Int) + (T.toNat : Int)) % 4294967296), .int .u32 (xe.toNat : Int), .int .u32 (xf.toNat : Int), .int .u32 (xg.toNat : Int)] : Array Value) = stv (St.round ⟨xa, xb, xc, xd, xe, xf, xg, xh⟩ kj wj) := by
        unfold St.round stv wv
        rw [HT.out, HU.out, w_add', w_add']
      have HC := Lib.hid hcells
      have HE := Lib.hid hE
      clear hcells hE ck cw
      go_wp2_with (first
        | ((with_reducible refine wpList_storeE (o := ⟨none, .store 50 (.tmp 7) (.tmp 103), _, _, _, none⟩) rfl 50 (.tmp 7) (.tmp 103) rfl (B + 1 + 1) #[.int .u32 (((T.toNat : Int) + (U.toNat : Int)) % 4294967296), .int .u32 (xa.toNat : Int), .int .u32 (xb.toNat : Int), .int .u32 (xc.toNat : Int), .int .u32 (((xd.toNat : Int) + (T.toNat : Int)) % 4294967296), .int .u32 (xe.toNat : Int), .int .u32 (xf.toNat : Int), .int .u32 (xg.toNat : Int)] rfl rfl 8 rt50 ?_ ?_ ?_ ?_); rfl; (rw [HC.out]; exact stv_one _); exact ⟨_, _, HE.out.hR, rfl⟩; rw [HC.out]))
      go_roundg (gk - 1)
      case measure => omega
      case rel => exact ⟨j + 1, ⟨by omega, by omega⟩, by go_num, z, hz8, by rw [hrd.out]; exact HE.out.round_ _ (HE.out.chg.drewN _)⟩
    · obtain rfl : j = 64 := by omega
      generalize s.rounds kW ws 64 = r at *
      have hS : Blk wr w.heap.size 50 (arrL (addL r.list s.list 0)) := by rw [addL_zero, arrL_st]; exact hE.hS
      obtain ⟨_, hO, _, _, hR, hBB, hch⟩ := hE
      clear hs8 hs1 hws64 hws1 hkw64 hkw1 hlen hl
      go_wp2_with fail
      go_loopg [11] 8 (fun k i wr => ∃ j : Nat, (j + k ≤ 8 ∧ 8 ≤ j + k) ∧ i = .int .i64 (j : Int) ∧ Blk wr w.heap.size 50 (arrL (addL r.list s.list j)) ∧ Blk wr (w.heap.size + 1) 50 z ∧ Blk wr (B + 1 + 1) 50 (stv r) ∧ Chg (fun _ => False) w wr)
      case atStart => exact ⟨0, ⟨by omega, by omega⟩, rfl, hS, hO, hR, hch⟩
      case round =>
        obtain ⟨j, ⟨hj1, hj2⟩, rfl, hS, hO, hR, hch⟩ := hrel
        by_cases hj : j < 8
        · have cr := hR.cell j
          rw [st_get r hj] at cr
          have cs := hS.cell j
          rw [show (arrL (addL r.list s.list j))[j]? = some (wv (s.list.getD j 0)) by unfold arrL; rw [List.getElem?_toArray, List.getElem?_map, addL_get _ _ hj]; rfl] at cs
          have fs := hS.frozen j
          have hst := Lib.hid (addL_set r.list s.list hj)
          have hR' := Lib.hid (fun v => hR.far (p := ⟨w.heap.size, j, none⟩) (by simp; omega) v)
          have hO' := Lib.hid (fun v => hO.far (p := ⟨w.heap.size, j, none⟩) (by simp) v)
          have hS' := Lib.hid (fun v => hS.set_ j v)
          have hc' := Lib.hid (fun v => hch.setCell (p := ⟨w.heap.size, j, none⟩) (.inl (by simp)) v)
          generalize r.list.getD j 0 = xr at *
          generalize s.list.getD j 0 = xs at *
          simp only [wv] at cs cr
          have hji : (j : Int) < 8 := by omega
          have hne1 : ¬ w.heap.size = B + 1 + 1 := by omega
          have hne2 : ¬ B + 1 + 1 = w.heap.size := by omega
          clear hS hO hR hch
          go_wp2_with fail
          go_region
          clear cs cr fs hne1 hne2
          go_wp2_with fail
          go_roundg (gk - 1)
          case measure => omega
          case rel => exact ⟨j + 1, ⟨by omega, by omega⟩, by go_num, by rw [← hst.out, ← arrL_set]; show Blk _ _ _ ((arrL (addL r.list s.list j)).setIfInBounds j (.int .u32 ((xs + xr).toNat : Int))); rw [← w_add']; exact (hS'.out _).drewN _, (hO'.out _).drewN _, (hR'.out _).drewN _, (hc'.out _).drewN _⟩
        · obtain rfl : j = 8 := by omega
          rw [addL_full, arrL_st] at hS
          have hn8 : (stv (s.add r)).size = 8 := rfl
          have hn1 := stv_one (s.add r)
          generalize hout : stv (s.add r) = out at *
          have HO := Lib.hid hout
          clear hout
          go_wp2_with (first
            | ((with_reducible refine wpList_loadE (o := ⟨some 117, .load 50 (.tmp 2), _, _, _, none⟩) rfl 50 (.tmp 2) rfl w.heap.size rfl out 8 rt50 hn8 ?_ ?_); exact ⟨_, hS⟩)
            | ((with_reducible refine wpList_storeE (o := ⟨none, .store 50 (.tmp 4) (.tmp 117), _, _, _, none⟩) rfl 50 (.tmp 4) (.tmp 117) rfl (w.heap.size + 1) out rfl rfl 8 rt50 hn8 hn1 ?_ ?_); exact ⟨_, _, hO, hz8⟩))
          refine bodyPost_ret (v := .agg out) (results_arr (fn := Try.f33) (p := 4) Try.results33 _ (w.heap.size + 1) (by rfl) (hO.row _) rt50 hn8) ?_ ?_
          · rfl
          · exact ⟨by rw [HN.out, St.add_comm, HO.out], hch.setRow (.inl (Nat.le_succ _)) _⟩
end Go.Proofs.Ythgfkepflpdalaa
