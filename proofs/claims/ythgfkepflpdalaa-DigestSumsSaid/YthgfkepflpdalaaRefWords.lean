/- The sixty-four words of sixty-four bytes: the document's words (41). -/
import Derived.Test.YthgfkepflpdalaaSpread
namespace Go.Proofs.Ythgfkepflpdalaa
open Go.RowKit


set_option maxRecDepth 100000 in
set_option maxHeartbeats 4000000 in
theorem rwords_any {D : Nat → Prop} {w : World} {ad : Addr} {bs : List UInt8} {c : Nat} (h : Rd D w (some ad) bs) (hl : bs.length = 64) :
    Calls Try.prog 41 #[.slice (some ad) 64 c] w fun e w' => e = .returned (.agg (arr 64 (sched bs))) ∧ Chg (fun _ => False) w w' := by
  have hA := (Blk.new w 71 (arr 64 [])).alloc (.cells (arr 64 []) 71)
  have hB := Blk.new (w.alloc (.cells (arr 64 []) 71)) 71 (arr 64 [])
  have hk := ((Chg.refl (fun _ => False) w).alloc (.cells (arr 64 []) 71)).alloc (.cells (arr 64 []) 71)
  have hz : w.heap.size + 1 = (w.alloc (.cells (arr 64 []) 71)).heap.size := by simp
  rw [← hz] at hB
  have HA := Lib.hid hA
  have HB := Lib.hid hB
  have HK := Lib.hid hk
  clear hA hB hk hz
  have hfar := fun (wr : World) (j : Nat) (v : Value) (i : Nat) => far_cell (wr := wr) (rd_at h (k := 0) (by omega)) (Nat.le_succ w.heap.size) j v i
  have HFAR := Lib.hid hfar
  have HL := Lib.hid hl
  clear hl hfar
  go_enter Try.func41, Try.ntmps41
  go_wp2_with fail
  go_loopg [4] 16 (fun k i wr => ∃ j : Nat, (j + k ≤ 16 ∧ 16 ≤ j + k) ∧ i = .int .i64 (j : Int) ∧ Blk wr w.heap.size 71 (arr 64 []) ∧ Blk wr (w.heap.size + 1) 71 (arr 64 ((List.range j).map (word4 bs))) ∧ Chg (fun _ => False) w wr)
  case atStart => exact ⟨0, ⟨by omega, by omega⟩, rfl, HA.out, HB.out, HK.out⟩
  case round =>
    obtain ⟨j, ⟨hj1, hj2⟩, rfl, hA, hB, hk⟩ := hrel
    by_cases hj : j < 16
    · have hr := h.chg hk (fun _ _ h => h)
      have c0 := rd_at hr (k := 4 * j) (by rw [HL.out]; omega)
      have c1 := rd_at hr (k := 4 * j + 1) (by rw [HL.out]; omega)
      have c2 := rd_at hr (k := 4 * j + 2) (by rw [HL.out]; omega)
      have c3 := rd_at hr (k := 4 * j + 3) (by rw [HL.out]; omega)
      obtain ⟨u, cu⟩ := arr_some (n := 64) (ws := (List.range j).map (word4 bs)) (i := j) (by omega) (by simp; omega)
      rw [← hB.cell] at cu
      have fu := hB.frozen j
      obtain ⟨i0, g0⟩ : ∃ i, 4 * j = i := ⟨_, rfl⟩
      obtain ⟨i1, g1⟩ : ∃ i, 4 * j + 1 = i := ⟨_, rfl⟩
      obtain ⟨i2, g2⟩ : ∃ i, 4 * j + 2 = i := ⟨_, rfl⟩
      obtain ⟨i3, g3⟩ : ∃ i, 4 * j + 3 = i := ⟨_, rfl⟩
      have HW := Lib.hid (show word4 bs j = w4 (bs.getD (4 * j) 0) (bs.getD (4 * j + 1) 0) (bs.getD (4 * j + 2) 0) (bs.getD (4 * j + 3) 0) from rfl)
      rw [g3] at c3 HW
      rw [g2] at c2 HW
      rw [g1] at c1 HW
      rw [g0] at c0 HW
      generalize bs.getD i0 0 = b0 at *
      generalize bs.getD i1 0 = b1 at *
      generalize bs.getD i2 0 = b2 at *
      generalize bs.getD i3 0 = b3 at *
      have l0 : (b0.toNat : Int) < 256 := by have := b0.toNat_lt; omega
      have l1 : (b1.toNat : Int) < 256 := by have := b1.toNat_lt; omega
      have l2 : (b2.toNat : Int) < 256 := by have := b2.toNat_lt; omega
      have l3 : (b3.toNat : Int) < 256 := by have := b3.toNat_lt; omega
      obtain ⟨⟨t0, t1, t2, t3⟩, ⟨n0, n1, n2, n3⟩, ⟨m0, m1, m2, m3⟩, v0, v1, v2, v3⟩ := ix4 hj g0 g1 g2 g3
      have hji : (j : Int) < 64 := by omega
      have hfar := HFAR.out wr j
      clear g0 g1 g2 g3
      go_wp2_with fail
      go_region_held3 (fun w' => w'.cell? (ad.add i0) = some (.int .u8 (b0.toNat : Int)) ∧ w'.cell? (ad.add i1) = some (.int .u8 (b1.toNat : Int)) ∧ w'.cell? (ad.add i2) = some (.int .u8 (b2.toNat : Int)) ∧ w'.cell? (ad.add i3) = some (.int .u8 (b3.toNat : Int))) (go_keep) (fail)
      have HP := Lib.hid (fun v (hv : v = wv (word4 bs j)) => blk_put hB (i := j) (by simp) (by omega) hv)
      have HP2 := Lib.hid (hA.far (p := ⟨w.heap.size + 1, j, none⟩) (by simp))
      have HP3 := Lib.hid (fun v => hk.setCell (p := ⟨w.heap.size + 1, j, none⟩) (.inl (by simp)) v)
      clear hA hB hk c0 c1 c2 c3 cu fu hfar v0 v1 v2 v3 t0 t1 t2 t3
      go_wp2_with fail
      go_roundg (gk - 1)
      case measure => omega
      case rel => exact ⟨j + 1, ⟨by omega, by omega⟩, by go_num, (HP2.out _).drewN 1, by rw [range_snoc]; exact (HP.out _ (by rw [HW.out]; first | exact congrArg (Value.int IntKind.u32) (w4_val' b0 b1 b2 b3) | exact congrArg (Value.int IntKind.u32) (w4_val b0 b1 b2 b3))).drewN 1, (HP3.out _).drew⟩
    · obtain rfl : j = 16 := by omega
      have HB2 := Lib.hid hB
      have HA2 := Lib.hid hA
      clear hA hB HA HB HK
      go_wp2_with fail
      go_loopg [5, 6, 7] 48 (fun k i _ _ wr => ∃ j : Nat, (j + k ≤ 48 ∧ 48 ≤ j + k) ∧ i = .int .i64 (16 + (j : Int)) ∧ Blk wr w.heap.size 71 (arr 64 []) ∧ Blk wr (w.heap.size + 1) 71 (arr 64 (extN (first16 bs) j)) ∧ Chg (fun _ => False) w wr)
      case atStart => exact ⟨0, ⟨by omega, by omega⟩, by simp, HA2.out, HB2.out, hk⟩
      case round =>
        obtain ⟨j, ⟨hj1, hj2⟩, rfl, hA, hB, hk⟩ := hrel
        by_cases hj : j < 48
        · have hlen : (extN (first16 bs) j).length = 16 + j := by rw [extN_length, first16_length]
          have hext := Lib.hid (show extN (first16 bs) (j + 1) = extN (first16 bs) j ++ [ext (extN (first16 bs) j)] from rfl)
          generalize extN (first16 bs) j = ws at *
          have c1 := blk_at hB (i := j + 1) (by omega)
          have c14 := blk_at hB (i := j + 14) (by omega)
          have c0 := blk_at hB (i := j) (by omega)
          have c9 := blk_at hB (i := j + 9) (by omega)
          obtain ⟨u, cu⟩ := arr_some (n := 64) (ws := ws) (i := 16 + j) (by omega) (by omega)
          rw [← hB.cell] at cu
          have fu := hB.frozen (16 + j)
          have HX := Lib.hid (show ext ws = ws.getD j 0 + sig0 (ws.getD (j + 1) 0) + ws.getD (j + 9) 0 + sig1 (ws.getD (j + 14) 0) by
            unfold ext
            rw [hlen, show 16 + j - 16 = j by omega, show 16 + j - 15 = j + 1 by omega, show 16 + j - 7 = j + 9 by omega, show 16 + j - 2 = j + 14 by omega])
          have HP := Lib.hid (fun v (hv : v = wv (ext ws)) => blk_put hB (i := 16 + j) hlen (by omega) hv)
          have HP2 := Lib.hid (fun v => hA.far (p := ⟨w.heap.size + 1, 16 + j, none⟩) (by simp) v)
          have HP3 := Lib.hid (fun v => hk.setCell (p := ⟨w.heap.size + 1, 16 + j, none⟩) (.inl (by simp)) v)
          obtain ⟨j1, e1⟩ : ∃ i, j + 1 = i := ⟨_, rfl⟩
          obtain ⟨j9, e9⟩ : ∃ i, j + 9 = i := ⟨_, rfl⟩
          obtain ⟨j14, e14⟩ : ∃ i, j + 14 = i := ⟨_, rfl⟩
          obtain ⟨jj, ejj⟩ : ∃ i, 16 + j = i := ⟨_, rfl⟩
          obtain ⟨_, ⟨v1, v14, v0, v9⟩, ⟨n1, n14, n0, n9⟩, ⟨m1, m14, m0, m9, hjj⟩, ei, ejn, ⟨hne0, hne9⟩, hne1, hne2⟩ := ixw hj e1 e9 e14 ejj
          rw [e1] at c1 HX
          rw [e9] at c9 HX
          rw [e14] at c14 HX
          rw [ejj] at cu fu HP HP2 HP3
          rw [ei]
          generalize ws.getD j 0 = x0 at *
          generalize ws.getD j1 0 = x1 at *
          generalize ws.getD j9 0 = x9 at *
          generalize ws.getD j14 0 = x14 at *
          have EJN := Lib.hid ejn
          clear hA hB hk hlen ei ejj e1 e9 e14 ejn
          go_wp2_with fail
          go_quiet (fail)
          clear c1 c14 v1 v14 n1 n14 m1 m14
          go_wp2_with fail
          obtain ⟨q0, q9, q1, q2, q3, q4, q5, q6, q7, q8⟩ : (IntKind.i64.wrap ((jj : Int) - 16) = (jj : Int) - 16 ∧ IntKind.i64.wrap ((jj : Int) - 7) = (jj : Int) - 7 ∧ (16 : Int) ≤ (jj : Int) ∧ (7 : Int) ≤ (jj : Int) ∧ (jj : Int) - 16 < 64 ∧ (jj : Int) - 7 < 64 ∧ ((jj : Int) - 16).toNat = j ∧ ((jj : Int) - 7).toNat = j9 ∧ (0 : Int) ≤ (jj : Int) ∧ ((jj : Int)).toNat = jj) := by simp only [IntKind.wrap_i64]; omega
          clear v0 v9 n0 n9 m0 m9
          have hkS := fun (n : Nat) (v : Value) => And.intro ((World.cell?_setCell_other (wr.drewN n) ⟨w.heap.size + 1, jj, none⟩ ⟨w.heap.size + 1, j, none⟩ v (by simp; try exact hne1)).trans c0) ((World.cell?_setCell_other (wr.drewN n) ⟨w.heap.size + 1, jj, none⟩ ⟨w.heap.size + 1, j9, none⟩ v (by simp; try exact hne2)).trans c9)
          go_region_held3 (fun w' => w'.cell? ⟨w.heap.size + 1, j, none⟩ = some (.int .u32 (x0.toNat : Int)) ∧ w'.cell? ⟨w.heap.size + 1, j9, none⟩ = some (.int .u32 (x9.toNat : Int))) (first | exact ⟨c0, c9⟩ | exact hkS _ _) (first
            | (go_at_call 43; (with_reducible refine (turn_is x1 7 7 (by decide) _).mono ?_); rintro e w' ⟨rfl, n1, rfl⟩)
            | (go_at_call 43; (with_reducible refine (turn_is x1 18 18 (by decide) _).mono ?_); rintro e w' ⟨rfl, n2, rfl⟩)
            | (go_at_call 43; (with_reducible refine (turn_is x14 17 17 (by decide) _).mono ?_); rintro e w' ⟨rfl, n3, rfl⟩)
            | (go_at_call 43; (with_reducible refine (turn_is x14 19 19 (by decide) _).mono ?_); rintro e w' ⟨rfl, n4, rfl⟩))
          simp only [sig0_val, sig1_val, ext_val]
          clear c0 c9 cu fu hkS q0 q9 q1 q2 q3 q4 q5 q6 q7 q8 hne0 hne9 hne1 hne2
          go_wp2_with fail
          go_roundg (gk - 1)
          case measure => omega
          case rel => exact ⟨j + 1, ⟨by omega, by omega⟩, by rw [EJN.out]; go_num, (HP2.out _).drewN _, by rw [hext.out]; exact (HP.out _ (by rw [HX.out]; first | rfl | exact congrArg (Value.int IntKind.u32) (ext_val2 x0 (sig0 x1) x9 (sig1 x14)))).drewN _, (HP3.out _).drewN _⟩
        · obtain rfl : j = 48 := by omega
          have hl64 : (extN (first16 bs) 48).length = 64 := sched_length bs
          have hs : extN (first16 bs) 48 = sched bs := rfl
          rw [hs] at hB hl64
          have hsz : (arr 64 (sched bs)).size = 64 := arr_size (by omega)
          have h1c := arr_one 64 (sched bs)
          have hsz0 : (arr 64 []).size = 64 := arr_size (by simp)
          generalize hout : arr 64 (sched bs) = out at *
          have HO := Lib.hid hout
          clear hout
          generalize arr 64 [] = nil64 at *
          clear hs hl64
          go_wp2_with (first
            | (with_reducible refine wpList_loadA (o := ⟨some 88, .load 71 (.tmp 3), _, _, _, none⟩) rfl 71 (.tmp 3) rfl (w.heap.size + 1) rfl hB rt71 hsz ?_)
            | (with_reducible refine wpList_storeA (o := ⟨none, .store 71 (.tmp 2) (.tmp 88), _, _, _, none⟩) rfl 71 (.tmp 2) (.tmp 88) rfl w.heap.size out rfl rfl hA rt71 hsz hsz0 h1c ?_))
          refine bodyPost_ret (v := .agg out) (results_arr (fn := Try.f41) (p := 2) Try.results41 _ w.heap.size (by rfl) (hA.row _) rt71 hsz) ?_ ?_
          · rfl
          · exact ⟨by rw [HO.out], hk.setRow (.inl (Nat.le_refl _)) _⟩
end Go.Proofs.Ythgfkepflpdalaa
