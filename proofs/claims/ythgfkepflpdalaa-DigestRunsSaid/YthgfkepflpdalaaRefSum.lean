/- The digest of bytes: the document's Sum (21). -/
import Derived.Test.YthgfkepflpdalaaRefFill
import Derived.Test.YthgfkepflpdalaaRefStep
import Derived.Test.YthgfkepflpdalaaDSum
namespace Go.Proofs.Ythgfkepflpdalaa
open Go.RowKit

theorem rd_mid {D : Nat → Prop} {w : World} {ad : Addr} {bs : List UInt8} (h : Rd D w (some ad) bs) (p n : Nat) : Rd D w (some (ad.add p)) ((bs.drop p).take n) := by
  intro h0
  rw [bcs_length, List.length_take, List.length_drop] at h0
  obtain ⟨ad', e, hD, hcell⟩ := h (by rw [bcs_length]; omega)
  cases e
  refine ⟨_, rfl, by rw [block_of_add]; exact hD, fun j u hu => ?_⟩
  rw [Go.Deep.add_add]
  refine hcell _ _ ?_
  rw [← hu]
  have hj : j < ((bs.drop p).take n).length := by have := (List.getElem?_eq_some_iff.1 hu).1; rwa [bcs_length] at this
  rw [List.length_take, List.length_drop] at hj
  simp only [bcs, List.getElem?_map, List.getElem?_drop, List.getElem?_take]
  rw [if_pos (by omega)]
theorem fill_setN {N : Nat} {L : List UInt8} (hL : L.length = N) {i : Nat} (hi : i < N) : (L.take i ++ List.replicate (N - i) 0).set i (L.getD i 0) = L.take (i + 1) ++ List.replicate (N - (i + 1)) 0 := by
  have h1 : i < L.length := by omega
  rw [List.set_append_right _ _ (by rw [List.length_take]; omega), List.take_succ_eq_append_getElem h1]
  simp only [List.length_take, Nat.min_eq_left (Nat.le_of_lt h1), Nat.sub_self, List.append_assoc]
  congr 1
  rw [show N - i = (N - (i + 1)) + 1 by omega, List.replicate_succ, List.set_cons_zero]
  simp [List.getD_eq_getElem?_getD, List.getElem?_eq_getElem h1]
theorem bcs_put {L : List UInt8} {i : Nat} {b : UInt8} : (bcs L).toArray.setIfInBounds i (bv b) = (bcs (L.set i b)).toArray := by
  rw [List.setIfInBounds_toArray]; simp [bcs, List.map_set]
theorem pad_whole (n : Nat) : (n + (padL n).length) % 64 = 0 := by
  unfold padL; rw [padJ_length]; omega
theorem be4_get (x : W32) {r : Nat} (hr : r < 4) : (be4 x).getD r 0 = b8 (x.toNat / 2 ^ (24 - 8 * r)) := by
  rcases (by omega : r = 0 ∨ r = 1 ∨ r = 2 ∨ r = 3) with rfl | rfl | rfl | rfl
  · rfl
  · rfl
  · rfl
  · simp [be4]
theorem stB_get (s : St) {q r : Nat} (hq : q < 8) (hr : r < 4) : (stB s).getD (4 * q + r) 0 = b8 ((s.list.getD q 0).toNat / 2 ^ (24 - 8 * r)) := by
  rw [← be4_get _ hr]
  rcases (by omega : q = 0 ∨ q = 1 ∨ q = 2 ∨ q = 3 ∨ q = 4 ∨ q = 5 ∨ q = 6 ∨ q = 7) with rfl | rfl | rfl | rfl | rfl | rfl | rfl | rfl <;>
    rcases (by omega : r = 0 ∨ r = 1 ∨ r = 2 ∨ r = 3) with rfl | rfl | rfl | rfl <;> rfl
theorem shift_val (x n : Nat) : Value.int .u8 ((x : Int) / 2 ^ n % 256) = bv (b8 (x / 2 ^ n)) := by
  rw [bv_b8]
  exact congrArg (Value.int IntKind.u8) (by rw [Int.natCast_emod, Int.natCast_ediv, Int.natCast_pow]; rfl)
theorem blk8 {w : World} {g t : Nat} {a b c d e f g' h : W32} (hB : Blk w g t (stv ⟨a, b, c, d, e, f, g', h⟩)) :
    w.cell? ⟨g, 0, none⟩ = some (.int .u32 (a.toNat : Int)) ∧ w.cell? ⟨g, 1, none⟩ = some (.int .u32 (b.toNat : Int)) ∧ w.cell? ⟨g, 2, none⟩ = some (.int .u32 (c.toNat : Int)) ∧ w.cell? ⟨g, 3, none⟩ = some (.int .u32 (d.toNat : Int)) ∧
    w.cell? ⟨g, 4, none⟩ = some (.int .u32 (e.toNat : Int)) ∧ w.cell? ⟨g, 5, none⟩ = some (.int .u32 (f.toNat : Int)) ∧ w.cell? ⟨g, 6, none⟩ = some (.int .u32 (g'.toNat : Int)) ∧ w.cell? ⟨g, 7, none⟩ = some (.int .u32 (h.toNat : Int)) :=
  ⟨hB.cell 0, hB.cell 1, hB.cell 2, hB.cell 3, hB.cell 4, hB.cell 5, hB.cell 6, hB.cell 7⟩
/-- Eight words are stored. -/
def st0 (w : World) (g : Nat) (a b c d e f g' h : W32) : World := ((((((((w.setCell ⟨g, 0, none⟩ (.int .u32 (a.toNat : Int))).setCell ⟨g, 1, none⟩ (.int .u32 (b.toNat : Int))).setCell ⟨g, 2, none⟩ (.int .u32 (c.toNat : Int))).setCell ⟨g, 3, none⟩ (.int .u32 (d.toNat : Int))).setCell ⟨g, 4, none⟩ (.int .u32 (e.toNat : Int))).setCell ⟨g, 5, none⟩ (.int .u32 (f.toNat : Int))).setCell ⟨g, 6, none⟩ (.int .u32 (g'.toNat : Int))).setCell ⟨g, 7, none⟩ (.int .u32 (h.toNat : Int)))
theorem stv_state (s : St) (a b c d e f g' h : W32) : (((((((((stv s).setIfInBounds 0 (wv a)).setIfInBounds 1 (wv b)).setIfInBounds 2 (wv c)).setIfInBounds 3 (wv d)).setIfInBounds 4 (wv e)).setIfInBounds 5 (wv f)).setIfInBounds 6 (wv g')).setIfInBounds 7 (wv h)) = stv ⟨a, b, c, d, e, f, g', h⟩ := by
  simp only [stv, List.setIfInBounds_toArray]
  rfl
theorem st0_blk {w : World} {g t : Nat} {s : St} (hb : Blk w g t (stv s)) (a b c d e f g' h : W32) : Blk (st0 w g a b c d e f g' h) g t (stv ⟨a, b, c, d, e, f, g', h⟩) := by
  rw [← stv_state s]
  exact ((((((((hb.set_ 0 _).set_ 1 _).set_ 2 _).set_ 3 _).set_ 4 _).set_ 5 _).set_ 6 _).set_ 7 _)
theorem st0_chg (w : World) (g : Nat) (a b c d e f g' h : W32) : Chg (fun k => k = g) w (st0 w g a b c d e f g' h) := ((((((((Chg.refl (fun k => k = g) w).setCell (.inr rfl) _).setCell (.inr rfl) _).setCell (.inr rfl) _).setCell (.inr rfl) _).setCell (.inr rfl) _).setCell (.inr rfl) _).setCell (.inr rfl) _).setCell (.inr rfl) _
theorem iv_cells : (#[.int .u32 1779033703, .int .u32 3144134277, .int .u32 1013904242, .int .u32 2773480762, .int .u32 1359893119, .int .u32 2600822924, .int .u32 528734635, .int .u32 1541459225] : Array Value) = stv IV := by kernel_rfl

set_option maxRecDepth 100000 in
set_option maxHeartbeats 1600000 in
theorem rsum_any {D : Nat → Prop} {w : World} {A : Option Addr} {bs : List UInt8} {c : Nat} (hr : Rd D w A bs) (hl : bs.length ≤ 1048576) :
    Calls Try.prog 21 #[.slice A bs.length c] w fun e w' => e = .returned (.agg (bcs (sumB bs)).toArray) ∧ Chg (fun _ => False) w w' := by
  obtain ⟨Z, hZ, hz39, hZn⟩ : ∃ Z : Array Value, (bcs (List.replicate 32 0)).toArray = Z ∧ (∀ w, (zeroValue 39).run Try.prog w = .ok (.agg Z) w) ∧ Z.size = 32 := ⟨_, rfl, (fun w => by kernel_rfl), by kernel_rfl⟩
  have HZ := Lib.hid hZ
  clear hZ
  have a0 := Blk.new w 39 Z
  obtain ⟨V, hV⟩ : ∃ V, V = stv IV := ⟨_, rfl⟩
  have hV8 : V.size = 8 := by rw [hV]; rfl
  have hV1 : V.all (·.oneCell') = true := by rw [hV]; exact stv_one _
  have hVi := iv_cells
  rw [← hV] at hVi
  have HV := Lib.hid hV
  have HVi := Lib.hid hVi
  clear hV hVi
  go_enter Try.func21, Try.ntmps21
  go_wp2_with (first
    | ((with_reducible refine wpList_storeW (o := ⟨none, .store 50 (.tmp 3) (.tmp 8), _, _, _, none⟩) rfl 50 (.tmp 3) (.tmp 8) rfl (w.heap.size + 1) V rfl ?_ 8 rt50 hV8 hV1 50 ?_ ?_); (exact congrArg Value.agg HVi.out); exact ⟨_, Blk.newAt (by simp), rfl⟩; intro w1 b1 k1; have K1 := (((Chg.refl (fun _ => False) w).alloc (.cells Z 39)).alloc _).trans k1 (fun k hk he => by omega); have a1 := (a0.alloc _).chg k1 (by omega))
    | (go_at_call 32; (with_reducible refine (fill_any (hr.chg K1 (fun _ _ h => h)) hl).mono ?_); rintro e w2 ⟨v, rfl, hO, hg, k2⟩; have K2 := nochg K1 k2; have a2 := a1.chg k2 (fun h => h); have b2 := b1.chg k2 (fun h => h)))
  have hl1 := b1.lt
  have hpad := pad_whole bs.length
  rw [← List.length_append] at hpad
  have hX0 : 0 < (bs ++ padL bs.length).length := by rw [List.length_append]; unfold padL; rw [padJ_length]; omega
  have hXl : (bs ++ padL bs.length).length ≤ 1048776 := by rw [List.length_append]; unfold padL; rw [padJ_length]; omega
  have hsum := Lib.hid (show sumB bs = stB (runB (bs ++ padL bs.length) ((bs ++ padL bs.length).length / 64)) from rfl)
  generalize bs ++ padL bs.length = X at *
  obtain ⟨A', c', hv, hcp, hRX⟩ := hO.rd
  obtain ⟨ad, hA'⟩ : ∃ ad, A' = some ad := (RdC.at_ hRX (k := 0) (by rw [bcs_length]; omega)).imp fun _ h => h.1
  subst hA'
  have hgX : ∀ k, v.ownBlock = some k → k ≠ w.heap.size + 1 := fun k h he => by have := hg k h; omega
  generalize hDX : (fun k => v.ownBlock = some k) = DX at *
  have hDX' : ∀ k, DX k → k ≠ w.heap.size + 1 := fun k h => hgX k (by rw [← hDX] at h; exact h)
  subst hv
  clear hgX hDX hg hO hV8 hV1
  obtain ⟨M, hM⟩ : ∃ M, X.length / 64 = M := ⟨_, rfl⟩
  have hXM : X.length = 64 * M := by omega
  rw [hXM]
  have hbV : Blk w2 (w.heap.size + 1) 50 (stv (runB X 0)) := by rw [show runB X 0 = IV from rfl, ← HV.out]; exact b2
  go_loopg [5] M (fun k at_ wr => ∃ m : Nat, m + k = M ∧ at_ = .int .i64 (64 * (m : Int)) ∧ Blk wr (w.heap.size + 1) 50 (stv (runB X m)) ∧ Chg (fun k => k = w.heap.size + 1) w2 wr)
  case atStart => exact ⟨0, by omega, by simp, hbV, Chg.refl _ _⟩
  case round =>
    obtain ⟨m, hm, rfl, hB, hk⟩ := hrel
    by_cases hmM : m < M
    · have hR := rd_mid (hRX.chg hk hDX') (64 * m) 64
      have hRl : ((X.drop (64 * m)).take 64).length = 64 := by rw [List.length_take, List.length_drop]; omega
      have hnx := Lib.hid (show runB X (m + 1) = (runB X m).next ((X.drop (64 * m)).take 64) from rfl)
      generalize (X.drop (64 * m)).take 64 = ys at *
      obtain ⟨p, hp⟩ : ∃ p, 64 * m = p := ⟨_, rfl⟩
      have hpi : 64 * (m : Int) = (p : Int) := by omega
      have hp1 : p + 64 ≤ 64 * M := by omega
      rw [hp] at hR
      rw [hpi]
      have hst := fun w' (k : Chg (fun _ => False) wr w') => step_any (w := w') (c := c' - p) (hR.chg k (fun _ _ h => h)) hRl (runB X m)
      have HP := Lib.hid hpi
      generalize runB X m = st at *
      generalize hnn : st.next ys = nx at *
      have hs8 := stv_one st
      obtain ⟨sa, sb, sc, sd, se, sf, sg, sh⟩ := st
      obtain ⟨na, nb, nc, nd, ne, nf, ng, nh⟩ := nx
      obtain ⟨s1, s2, s3, s4, s5, s6, s7, s8⟩ := blk8 hB
      simp only [stv, wv] at hst
      have hn63 : (p : Int) + 64 ≤ 9223372036854775807 := by omega
      have hpc : (p : Int) + 64 ≤ (c' : Int) := by omega
      have hp0 : (0 : Int) ≤ (p : Int) := by omega
      have hpq : (p : Int) ≤ (p : Int) + 64 := by omega
      have hw64 : IntKind.i64.wrap ((p : Int) + 64) = (p : Int) + 64 := by rw [IntKind.wrap_i64]; omega
      have ht64 : ((p : Int) + 64).toNat = p + 64 := by omega
      have hcp' : ¬ c' = p := by omega
      have hml : (p : Int) < 64 * (M : Int) := by omega
      go_wp2_with fail
      go_region_with ((go_at_call 33; (with_reducible refine (hst _ (nodrew wr)).mono ?_); rintro e w5 ⟨rfl, k5⟩; have hk5 := nochg (nodrew wr) k5; have hb5 := hB.chg hk5 (fun h => h); obtain ⟨d1, d2, d3, d4, d5, d6, d7, d8⟩ := blk8 hb5; have fz := hb5.frozen))
      have hb6 := st0_blk hb5 na nb nc nd ne nf ng nh
      have hk6 := (hk.trans hk5 (fun _ _ h => h.elim)).trans (st0_chg w5 (w.heap.size + 1) na nb nc nd ne nf ng nh) (fun _ _ h => h)
      rw [← hnx.out] at hb6
      have HB6 := Lib.hid hb6
      clear s1 s2 s3 s4 s5 s6 s7 s8 d1 d2 d3 d4 d5 d6 d7 d8 fz hw64 ht64 hcp' hb5 hB hb6 hst hnx
      unfold st0 at HB6 hk6
      go_wp2_with fail
      go_roundg (M - (m + 1))
      case measure => omega
      case rel => exact ⟨m + 1, by omega, by rw [← HP.out]; simp; omega, HB6.out, hk6⟩
    · have hmM' : m = M := by omega
      subst hmM'
      have hL := hsum.out
      rw [hM] at hL
      clear hX0 hXl hXM hM hpad hRX hbV a1 b1 b2
      generalize runB X m = st at *
      have HL := Lib.hid hL
      have hLl := stB_length st
      have hLg := Lib.hid (fun q r hq hr => stB_get st (q := q) (r := r) hq hr)
      have hO1 := bcs_one (stB st)
      have hO32 : (bcs (stB st)).toArray.size = 32 := by simp [bcs, hLl]
      generalize stB st = L at *
      clear hL
      obtain ⟨wo, hwo⟩ : ∃ wo, wo = wr := ⟨_, rfl⟩
      subst hwo
      have ho2 := a2.chg hk (by omega)
      have c2 := Blk.new wo 39 Z
      have hwl := hB.lt
      have kw : Chg (fun _ => False) w wo := K2.trans hk fun k hk he => by omega
      go_wp2_with fail
      go_loopg [7] 32 (fun k i wq => ∃ j : Nat, j + k = 32 ∧ i = .int .i64 j ∧ Blk wq wo.heap.size 39 (bcs (L.take j ++ List.replicate (32 - j) 0)).toArray ∧ Chg (fun _ => False) wo wq)
      case atStart => exact ⟨0, rfl, rfl, by rw [List.take_zero, List.nil_append, HZ.out]; exact c2, (Chg.refl _ wo).alloc _⟩
      case round =>
        obtain ⟨j, hj, rfl, hb, hq⟩ := hrel
        by_cases hj32 : j < 32
        · obtain ⟨q, hq0⟩ : ∃ q, j / 4 = q := ⟨_, rfl⟩
          obtain ⟨r, hr0⟩ : ∃ r, j % 4 = r := ⟨_, rfl⟩
          obtain ⟨s24, hs0⟩ : ∃ s, 24 - 8 * r = s := ⟨_, rfl⟩
          have hq8 : q < 8 := by omega
          have hr4 : r < 4 := by omega
          have cq := (hB.chg hq (fun h => h)).cell q
          rw [st_get st hq8] at cq
          have hLj := hLg.out q r hq8 hr4
          rw [hs0, show 4 * q + r = j by omega] at hLj
          generalize st.list.getD q 0 = x at *
          simp only [wv] at cq
          have e1 : (j : Int) / 4 = (q : Int) := by omega
          have e2 : (j : Int) % 4 = (r : Int) := by omega
          have e3 : (24 : Int) - 8 * (r : Int) = (s24 : Int) := by omega
          have e4 : (0 : Int) ≤ (s24 : Int) := by omega
          have e5 : (q : Int) < 8 := by omega
          have e6 : (j : Int) < 32 := by omega
          have e7 : s24 ≤ 24 := by omega
          have hb3 := hb.set_ j (bv (b8 (x.toNat / 2 ^ s24)))
          rw [bcs_put, ← hLj, fill_setN hLl hj32, hLj, ← shift_val] at hb3
          have hbl : (L.take j ++ List.replicate (32 - j) 0).length = 32 := by simp; omega
          obtain ⟨v0, hv0⟩ : ∃ v, wr.cell? ⟨wo.heap.size, j, none⟩ = some v := by
            rw [hb.cell]
            exact ⟨_, Array.getElem?_eq_getElem (by rw [List.size_toArray, bcs_length, hbl]; exact hj32)⟩
          have hfz := hb.frozen j
          have hk3 := hq.setCell (p := ⟨wo.heap.size, j, none⟩) (.inl (Nat.le_refl _)) (.int .u8 ((x.toNat : Int) / 2 ^ s24 % 256))
          clear hq0 hr0 hs0 hLj
          go_wp2_with fail
          go_roundg (32 - (j + 1))
          case measure => omega
          case rel => exact ⟨j + 1, by omega, by simp, hb3, hk3⟩
        · obtain rfl : j = 32 := by omega
          rw [List.take_of_length_le (by omega), Nat.sub_self, List.replicate_zero, List.append_nil] at hb
          have ho3 := ho2.chg hq (fun h => h)
          generalize hPP : (bcs L).toArray = PP at *
          have HPP := Lib.hid hPP
          clear hPP
          go_wp2_with (first
            | ((with_reducible refine wpList_loadE (o := ⟨some 40, .load 39 (.tmp 6), _, _, _, none⟩) rfl 39 (.tmp 6) rfl wo.heap.size rfl PP 32 rt39 hO32 ?_ ?_); exact ⟨_, hb⟩)
            | ((with_reducible refine wpList_storeE (o := ⟨none, .store 39 (.tmp 2) (.tmp 40), _, _, _, none⟩) rfl 39 (.tmp 2) (.tmp 40) rfl w.heap.size PP rfl rfl 32 rt39 hO32 hO1 ?_ ?_); exact ⟨_, _, ho3, hZn⟩))
          refine bodyPost_ret (v := .agg PP) (results_arr (fn := Try.f21) (p := 2) Try.results21 _ w.heap.size (by rfl) (ho3.row _) rt39 hO32) ?_ ?_
          · rfl
          · exact ⟨by rw [HL.out, HPP.out], (nochg kw hq).setRow (.inl (Nat.le_refl _)) _⟩
end Go.Proofs.Ythgfkepflpdalaa
