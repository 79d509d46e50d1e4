/- The digest of what was written: (*Digest).Sum (17). -/
import Derived.Test.YthgfkepflpdalaaSumLaw
namespace Go.Proofs.Ythgfkepflpdalaa
open Go.RowKit

theorem wpList_storeW {w : World} {ops : Array Oper} {rest : List Oper} {o : Oper} {a : Act} {Q : Exit → Act → World → Prop} (hgd : o.guard = none) (ty : TypeId) (x y : Operand) (ho : o.op = .store ty x y) (g : Nat) (cells : Array Value) (hx : a.eval x = .pointer (some ⟨g, 0, none⟩)) (hy : a.eval y = .agg cells)
    (n : Nat) (hT : RowTy ty n) (hn : cells.size = n) (h1 : cells.all (·.oneCell') = true) (t : TypeId) (hB : ∃ old, Blk w g t old ∧ old.size = n)
    (h : ∀ w', Blk w' g t cells → Chg (fun k => k = g) w w' → wpList Try.prog ops Q rest (a.put o.dst undef) w') : wpList Try.prog ops Q (o :: rest) a w := by
  obtain ⟨old, hB, ho2⟩ := hB
  exact wpList_storeA hgd ty x y ho g cells hx hy hB hT hn ho2 h1 (h _ (hB.row _) (Chg.setRow (S := fun k => k = g) (Chg.refl _ w) (.inr rfl) _))

/-- A digest that nobody made. -/
def zd : Array Value := (.bool false :: (List.replicate 8 (Value.int .u32 0) ++ (List.replicate 64 (Value.int .u8 0) ++ [.int .i64 0]))).toArray
theorem zero54 (w : World) : (zeroValue 54).run Try.prog w = .ok (.agg zd) w := by kernel_rfl

theorem one_byte {w : World} {v : Value} {b : UInt8} (h : v = bv b) : Rd (fun k => k = w.heap.size) (w.alloc (.cells #[v] 5)) (some ⟨w.heap.size, 0, none⟩) [b] := by
  subst h
  exact RdC.one _ 5
theorem pad_own {w : World} {n z : Nat} {B : Nat} {c : Array Value} (hB : B = w.heap.size) (hz : (119 - n % 64) % 64 = z) (hc : c = (bcs (128 :: List.replicate 79 0)).toArray) : OwnB 5 (w.alloc (.cells c 5)) (.slice (some ⟨B, 0, none⟩) (z + 1) 80) (padJ n 0) := by
  subst hc
  have hl : (padJ n 0).length = z + 1 := by rw [padJ_length, hz]; omega
  refine .inr ⟨B, 80, 128 :: List.replicate 79 0, by rw [hl], Blk.newAt hB, by simp, ?_, by simp [maxLen], by rw [hl]; omega⟩
  rw [hl]
  unfold padJ
  simp only [List.range_zero, List.map_nil, List.append_nil, hz, List.take_succ_cons, List.take_replicate]
  rw [Nat.min_eq_left (by omega)]

theorem lenb_val (n s : Nat) : Value.int .u8 (8 * (n : Int) / 2 ^ s % 256) = bv (lenb n s) := by
  unfold lenb
  rw [bv_b8]
  exact congrArg (Value.int IntKind.u8) (by rw [Int.natCast_emod, Int.natCast_ediv, Int.natCast_mul, Int.natCast_pow]; rfl)
theorem be4_cells' (x : W32) : (#[.int .u8 ((x.toNat : Int) / 16777216), .int .u8 ((x.toNat : Int) / 65536 % 256), .int .u8 ((x.toNat : Int) / 256 % 256), .int .u8 ((x.toNat : Int) % 256)] : Array Value) = (bcs (be4 x)).toArray := by
  have h := w_lt x
  have e : (x.toNat : Int) / 16777216 = (((x.toNat / 16777216) % 256 : Nat) : Int) := by omega
  simp only [bcs, be4, List.map_cons, List.map_nil, bv_b8]
  rw [e]
  simp only [Int.natCast_emod, Int.natCast_ediv]
  try rfl
theorem be4_src {w : World} {c : Array Value} {x : W32} (h : c = (bcs (be4 x)).toArray) : ∃ ad, some (⟨w.heap.size, 0, none⟩ : Addr) = some ad ∧ ∀ j v, (bcs (be4 x))[j]? = some v → (w.alloc (.cells c 5)).cell? (ad.add j) = some v := by
  subst h
  refine ⟨_, rfl, fun j v hv => ?_⟩
  rw [Addr.add_lit, Nat.zero_add, (Blk.new w 5 _).cell, List.getElem?_toArray]
  exact hv
set_option maxRecDepth 100000 in
set_option maxHeartbeats 4000000 in
theorem sum_any {w : World} {g : Nat} {xs : List UInt8} (hD : Dig w g xs) (hlen : xs.length ≤ 1099511627776) :
    Calls Try.prog 17 #[.pointer (some ⟨g, 0, none⟩)] w fun e w' => e = .returned (.agg (bcs (sumB xs)).toArray) ∧ Chg (fun _ => False) w w' := by
  have hg : g < w.heap.size := by
    obtain ⟨wt, _, _, hb⟩ := hD
    exact hb.lt
  have k0 := ((Chg.refl (fun _ => False) w).alloc (.cells (bcs (List.replicate 32 0)).toArray 39)).alloc (.cells (bcs (List.replicate 32 0)).toArray 39)
  have hD0 := hD.chg k0 (fun h => h)
  obtain ⟨wt, hw, ht, hb⟩ := hD
  have h0 : w.cell? ⟨g, 0, none⟩ = some (.bool true) := by rw [hb.cell]; rfl
  have cn := hb.cell 73
  rw [List.getElem?_toArray, digL_n _ hw] at cn
  have hdl := digL_length (runB xs (xs.length / 64)) hw xs.length
  have hds : (digL (runB xs (xs.length / 64)) wt xs.length).toArray.size = 74 := by simp [hdl]
  have hd1 : (digL (runB xs (xs.length / 64)) wt xs.length).toArray.all (·.oneCell') = true := by
    rw [Array.all_eq_true_iff_forall_mem]
    intro v hv
    rw [List.mem_toArray] at hv
    unfold digL at hv
    rcases List.mem_append.1 hv with hv | hv
    · simp at hv; rcases hv with rfl | rfl | rfl | rfl | rfl | rfl | rfl | rfl | rfl <;> rfl
    · rcases List.mem_append.1 hv with hv | hv
      · obtain ⟨b, _, rfl⟩ := List.mem_map.1 hv; rfl
      · simp at hv; subst hv; rfl
  generalize hcs : (digL (runB xs (xs.length / 64)) wt xs.length).toArray = cs at *
  generalize hn : xs.length = n at *
  obtain ⟨r, hr⟩ : ∃ r, n % 64 = r := ⟨_, rfl⟩
  obtain ⟨z, hz⟩ : ∃ z, (119 - r) % 64 = z := ⟨_, rfl⟩
  have hz64 : z < 64 := by omega
  have hr64 : (r : Int) < 64 := by omega
  have hrI : (n : Int) % 64 = (r : Int) := by omega
  have hzI : (119 - (r : Int)) % 64 = (z : Int) := by omega
  have hzb : (z : Int) < 64 := by omega
  have hmk : ∀ w : World, (Instr.makeSlice 25 (.int .i64 (1 + (z : Int))) (.int .i64 80)).run Try.prog w = .ok (.slice (some ⟨w.heap.size, 0, none⟩) (z + 1) 80) (w.alloc (.cells (bcs (List.replicate 80 0)).toArray 5)) := fun w => by
    have := make_pad w (z + 1) (by omega)
    rw [show (((z + 1 : Nat)) : Int) = 1 + (z : Int) by omega] at this
    exact this
  have HR := Lib.hid hr
  have HZ := Lib.hid hz
  clear hr hz
  obtain ⟨Z, hZ1, hZ2⟩ : ∃ Z : Array Value, Z.size = 74 ∧ ∀ w, (zeroValue 54).run Try.prog w = .ok (.agg Z) w := ⟨zd, rfl, zero54⟩
  go_enter Try.func17, Try.ntmps17
  go_wp2_with (first
    | ((with_reducible refine wpList_loadE (o := ⟨some 21, .load 54 (.tmp 20), _, _, _, none⟩) rfl 54 (.tmp 20) rfl g rfl cs 74 rt54 hds ?_ ?_); exact ⟨_, (hb.alloc _).alloc _⟩)
    | ((with_reducible refine wpList_storeW (o := ⟨none, .store 54 (.tmp 4) (.tmp 21), _, _, _, none⟩) rfl 54 (.tmp 4) (.tmp 21) rfl (w.heap.size + 1 + 1) cs rfl rfl 74 rt54 hds hd1 54 ?_ ?_); exact ⟨_, Blk.newAt (by simp), hZ1⟩; intro w1 hx1 k1; have hk1 := ((((Chg.refl (fun _ => False) w).alloc _).alloc _).alloc _).trans k1 (fun k hk he => by omega); have cn1 := hk1.cell cn (fun h => h)))
  have hown := Lib.hid (fun c hc => pad_own (w := w1) (n := n) (B := w1.heap.size) (z := z) (c := c) rfl (by rw [HR.out]; exact HZ.out) hc)
  obtain ⟨i5, hi5, hz5, hs5, hb5⟩ := info_parts info5'
  have hgw1 : w.heap.size ≤ w1.heap.size := hk1.size
  go_loopg [5, 6] 8 (fun k v i wr => ∃ j : Nat, (j + k ≤ 8 ∧ 8 ≤ j + k) ∧ i = .int .i64 (56 - 8 * (j : Int)) ∧ OwnB 5 wr v (padJ n j) ∧ (∀ b, v.ownBlock = some b → w1.heap.size ≤ b) ∧ Chg (fun _ => False) w1 wr)
  case atStart => exact ⟨0, ⟨by omega, by omega⟩, rfl, hown.out _ (by rfl), fun b hb => by simp [Value.ownBlock] at hb; omega, (Chg.refl _ w1).alloc _⟩
  case round =>
    obtain ⟨j, ⟨hj1, hj2⟩, rfl, hO, hf, hk⟩ := hrel
    by_cases hj : j < 8
    · have cnr := hk.cell cn1 (fun h => h)
      obtain ⟨s56, hs⟩ : ∃ s, 56 - 8 * j = s := ⟨_, rfl⟩
      have es : (56 : Int) - 8 * (j : Int) = (s56 : Int) := by omega
      have hs1 : (0 : Int) ≤ (s56 : Int) := by omega
      have hs2 : s56 ≤ 56 := by omega
      have hn8 : 8 * (n : Int) ≤ 9223372036854775807 := by omega
      have hn9 : 0 ≤ 8 * (n : Int) := by omega
      have hsn := Lib.hid (padJ_succ n j)
      rw [hs] at hsn
      have hpl := padJ_length n j
      have hq : (padJ n j).length + [lenb n s56].length ≤ 140737488355328 := by rw [hpl]; simp; omega
      have hss := Lib.hid (show (s56 : Int) - 8 = 56 - 8 * ((j : Int) + 1) by omega)
      rw [es]
      clear hs es hpl
      go_wp2_with (first
        | ((with_reducible refine wpList_append_bytes _ rfl (.tmp 37) (.tmp 46) 25 rfl 5 i5 Try.underlying25 hi5 hz5 hs5 hb5 u5 (padJ n j) rfl ?_ (some ⟨wr.heap.size, 0, none⟩) 1 [lenb n s56] rfl (D := fun k => k = wr.heap.size) ?_ hq ?_); exact hO.chg ((Chg.refl (fun _ => False) wr).alloc _) (fun _ _ h => h); exact one_byte (lenb_val n s56); intro v2 w2 hO2 hk2 ha2))
      go_roundg (gk - 1)
      case measure => omega
      case rel =>
        refine ⟨j + 1, ⟨by omega, by omega⟩, by rw [hss.out]; go_num, by rw [hsn.out]; exact hO2, fun b hb => ?_, (hk.alloc _).trans hk2 (fun b hb he => absurd (hf b he.symm) (by omega))⟩
        rcases ha2 with ha | ha
        · exact hf b (ha ▸ hb)
        · rw [hb] at ha
          have := hk.size
          simp at ha
          omega
    · obtain rfl : j = 8 := by omega
      obtain ⟨Ap, cp, rfl, hcp, hRp⟩ := hO.rd
      have hxlt := hx1.lt
      have hDx : Dig w1 (w.heap.size + 1 + 1) xs := by
        refine ⟨wt, hw, by rw [hn]; exact ht, ?_⟩
        rw [hn, hcs]
        exact hx1
      have hOut := ((Blk.newAt (w := w.alloc (.cells (bcs (List.replicate 32 0)).toArray 39)) (t := 39) (cs := (bcs (List.replicate 32 0)).toArray) (B := w.heap.size + 1) (by simp)).alloc (.cells Z 54)).chg k1 (by omega)
      have hRes := (((Blk.new w 39 (bcs (List.replicate 32 0)).toArray).alloc (.cells (bcs (List.replicate 32 0)).toArray 39)).alloc (.cells Z 54)).chg k1 (by omega)
      have hpl : (padJ n 8).length ≤ 72 := by rw [padJ_length]; omega
      have hxn : xs.length + (padJ n 8).length ≤ 4611686018427387904 := by rw [hn]; omega
      go_wp2_with (first
        | (go_at_call 16; refine (write_any (hDx.chg hk (fun h => h)) hRp (fun b hb he => by have := hf b hb; omega) hxn hcp).mono ?_; rintro e w5 ⟨rfl, hD5, k5⟩; obtain ⟨wt5, hw5, ht5, hb5⟩ := hD5; obtain ⟨st, hst⟩ : ∃ st, runB (xs ++ padJ n 8) ((xs ++ padJ n 8).length / 64) = st := ⟨_, rfl⟩; have HST := Lib.hid hst; rw [hst] at hb5; clear hst; obtain ⟨sa, sb, sc, sd, se, sf, sg, sh⟩ := st; obtain ⟨s1, s2, s3, s4, s5, s6, s7, s8⟩ := digL_s ⟨sa, sb, sc, sd, se, sf, sg, sh⟩ wt5 (xs ++ padJ n 8).length; simp only [← List.getElem?_toArray, ← hb5.cell, wv] at s1 s2 s3 s4 s5 s6 s7 s8))
      have hOut5 := (hOut.chg hk (fun h => h)).chg k5 (by omega)
      have hRes5 := (hRes.chg hk (fun h => h)).chg k5 (by omega)
      have hk5 : Chg (fun _ => False) w w5 := (hk1.trans hk (fun _ _ h => h)).trans k5 (fun b hb he => by omega)
      have hsum : sumB xs = stB ⟨sa, sb, sc, sd, se, sf, sg, sh⟩ := by
        rw [← HST.out, ← hn]
        rfl
      have HSUM := Lib.hid hsum
      rw [← outJ_zero ⟨sa, sb, sc, sd, se, sf, sg, sh⟩] at hOut5
      have hix := Lib.hid (fun j (hj : j < 8) w => index_st ⟨sa, sb, sc, sd, se, sf, sg, sh⟩ hj w)
      have hsl := Lib.hid (fun j (hj : j < 8) => outJ_splice ⟨sa, sb, sc, sd, se, sf, sg, sh⟩ hj)
      clear s1 s2 s3 s4 s5 s6 s7 s8 hsum hmk hb5 hD0 hx1 hDx hown
      unfold stv wv at hix
      go_loopg [7, 8, 52] 8 (fun k _ _ i wr => ∃ j : Nat, (j + k ≤ 8 ∧ 8 ≤ j + k) ∧ i = .int .i64 (j : Int) ∧ Blk wr w.heap.size 39 (bcs (List.replicate 32 0)).toArray ∧ Blk wr (w.heap.size + 1) 39 (bcs (outJ ⟨sa, sb, sc, sd, se, sf, sg, sh⟩ j)).toArray ∧ Chg (fun _ => False) w wr)
      case atStart => exact ⟨0, ⟨by omega, by omega⟩, rfl, hRes5, hOut5, hk5⟩
      case round =>
        obtain ⟨j, ⟨hj1, hj2⟩, rfl, hR, hO, hk⟩ := hrel
        by_cases hj : j < 8
        · have hxi := hix.out j hj
          have hsp := hsl.out j hj
          generalize (St.list ⟨sa, sb, sc, sd, se, sf, sg, sh⟩).getD j 0 = x at *
          obtain ⟨f4, h4⟩ : ∃ f, 4 * j = f := ⟨_, rfl⟩
          have h4i : 4 * (j : Int) = (f4 : Int) := by omega
          have h4b : (f4 : Int) ≤ 32 := by omega
          have h4c : f4 < 32 := by omega
          have h4d : ¬ 32 = f4 := by omega
          have hji : (j : Int) < 8 := by omega
          rw [h4] at hsp
          have HSP := Lib.hid hsp
          clear hsp h4
          have hol := HSP.out.2
          have hn1 : (bcs (be4 x)).length = Nat.min 4 (32 - f4) := by
            rw [bcs_length]
            show 4 = Nat.min 4 (32 - f4)
            exact (Nat.min_eq_left (by omega)).symm
          have hn2 : (bcs (be4 x)).length = 4 := by rw [bcs_length]; rfl
          have hfit : f4 + (bcs (be4 x)).length ≤ (bcs (outJ ⟨sa, sb, sc, sd, se, sf, sg, sh⟩ j)).length := by rw [hn2, bcs_length, hol]; omega
          have h1 : ∀ v ∈ bcs (be4 x), v.oneCell' = true := fun v hv => by
            obtain ⟨b, _, rfl⟩ := List.mem_map.1 hv
            rfl
          have hsq : splice (bcs (outJ ⟨sa, sb, sc, sd, se, sf, sg, sh⟩ j)) f4 (bcs (be4 x)) = bcs (splice (outJ ⟨sa, sb, sc, sd, se, sf, sg, sh⟩ j) f4 (be4 x)) := by simp [splice, bcs]
          rw [HSP.out.1] at hsq
          have hle := hk.size
          clear hol
          go_wp2_with (first
            | ((with_reducible refine wpList_copy_chg rfl (.tmp 58) (.tmp 70) 25 25 rfl 5 Try.underlying25 info5 (some ⟨w.heap.size + 1, f4, none⟩) (some ⟨wr.heap.size, 0, none⟩) (32 - f4) (32 - f4) 4 4 rfl rfl (w.heap.size + 1) f4 (bcs (outJ ⟨sa, sb, sc, sd, se, sf, sg, sh⟩ j)) 39 ?_ (bcs (be4 x)) hn1 ?_ hfit h1 ?_); exact hO.alloc _; exact fun _ => ⟨rfl, be4_src (be4_cells' x)⟩; rw [hn2, hsq]; intro w6 hb6 k6))
          have hk6 := (hk.alloc _).trans k6 (fun b hb he => by omega)
          have hR6 := (hR.alloc _).chg k6 (by omega)
          go_roundg (gk - 1)
          case measure => omega
          case rel => exact ⟨j + 1, ⟨by omega, by omega⟩, by go_num, hR6, hb6, hk6⟩
        · obtain rfl : j = 8 := by omega
          rw [outJ_full] at hO
          have hn32 : (bcs (stB ⟨sa, sb, sc, sd, se, sf, sg, sh⟩)).toArray.size = 32 := by simp [bcs, stB_length]
          have hn1 : (bcs (stB ⟨sa, sb, sc, sd, se, sf, sg, sh⟩)).toArray.all (·.oneCell') = true := by
            rw [Array.all_eq_true_iff_forall_mem]
            intro v hv
            rw [List.mem_toArray] at hv
            obtain ⟨b, _, rfl⟩ := List.mem_map.1 hv
            rfl
          generalize hout : (bcs (stB ⟨sa, sb, sc, sd, se, sf, sg, sh⟩)).toArray = out at *
          have HO := Lib.hid hout
          clear hout
          go_wp2_with (first
            | ((with_reducible refine wpList_loadE (o := ⟨some 73, .load 39 (.tmp 3), _, _, _, none⟩) rfl 39 (.tmp 3) rfl (w.heap.size + 1) rfl out 32 rt39 hn32 ?_ ?_); exact ⟨_, hO⟩)
            | ((with_reducible refine wpList_storeE (o := ⟨none, .store 39 (.tmp 2) (.tmp 73), _, _, _, none⟩) rfl 39 (.tmp 2) (.tmp 73) rfl w.heap.size out rfl rfl 32 rt39 hn32 hn1 ?_ ?_); exact ⟨_, _, hR, by simp [bcs]⟩))
          refine bodyPost_ret (v := .agg out) (results_arr (fn := Try.f17) (p := 2) Try.results17 _ w.heap.size (by rfl) (hR.row _) rt39 hn32) ?_ ?_
          · rfl
          · exact ⟨by rw [HSUM.out, HO.out], hk.setRow (.inl (Nat.le_refl _)) _⟩
end Go.Proofs.Ythgfkepflpdalaa
