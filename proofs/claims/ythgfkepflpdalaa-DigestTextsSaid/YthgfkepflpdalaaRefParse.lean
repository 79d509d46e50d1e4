/- The document's Parse (25). -/
import Derived.Test.YthgfkepflpdalaaRefHex
import Derived.StillTailTactics
namespace Go.Proofs.Ythgfkepflpdalaa
open Go.RowKit

theorem rdg_bad {c : UInt8} (h : dgI c < 0) : bv (rdg c) = .int .u8 16 := by unfold rdg; rw [if_pos h]; rfl
theorem rdg_good {c : UInt8} (h : ¬ dgI c < 0) : ∃ m : Nat, bv (rdg c) = .int .u8 m ∧ m < 16 ∧ dg c = UInt8.ofNat m := by
  obtain ⟨m, rfl⟩ := good_hex c h
  have k : ∀ m : Fin 16, (rdg (hexD.getD m.val 0)).toNat = m.val ∧ dg (hexD.getD m.val 0) = UInt8.ofNat m.val := by decide +kernel
  exact ⟨m.val, by unfold bv; rw [(k m).1], m.isLt, (k m).2⟩
theorem nib2 (a b : Nat) (ha : a < 16) (hb : b < 16) : Value.int .u8 ((16 * (a : Int)) + b) = bv (UInt8.ofNat a <<< 4 ||| UInt8.ofNat b) := by
  have h : ∀ (a b : Fin 16), ((16 : Int) * (a.val : Int)) + (b.val : Int) = ((UInt8.ofNat a.val <<< 4 ||| UInt8.ofNat b.val).toNat : Int) := by decide +kernel
  exact congrArg (Value.int IntKind.u8) (h ⟨a, ha⟩ ⟨b, hb⟩)
theorem fill_set {L : List UInt8} (hL : L.length = 16) {i : Nat} (hi : i < 16) : (L.take i ++ List.replicate (16 - i) 0).set i (L.getD i 0) = L.take (i + 1) ++ List.replicate (16 - (i + 1)) 0 := by
  have h1 : i < L.length := by omega
  rw [List.set_append_right _ _ (by rw [List.length_take]; omega), List.take_succ_eq_append_getElem h1]
  simp only [List.length_take, Nat.min_eq_left (Nat.le_of_lt h1), Nat.sub_self, List.append_assoc]
  congr 1
  rw [show 16 - i = (16 - (i + 1)) + 1 by omega, List.replicate_succ, List.set_cons_zero]
  simp [List.getD_eq_getElem?_getD, List.getElem?_eq_getElem h1]

set_option maxRecDepth 100000 in
set_option maxHeartbeats 1600000 in
theorem rparse_any (w : World) (s : ByteArray) (bs : List UInt8) (hs : s.data.toList = bs) (hl : bs.length ≤ maxLen) :
    Calls Try.prog 25 #[.string s] w fun e w' => e = .returned (.tuple #[.agg (bcs (parseR bs).1).toArray, .agg #[.int .i64 (parseR bs).2.1, .int .i64 (parseR bs).2.2]]) ∧ Chg (fun _ => False) w w' := by
  have hsz : s.size = bs.length := by rw [← hs, Array.length_toList]; rfl
  have hmx : bs.length ≤ 9223372036854775807 := hl
  have hget : ∀ j (h : j < s.size), bs.getD j 0 = s[j] := by
    intro j h
    have : j < bs.length := by omega
    simp only [List.getD, List.getElem?_eq_getElem this, Option.getD_some]
    simp only [← hs, Array.getElem_toList]
    rfl
  obtain ⟨Z, hZ, hz23, hZn, hZ1⟩ : ∃ Z : Array Value, (bcs (List.replicate 16 0)).toArray = Z ∧ (∀ w, (zeroValue 23).run Try.prog w = .ok (.agg Z) w) ∧ Z.size = 16 ∧ Z.all (·.oneCell') = true := ⟨_, rfl, zero23, bcs_size (by simp), bcs_one _⟩
  have HZ := Lib.hid hZ
  clear hZ
  have A0 := (Blk.new w 23 Z).alloc (.cells #[.int .i64 0, .int .i64 0] 28)
  have A1 := Blk.newAt (w := w.alloc (.cells Z 23)) (t := 28) (cs := #[.int .i64 0, .int .i64 0]) (B := w.heap.size + 1) (by simp)
  have A3 := ((Chg.refl (fun _ => False) w).alloc (.cells Z 23)).alloc (.cells #[.int .i64 0, .int .i64 0] 28)
  go_enter Try.func25, Try.ntmps25
  go_wp2_with fail
  go_loopg [4] s.size (fun k i wr => ∃ j : Nat, j + k = s.size ∧ i = .int .i64 j ∧ (∀ l, l < j → ¬ dgI (bs.getD l 0) < 0) ∧
    Blk wr w.heap.size 23 Z ∧ Blk wr (w.heap.size + 1) 28 #[.int .i64 0, .int .i64 0] ∧ Chg (fun _ => False) w wr)
  case atStart => exact ⟨0, by simp, rfl, fun l h => by omega, A0, A1, A3⟩
  case round =>
    obtain ⟨j, hj, rfl, hg, b0, b1, hc⟩ := hrel
    have HG := Lib.hid hg
    clear hg A0 A1 A3
    by_cases h : j < s.size
    · have hc1 := hget j h
      have hwr : wrap64 ((j : Int) + 1) = (j : Int) + 1 := by unfold wrap64; omega
      have hdig := fun w' => digit_any w' s[j]
      by_cases hd : dgI s[j] < 0
      · have hbad := parse_bad (by omega) HG.out (by rw [hc1]; exact hd)
        have HB := Lib.hid hbad
        rw [rdg_bad hd] at hdig
        clear hbad hd hwr
        go_wp2_with (first
          | (go_at_call 35; refine (hdig _).mono ?_; rintro e w' ⟨rfl, rfl⟩)
          | ((with_reducible refine wpList_storeE (o := ⟨none, .store 23 (.tmp 2) (.tmp 18), _, _, _, none⟩) rfl 23 (.tmp 2) (.tmp 18) rfl w.heap.size Z rfl rfl 16 rt23 hZn hZ1 ?_ ?_); exact ⟨_, _, b0, hZn⟩; have nb := b1.row_far (g' := w.heap.size) (by omega) Z; have q0 := (nb.cell 0).trans rfl; have q1 := (nb.cell 1).trans rfl; have f0 := nb.frozen 0; have f1 := nb.frozen 1))
        refine bodyPost_ret (results_two (fn := Try.f25) (p := 2) (q := 3) Try.results25 _ w.heap.size (w.heap.size + 1) (by rfl) (by rfl) (((b0.row Z).far (by simp) _).far (by simp) _) ((nb.set_ 0 _).set_ 1 _) rt23 rt28 hZn rfl) rfl ?_
        rw [HB.out, HZ.out]
        exact ⟨rfl, ((hc.setRow (.inl (Nat.le_refl _)) _).setCell (.inl (by simp)) _).setCell (.inl (by simp)) _⟩
      · obtain ⟨m, hm, hm16, _⟩ := rdg_good hd
        rw [hm] at hdig
        have hne : (m : Int) ≠ 16 := by omega
        have hgood : ∀ l, l < j + 1 → ¬ dgI (bs.getD l 0) < 0 := by
          intro l hl
          rcases Nat.lt_or_eq_of_le (Nat.le_of_lt_succ hl) with h1 | h1
          · exact HG.out l h1
          · subst h1; rw [hc1]; exact hd
        have HG2 := Lib.hid hgood
        clear hgood hd hm
        go_wp2_with (first
          | (go_at_call 35; refine (hdig _).mono ?_; rintro e w' ⟨rfl, rfl⟩))
        go_roundg (s.size - (j + 1))
        case measure => omega
        case rel => exact ⟨j + 1, by omega, by simp, HG2.out, b0, b1, hc⟩
    · have hjs : j = bs.length := by omega
      subst hjs
      by_cases h32 : bs.length = 32
      · have hok := parse_ok HG.out h32
        rw [h32] at hok
        obtain ⟨wo, hwo⟩ : ∃ wo, wo = wr := ⟨_, rfl⟩
        subst hwo
        have hpl := pout_length bs 32
        have hpg := fun i hi => pout_get bs 32 (Nat.le_refl _) i hi
        generalize pout bs 32 = L at *
        have HB := Lib.hid hok
        have HPG := Lib.hid hpg
        clear hok hpg
        have c2 := Blk.new wo 23 Z
        have d0 := b0.alloc (.cells Z 23)
        have d1 := b1.alloc (.cells Z 23)
        have dc := hc.alloc (.cells Z 23)
        have hlw := hc.size
        have hl1 := b1.lt
        go_wp2_with fail
        go_loopg [6] 16 (fun k i wq => ∃ j : Nat, j + k = 16 ∧ i = .int .i64 j ∧ Blk wq w.heap.size 23 Z ∧ Blk wq (w.heap.size + 1) 28 #[.int .i64 0, .int .i64 0] ∧ Blk wq wo.heap.size 23 (bcs (L.take j ++ List.replicate (16 - j) 0)).toArray ∧ Chg (fun _ => False) w wq)
        case atStart =>
          refine ⟨0, rfl, rfl, d0, d1, ?_, dc⟩
          rw [List.take_zero, List.nil_append, HZ.out]
          exact c2
        case round =>
          obtain ⟨i, hi, rfl, b0, b1, b2, hc⟩ := hrel
          clear d0 d1 dc c2
          by_cases hi16 : i < 16
          · have hL := HPG.out i hi16
            rw [if_pos (by omega)] at hL
            obtain ⟨k1, hk1⟩ : ∃ k1, 2 * i = k1 := ⟨_, rfl⟩
            obtain ⟨k2, hk2⟩ : ∃ k2, k1 + 1 = k2 := ⟨_, rfl⟩
            rw [hk1, hk2] at hL
            have hs1 : k1 < s.size := by omega
            have hs2 : k2 < s.size := by omega
            have hb1 := hget k1 hs1
            have hb2 := hget k2 hs2
            obtain ⟨m1, e1, l1, g1⟩ := rdg_good (c := bs.getD k1 0) (by have := HG.out k1 (by omega); omega)
            obtain ⟨m2, e2, l2, g2⟩ := rdg_good (c := bs.getD k2 0) (by have := HG.out k2 (by omega); omega)
            rw [g1, g2] at hL
            rw [hb1] at e1
            rw [hb2] at e2
            have hd1 := fun w' => digit_any w' (s[k1]'hs1)
            have hd2 := fun w' => digit_any w' (s[k2]'hs2)
            rw [e1] at hd1
            rw [e2] at hd2
            have hd1 : ∀ w', Calls Try.prog 35 #[.int .u8 ((s[k1]'hs1).toNat : Int)] w' fun e w'' => e = .returned (.int .u8 (m1 : Int)) ∧ w' = w'' := hd1
            have hd2 : ∀ w', Calls Try.prog 35 #[.int .u8 ((s[k2]'hs2).toNat : Int)] w' fun e w'' => e = .returned (.int .u8 (m2 : Int)) ∧ w' = w'' := hd2
            have HL := Lib.hid hL
            clear hL g1 g2 e1 e2 hb1 hb2
            have i1 : IntKind.i64.wrap (2 * (i : Int)) = (k1 : Int) := by rw [IntKind.wrap_i64]; omega
            have i2 : IntKind.i64.wrap ((k1 : Int) + 1) = (k2 : Int) := by rw [IntKind.wrap_i64]; omega
            have i3 : (k1 : Int) < 32 := by omega
            have i4 : (k2 : Int) < 32 := by omega
            have i5 : IntKind.u8.wrap (16 * (m1 : Int)) = 16 * (m1 : Int) := by rw [IntKind.wrap_u8]; omega
            have i6 : IntKind.u8.wrap (16 * (m1 : Int) + (m2 : Int)) = 16 * (m1 : Int) + (m2 : Int) := by rw [IntKind.wrap_u8]; omega
            have hbl : (L.take i ++ List.replicate (16 - i) 0).length = 16 := by simp; omega
            have hcell : ∃ v, wr.cell? ⟨wo.heap.size, i, none⟩ = some v := by
              rw [b2.cell]
              exact ⟨_, Array.getElem?_eq_getElem (by rw [bcs_size hbl]; exact hi16)⟩
            obtain ⟨v0, hcell⟩ := hcell
            have hfz := b2.frozen i
            have hb3 := b2.set_ i (.int .u8 (16 * (m1 : Int) + (m2 : Int)))
            rw [nib2 m1 m2 l1 l2, ← HL.out, bcs_set, fill_set hpl hi16, HL.out, ← nib2 m1 m2 l1 l2] at hb3
            have hwi : wrap64 ((i : Int) + 1) = (i : Int) + 1 := by unfold wrap64; omega
            clear hk1 hk2 hbl
            clear hwi
            have hi16' : (i : Int) < 16 := by omega
            have HS1 := Lib.hid hs1
            have HS2 := Lib.hid hs2
            have HI := Lib.hid hi
            have HLW := Lib.hid hlw
            have HL1 := Lib.hid hl1
            clear hmx hget hsz hs hl hj hlw hl1 l1 l2 hi
            go_wp2_with fail
            refine wp_region_still_tail 15 (by kernel_rfl) (by kernel_rfl) ?_
            simp only [List.take_succ_cons, List.take_zero, List.drop_succ_cons, List.drop_zero]
            change wpStill _ _ wr.drew _ _ _
            repeat still_step
            still_call ((hd1 _).mono (by rintro e w' ⟨rfl, rfl⟩; exact ⟨rfl, rfl⟩))
            repeat still_step
            still_call ((hd2 _).mono (by rintro e w' ⟨rfl, rfl⟩; exact ⟨rfl, rfl⟩))
            repeat still_step
            try refine wpStill_nil ?_
            go_wp2_with fail
            go_roundg (16 - (i + 1))
            case measure => have := HI.out; omega
            case rel =>
              have h1 := HLW.out
              have h2 := HL1.out
              exact ⟨i + 1, by omega, by simp, (b0.far (by simp; omega) _), (b1.far (by simp; omega) _), hb3, (hc.setCell (.inl (by simp; omega)) _).drew⟩
          · have : i = 16 := by omega
            subst this
            rw [List.take_of_length_le (by omega), Nat.sub_self, List.replicate_zero, List.append_nil] at b2
            have hpn := bcs_size hpl
            have hpo := bcs_one L
            generalize hPP : (bcs L).toArray = PP at *
            have HPP := Lib.hid hPP
            clear hPP
            go_wp2_with (first
              | ((with_reducible refine wpList_loadE (o := ⟨some 48, .load 23 (.tmp 5), _, _, _, none⟩) rfl 23 (.tmp 5) rfl wo.heap.size rfl PP 16 rt23 hpn ?_ ?_); exact ⟨_, b2⟩)
              | ((with_reducible refine wpList_storeE (o := ⟨none, .store 23 (.tmp 2) (.tmp 48), _, _, _, none⟩) rfl 23 (.tmp 2) (.tmp 48) rfl w.heap.size PP rfl rfl 16 rt23 hpn hpo ?_ ?_); exact ⟨_, _, b0, hZn⟩; have nb := b1.row_far (g' := w.heap.size) (by omega) PP; have q0 := (nb.cell 0).trans rfl; have q1 := (nb.cell 1).trans rfl; have f0 := nb.frozen 0; have f1 := nb.frozen 1))
            refine bodyPost_ret (results_two (fn := Try.f25) (p := 2) (q := 3) Try.results25 _ w.heap.size (w.heap.size + 1) (by rfl) (by rfl) (((b0.row PP).far (by simp) _).far (by simp) _) ((nb.set_ 0 _).set_ 1 _) rt23 rt28 hpn rfl) rfl ?_
            rw [HB.out, HPP.out]
            exact ⟨rfl, ((hc.setRow (.inl (Nat.le_refl _)) _).setCell (.inl (by simp)) _).setCell (.inl (by simp)) _⟩
      · have hok := parse_len HG.out h32
        have HB := Lib.hid hok
        clear hok
        go_wp2_with (first
          | ((with_reducible refine wpList_storeE (o := ⟨none, .store 23 (.tmp 2) (.tmp 24), _, _, _, none⟩) rfl 23 (.tmp 2) (.tmp 24) rfl w.heap.size Z rfl rfl 16 rt23 hZn hZ1 ?_ ?_); exact ⟨_, _, b0, hZn⟩; have nb := b1.row_far (g' := w.heap.size) (by omega) Z; have q0 := (nb.cell 0).trans rfl; have q1 := (nb.cell 1).trans rfl; have f0 := nb.frozen 0; have f1 := nb.frozen 1))
        all_goals
          refine bodyPost_ret (results_two (fn := Try.f25) (p := 2) (q := 3) Try.results25 _ w.heap.size (w.heap.size + 1) (by rfl) (by rfl) (((b0.row Z).far (by simp) _).far (by simp) _) ((nb.set_ 0 _).set_ 1 _) rt23 rt28 hZn rfl) rfl ?_
          rw [HB.out, HZ.out]
          refine ⟨?_, ((hc.setRow (.inl (Nat.le_refl _)) _).setCell (.inl (by simp)) _).setCell (.inl (by simp)) _⟩
          first
          | (rw [show min (bs.length : Int) 32 = 32 by omega]; rfl)
          | (rw [show min (bs.length : Int) 32 = bs.length by omega]; rfl)
end Go.Proofs.Ythgfkepflpdalaa
