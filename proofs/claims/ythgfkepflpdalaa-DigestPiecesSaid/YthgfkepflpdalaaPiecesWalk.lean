/- The walk of DigestPieces (4). -/
import Derived.Test.YthgfkepflpdalaaCut
import Derived.Test.YthgfkepflpdalaaKnownWalk
namespace Go.Proofs.Ythgfkepflpdalaa
open Go.RowKit

theorem piece_n (z : Int) : ∃ n : Nat, n < 130 ∧ (z.tmod 130 = (n : Int) ∨ (z.tmod 130 = -(n : Int) ∧ 0 < n)) := by
  have h1 := Int.tmod_lt_of_pos z (b := 130) (by decide)
  have h2 := Int.lt_tmod_of_pos z (b := 130) (by decide)
  by_cases h : z.tmod 130 < 0
  · exact ⟨(-(z.tmod 130)).toNat, by omega, .inr ⟨by omega, by omega⟩⟩
  · exact ⟨(z.tmod 130).toNat, by omega, .inl (by omega)⟩
theorem piece_take {bs ys : List UInt8} {p q : Nat} (hpq : p ≤ q) (hy : ys = (bs.take q).drop p) : bs.take p ++ ys = bs.take q := by
  have : bs.take p = (bs.take q).take p := by rw [List.take_take, Nat.min_eq_left hpq]
  rw [hy, this, List.take_append_drop]

theorem sum_some {w : World} {g : Nat} {xs : List UInt8} (hD : Dig w g xs) (hlen : xs.length ≤ 1000) :
    Calls Try.prog 17 #[.pointer (some ⟨g, 0, none⟩)] w fun e w' => ∃ v, e = .returned v ∧ Chg (fun _ => False) w w' :=
  (sum_any hD (Nat.le_trans hlen (by decide))).mono fun _ _ ⟨h, k⟩ => ⟨_, h, k⟩
theorem len_near {w : World} {g : Nat} {xs : List UInt8} (hD : Dig w g xs) : Calls Try.prog 19 #[.pointer (some ⟨g, 0, none⟩)] w fun e w' => e = .returned (.int .i64 (xs.length : Int)) ∧ Chg (fun _ => False) w w' :=
  (len_any hD).mono fun _ _ ⟨h, k⟩ => ⟨h, by subst k; exact Chg.refl _ _⟩
theorem write_rest {w wr : World} {g : Nat} {bs ys : List UInt8} {p : Nat} {A' : Option Addr} {c' : Nat} (hD : Dig wr g (bs.take p)) (hr : Rd (fun k => k < w.heap.size) wr A' ys) (hg : w.heap.size ≤ g) (hk : Chg (fun _ => False) w wr) (hy : ys = bs.drop p) (hl : bs.length ≤ 1000) (hc : ys.length ≤ c') :
    Calls Try.prog 16 #[.pointer (some ⟨g, 0, none⟩), .slice A' ys.length c'] wr fun e w' => e = .returned (.tuple #[]) ∧ Dig w' g bs ∧ Chg (fun _ => False) w w' := by
  have h1 : ys.length ≤ 1000 := by rw [hy, List.length_drop]; omega
  have h2 : (bs.take p).length ≤ 1000 := by rw [List.length_take]; omega
  refine (write_any hD hr (fun k hk he => by omega) (Nat.le_trans (Nat.add_le_add h2 h1) (by decide)) hc).mono ?_
  rintro e w' ⟨he, hd, hk'⟩
  rw [hy, List.take_append_drop] at hd
  exact ⟨he, hd, hk.trans hk' fun k hk he => by omega⟩
theorem write_piece {w wr : World} {g : Nat} {bs ys : List UInt8} {p q : Nat} {A' : Option Addr} {c' : Nat} (hD : Dig wr g (bs.take p)) (hr : Rd (fun k => k < w.heap.size) wr A' ys) (hg : w.heap.size ≤ g) (hk : Chg (fun _ => False) w wr) (hpq : p ≤ q) (hy : ys = (bs.take q).drop p) (hl : bs.length ≤ 1000) (hc : ys.length ≤ c') :
    Calls Try.prog 16 #[.pointer (some ⟨g, 0, none⟩), .slice A' ys.length c'] wr fun e w' => e = .returned (.tuple #[]) ∧ Dig w' g (bs.take q) ∧ Chg (fun _ => False) w w' := by
  have h1 : ys.length ≤ 1000 := by rw [hy, List.length_drop, List.length_take]; omega
  have h2 : (bs.take p).length ≤ 1000 := by rw [List.length_take]; omega
  refine (write_any hD hr (fun k hk he => by omega) (Nat.le_trans (Nat.add_le_add h2 h1) (by decide)) hc).mono ?_
  rintro e w' ⟨he, hd, hk'⟩
  rw [piece_take hpq hy] at hd
  exact ⟨he, hd, hk.trans hk' fun k hk he => by omega⟩

set_option maxRecDepth 100000 in
set_option maxHeartbeats 1600000 in
theorem digestPieces_any {w : World} {A B : Option Addr} {bs : List UInt8} {zs : List Int} {c d : Nat} (hr0 : Rd (fun k => k < w.heap.size) w A bs) (hc : bs.length ≤ c) (hz : RdC (fun k => k < w.heap.size) w B (nums zs)) (_hzl : zs.length ≤ maxLen) (hzb : ∀ z ∈ zs, -9223372036854775808 ≤ z ∧ z ≤ 9223372036854775807) :
    Calls Try.prog 4 #[.slice A bs.length c, .slice B zs.length d] w fun e w' => e = .returned (.bool true) ∧ Chg (fun _ => False) w w' := by
  by_cases hbig : 1000 < bs.length
  · go_enter Try.func4, Try.ntmps4
    go_wp2_with (go_at_call 3; refine (digestKnown_any _).mono ?_; rintro e w1 ⟨rfl, k1⟩)
    go_ret
    exact ⟨rfl, k1⟩
  by_cases hbig2 : 20 < zs.length
  · go_enter Try.func4, Try.ntmps4
    go_wp2_with (go_at_call 3; refine (digestKnown_any _).mono ?_; rintro e w1 ⟨rfl, k1⟩)
    go_ret
    exact ⟨rfl, k1⟩
  have hg1 : decide (1000 < (bs.length : Int)) = false := by simp; omega
  have hg2 : decide (20 < (zs.length : Int)) = false := by simp; omega
  go_enter Try.func4, Try.ntmps4
  go_wp2_with (first
    | (go_at_call 3; refine (digestKnown_any _).mono ?_; rintro e w1 ⟨rfl, k1⟩)
    | (go_at_call 15; refine (new_any _).mono ?_; rintro e w2 ⟨g, rfl, hg, hD, k2⟩; have K2 := nochg k1 k2; have hgw : w.heap.size ≤ g := Nat.le_trans k1.size hg))
  have hi1000 : bs.length ≤ 1000 := by omega
  have hi20 : zs.length ≤ 20 := by omega
  clear hbig hbig2 hg1 hg2
  go_loopg [7, 8, 9, 10] zs.length (fun k at_ i n to_ wr => ∃ j p : Nat, j + k = zs.length ∧ at_ = .int .i64 p ∧ i = .int .i64 j ∧ p ≤ bs.length ∧ Dig wr g (bs.take p) ∧ Chg (fun _ => False) w wr)
  case atStart => exact ⟨0, 0, by omega, rfl, rfl, by omega, by rw [List.take_zero]; exact hD, K2⟩
  case round =>
    obtain ⟨j, p, hj, rfl, rfl, hp, hD, hk⟩ := hrel
    by_cases h : j < zs.length
    · obtain ⟨ad, rfl, _, hcell⟩ := RdC.at_ hz (k := j) (by simpa [nums] using h)
      have hcell := hk.cell hcell (fun h => h)
      have hzj := hzb zs[j] (List.getElem_mem h)
      simp only [nums, List.getElem_map] at hcell
      generalize zs[j] = z at *
      obtain ⟨n, hn, hr⟩ := piece_n z
      have hR := hr0.chg hk (fun _ _ h => h)
      have hji : (j : Int) < (zs.length : Int) := by omega
      by_cases hq : p + n ≤ bs.length
      · rcases hr with hr | ⟨hr, hn0⟩
        all_goals
          go_wp2_with (first
            | ((with_reducible refine wpList_cut (o := ⟨some 52, .slice 25 (.tmp 49) (some (.tmp 50)) (some (.tmp 51)) none, _, _, _, none⟩) rfl (.tmp 49) (.tmp 50) (.tmp 51) rfl A bs c rfl hR hc p (p + n) rfl _ rfl ?_ ?_ ?_ ?_); omega; omega; omega; intro A' c' ys hys hRy hcy; have HYS := Lib.hid hys; clear hys)
            | (go_at_call 16; (with_reducible refine (write_piece (q := (p + n)) hD hRy hgw hk ?_ HYS.out hi1000 hcy).mono ?_); omega; rintro e wa ⟨rfl, hDa, ka⟩)
            | (go_at_call 17; (with_reducible refine (sum_some hDa ?_).mono ?_); (rw [List.length_take]; omega); rintro e wb ⟨v17, rfl, kb⟩; have hDb := hDa.chg kb (fun h => h); have kb := nochg ka kb))
          go_roundg (zs.length - (j + 1))
          case measure => omega
          case rel => exact ⟨j + 1, (p + n), by omega, by simp, by simp, by omega, hDb, kb⟩
      · rcases hr with hr | ⟨hr, hn0⟩
        all_goals
          go_wp2_with (first
            | ((with_reducible refine wpList_cut (o := ⟨some 52, .slice 25 (.tmp 49) (some (.tmp 50)) (some (.tmp 51)) none, _, _, _, none⟩) rfl (.tmp 49) (.tmp 50) (.tmp 51) rfl A bs c rfl hR hc p bs.length rfl _ rfl ?_ ?_ ?_ ?_); omega; omega; omega; intro A' c' ys hys hRy hcy; have HYS := Lib.hid hys; clear hys)
            | (go_at_call 16; (with_reducible refine (write_piece (q := bs.length) hD hRy hgw hk ?_ HYS.out hi1000 hcy).mono ?_); omega; rintro e wa ⟨rfl, hDa, ka⟩)
            | (go_at_call 17; (with_reducible refine (sum_some hDa ?_).mono ?_); (rw [List.length_take]; omega); rintro e wb ⟨v17, rfl, kb⟩; have hDb := hDa.chg kb (fun h => h); have kb := nochg ka kb))
          go_roundg (zs.length - (j + 1))
          case measure => omega
          case rel => exact ⟨j + 1, bs.length, by omega, rfl, by simp, by omega, hDb, kb⟩
    · have hR := hr0.chg hk (fun _ _ h => h)
      have hsum := fun w' k => digSum_any (w := w') (c := c) (hr0.chg (w' := w') (S := fun _ => False) k (fun _ _ h => h)) (fun k' h' => Nat.lt_of_lt_of_le h' k.size) hc (Nat.le_trans hi1000 (by decide))
      have hid := fun w' k => id_any (w := w') (c := c) (hr0.chg (w' := w') (S := fun _ => False) k (fun _ _ h => h)) (fun k' h' => Nat.lt_of_lt_of_le h' k.size) hc (Nat.le_trans hi1000 (by decide))
      have hdsum := fun w' (hD : Dig w' g bs) => sum_any hD (Nat.le_trans hi1000 (by decide))
      have hE := fun w' => eqB (w := w') 39 32 Try.underlying39 (sumB bs) (sumB bs) (sumB_length bs) (sumB_length bs)
      simp only [beq_self_eq_true] at hE
      have hn32 : (bcs (sumB bs)).toArray.size = 32 := by simp [bcs, sumB_length]
      have hn1 := bcs_one (sumB bs)
      have hm16 : (bcs ((sumB bs).take 16)).toArray.size = 16 := by simp [bcs, sumB_length]
      have hm1 := bcs_one ((sumB bs).take 16)
      have hget : ∀ i, i < 16 → ∃ x : Int, (bcs ((sumB bs).take 16)).toArray[i]? = some (.int .u8 x) ∧ (bcs (sumB bs)).toArray[i]? = some (.int .u8 x) := by
        intro i hi
        have hl := sumB_length bs
        have h1 : i < (sumB bs).length := by omega
        refine ⟨((sumB bs)[i]).toNat, ?_, ?_⟩
        · simp [bcs, bv, hi, h1]
        · simp [bcs, bv, h1]
      generalize (bcs ((sumB bs).take 16)).toArray = I at *
      generalize (bcs (sumB bs)).toArray = S at *
      go_wp2_with (first
        | ((with_reducible refine wpList_rest (o := ⟨some 60, .slice 25 (.tmp 58) (some (.tmp 59)) none none, _, _, _, none⟩) rfl (.tmp 58) (.tmp 59) rfl A bs c rfl hR hc p rfl hp ?_); intro A' c' ys hys hRy hcy; have HYS := Lib.hid hys; clear hys)
        | (go_at_call 16; (with_reducible refine (write_rest hD hRy hgw hk HYS.out hi1000 hcy).mono ?_); rintro e wa ⟨rfl, hDa, ka⟩)
        | (go_at_call 18; (with_reducible refine (hsum _ ka).mono ?_); rintro e wb ⟨rfl, kb⟩; have hDb := hDa.chg kb (fun h => h); have kb := nochg ka kb)
        | ((with_reducible refine wpList_storeW (o := ⟨none, .store 39 (.tmp 11) (.tmp 63), _, _, _, none⟩) rfl 39 (.tmp 11) (.tmp 63) rfl wb.heap.size S rfl rfl 32 rt39 hn32 hn1 39 ?_ ?_); exact ⟨_, Blk.new wb 39 _, rfl⟩; intro wc hS kc; have kc' := ((Chg.refl (fun _ => False) wb).alloc _).trans kc (fun k hk he => by omega); have hDc := hDb.chg kc' (fun h => h); have kc := nochg kb kc')
        | (go_at_call 10; (with_reducible refine (hid _ kc).mono ?_); rintro e wd ⟨rfl, kd⟩; have hDd := hDc.chg kd (fun h => h); have hS := hS.chg kd (fun h => h); have kd := nochg kc kd)
        | ((with_reducible refine wpList_storeW (o := ⟨none, .store 23 (.tmp 12) (.tmp 65), _, _, _, none⟩) rfl 23 (.tmp 12) (.tmp 65) rfl wd.heap.size I rfl rfl 16 rt23 hm16 hm1 23 ?_ ?_); exact ⟨_, Blk.new wd 23 _, rfl⟩; intro we hI ke; have ke' := ((Chg.refl (fun _ => False) wd).alloc _).trans ke (fun k hk he => by omega); have hDe := hDd.chg ke' (fun h => h); have hS := hS.chg ke' (fun h => h); have ke := nochg kd ke'))
      go_loopg [13] 16 (fun k i wq => ∃ j : Nat, j + k = 16 ∧ i = .int .i64 j ∧ Chg (fun _ => False) we wq)
      case atStart => exact ⟨0, by omega, rfl, Chg.refl _ _⟩
      case round =>
        obtain ⟨j, hj, rfl, hq⟩ := hrel
        by_cases hj16 : j < 16
        · have hj16i : (j : Int) < 16 := by omega
          have hj32i : (j : Int) < 32 := by omega
          obtain ⟨x, hx1, hx2⟩ := hget j hj16
          have cI := (hI.chg hq (fun h => h)).cell j
          have cS := (hS.chg hq (fun h => h)).cell j
          rw [hx1] at cI
          rw [hx2] at cS
          go_wp2_with fail
          go_quiet (fail)
          go_wp2_with fail
          go_roundg (16 - (j + 1))
          case measure => omega
          case rel => exact ⟨j + 1, by omega, by simp, hq.drewN _⟩
        · obtain rfl : j = 16 := by omega
          have hS := hS.chg hq (fun h => h)
          have hDq := hDe.chg hq (fun h => h)
          go_wp2_with fail
          refine wp_region_near (by kernel_rfl) (by kernel_rfl) ?_
          repeat (first
            | ((with_reducible refine wpQuiet_loadA (o := ⟨some 81, .load 39 (.tmp 11), _, _, _, _⟩) ?_ 39 (.tmp 11) rfl wb.heap.size rfl S 32 rt39 hn32 ?_ ?_); rfl; exact ⟨_, hS⟩)
            | quiet_step (first
                | (go_at_call 17; with_reducible exact near_of (hdsum _ (hDq.chg (Near.h _) (fun h => h))))
                | (go_at_call 19; with_reducible exact near_of (len_near (hDq.chg (Near.h _) (fun h => h))))))
          refine wpQuiet_nil ?_
          rintro _ ⟨q, rfl⟩
          go_wp2_with fail
          go_ret
          exact ⟨rfl, nochg (nochg ke hq) q.h⟩
end Go.Proofs.Ythgfkepflpdalaa
