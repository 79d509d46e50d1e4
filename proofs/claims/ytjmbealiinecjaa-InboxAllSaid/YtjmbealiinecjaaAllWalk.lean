import Derived.Test.YtjmbealiinecjaaAllBase
namespace Go.Proofs.Ytjmbealiinecjaa
open Go.RowKit

set_option maxRecDepth 100000 in
set_option maxHeartbeats 1600000 in
theorem inboxAll_any {w : World} {A Aw : Option Addr} {l : List (List UInt8)} {wh : List Int} {c cw : Nat} (sz : Int) (h : Lists w w.heap.size A l) (hn : l.length ≤ c) (hcm : c ≤ 9223372036854775807) (hwi : Ints w w.heap.size Aw wh) (hwn : wh.length ≤ 9223372036854775807) :
    Calls Try.prog 6 #[.int .i64 sz, .slice A l.length c, .slice Aw wh.length cw] w fun e w' => e = .returned (.bool true) ∧ Chg (fun _ => False) w w' := by
  go_enter Try.func6, Try.ntmps6
  go_wp2_with fail
  refine (awake_any w).mono ?_
  rintro e w1 ⟨rfl, k1⟩
  have h1 := h.chg k1 (fun _ _ h => h)
  go_upto_block 0 with fail
  go_cut [8] (fun s w2 => w2 = w1 ∧ s = .int .i64 (sumL (l.take 61)))
  case first =>
    go_wp2_with fail
    go_loopg [8, 9] l.length (fun k s i wr => ∃ j : Nat, (j + k ≤ l.length ∧ l.length ≤ j + k) ∧ j ≤ 61 ∧ i = .int .i64 j ∧ s = .int .i64 (sumL (l.take j)) ∧ wr = w1)
    case atStart => exact ⟨0, ⟨by omega, by omega⟩, by omega, rfl, rfl, rfl⟩
    case round =>
      obtain ⟨j, ⟨hj1, hj2⟩, hj3, rfl, rfl, rfl⟩ := hrel
      have hs0 := sumL_le h.2 j (by omega)
      have hs1 : sumL (l.take j) ≤ 42361984000000000 := by omega
      by_cases h2 : j < l.length
      · by_cases h3 : j < 61
        · have e2 : decide ((j : Int) < 61) = true := by simp; omega
          obtain ⟨ad, Bk, ck, rfl, hcell, hck, hRd⟩ := h1.1.at_ h2
          have hlk := h.2 j h2
          have hss := Lib.hid (sumL_snoc h2)
          clear hs0 hRd
          go_wp2_with fail
          go_roundg (gk - 1)
          case measure => omega
          case rel => exact ⟨j + 1, ⟨by omega, by omega⟩, by omega, by go_num, by rw [hss.out]; go_num, rfl⟩
        · have e2 : decide ((j : Int) < 61) = false := by simp; omega
          have e3 : l.take 61 = l.take j := by rw [show j = 61 by omega]
          clear hs0
          go_wp2_with fail
          go_meet
          exact ⟨rfl, by rw [e3]⟩
      · have e3 : l.take 61 = l.take j := by rw [List.take_of_length_le (by omega), List.take_of_length_le (by omega)]
        clear hs0
        go_wp2_with fail
        go_meet
        exact ⟨rfl, by rw [e3]⟩
  case rest =>
    obtain ⟨rfl, rfl⟩ := hcut
    by_cases b1 : 60 < l.length
    · have d1 : decide ((60 : Int) < (l.length : Int)) = true := by simp; omega
      go_wp2_with fail
      go_ret
      exact ⟨rfl, k1⟩
    · have d1 : decide ((60 : Int) < (l.length : Int)) = false := by simp; omega
      by_cases b2 : 1000 < sumL (l.take 61)
      · have d2 : decide ((1000 : Int) < (sumL (l.take 61) : Int)) = true := by simp; omega
        go_wp2_with fail
        go_ret
        exact ⟨rfl, k1⟩
      · have d2 : decide ((1000 : Int) < (sumL (l.take 61) : Int)) = false := by simp; omega
        by_cases b3 : 200 < wh.length
        · have d3 : decide ((200 : Int) < (wh.length : Int)) = true := by simp; omega
          go_wp2_with fail
          go_ret
          exact ⟨rfl, k1⟩
        · have d3 : decide ((200 : Int) < (wh.length : Int)) = false := by simp; omega
          obtain ⟨hp1, hp2⟩ := pickI_in (x := sz) (n := 64) (by omega)
          go_wp2_with (go_at_call 24; refine (pick_any _ (by omega) (by omega)).mono ?_; rintro e w' ⟨rfl, rfl⟩)
          refine (new_ok (1 + pickI sz 64) _ (by omega) (by omega)).mono ?_
          rintro e w2 ⟨rfl, hw2⟩
          have hI : IBox w2 wc.heap.size (1 + pickI sz 64) 1 (fun _ => none) := hw2 ▸ new_ibox wc (1 + pickI sz 64) (by omega) (by omega)
          have k2 : Chg (fun _ => False) w w2 := hw2 ▸ k1.alloc _
          have hX1 := k1.size
          clear hw2 h1 d1 d2 d3
          obtain ⟨i3, hi3, hz3, hs3, hby3⟩ := info_parts Try.info3
          obtain ⟨i1, hi1, hz1, hs1', hby1⟩ := info_parts Try.info31
          go_wp2_with fail
          generalize wc.heap.size = X at *
          clear k1
          go_loopg [12, 13] l.length (fun k v i wr => ∃ j : Nat, (j + k ≤ l.length ∧ l.length ≤ j + k) ∧ i = .int .i64 j ∧ LeftRel w X (1 + pickI sz 64) j v wr)
          case atStart => exact ⟨0, ⟨by omega, by omega⟩, rfl, hI, by simpa [numV] using World.ownsRow_nil w2 0 3 1, (fun g hg => by simp [Value.ownBlock] at hg), k2⟩
          case round =>
            obtain ⟨j, ⟨hj1, hj2⟩, rfl, hL⟩ := hrel
            by_cases hlt : j < l.length
            · go_wp2_with (first | (at_builtin; refine wpList_append_any _ rfl (.tmp 69) (.tmp 72) 53 rfl 0 3 i3 (.int .i64 0) 1 8 Try.underlying53 hi3 hz3 hs3 hby3 rfl (by decide) u12 j (numV (List.range' 1 j)) rfl (hL.2.1.alloc _) (some ⟨wr.heap.size, 0, none⟩) 1 1 [.int .i64 ((j : Int) + 1)] rfl rfl (RdC.one _ 3) (by intro u hu; simp at hu; subst hu; rfl) (by unfold maxLen; omega) (by omega) (Nat.zero_le _) ?_; intro v' w' ho' hg' ha'; have hL' := leftRel_next hL ho' hg' ha'))
              go_roundg (gk - 1)
              case measure => omega
              case rel => exact ⟨j + 1, ⟨by omega, by omega⟩, by go_num, hL'⟩
            · obtain rfl : j = l.length := by omega
              go_wp2_with fail
              have hR0 : AllRel w X (1 + pickI sz 64) l wh.length 0 u12 (.slice none 0 0) wr 1 (fun _ => none) (List.range' 1 l.length) [] := by
                refine ⟨hL.1, ⟨List.nodup_range', fun s => ?_, by omega, by omega, fun s x hx => ?_, by simp, rfl, ?_⟩, by rw [List.length_range']; exact hL.2.1, World.ownsRow_nil _ _ _ _, hL.2.2.1, (fun g hg => by simp [Value.ownBlock] at hg), (fun k x hx => by simp at hx), hL.2.2.2, hX1, fun h0 => ⟨0, h0, Nat.le_refl _, by rw [List.length_range']; omega, fun j _ hj => absurd hj (by omega)⟩⟩
                · rw [held_nil]; simp [List.mem_range'_1]; omega
                · rw [held_nil] at hx; cases hx
                · have : cnt (fun _ => none) = 0 := by kernel_rfl
                  rw [this, List.length_range']; omega
              clear hL
              have hb1 : l.length ≤ 60 := by omega
              have hb3 : wh.length ≤ 200 := by omega
              go_loopg [12, 14, 15] 8000 (fun k vL vG i wr => ∃ (j : Nat) (nx : Int) (f : Ring) (L : List Nat) (got : List (Value × List UInt8)), (j + k ≤ 8000 ∧ 8000 ≤ j + k) ∧ i = .int .i64 j ∧ AllRel w X (1 + pickI sz 64) l wh.length j vL vG wr nx f L got)
              case atStart => exact ⟨0, _, _, _, _, ⟨by omega, by omega⟩, rfl, hR0⟩
              case round =>
                obtain ⟨j, nx, f, L, got, ⟨hj1, hj2⟩, rfl, hR⟩ := hrel
                obtain ⟨AL, cL, rfl, hcL, hmL⟩ := own_shape hR.left
                unfold maxLen at hmL
                by_cases hL0 : L = []
                · subst hL0
                  obtain ⟨hnx, hcf, hgot⟩ := hR.inv.done hR.ibox.win
                  obtain ⟨AG, cG, rfl, hcG, hmG⟩ := own_shape hR.rowG
                  have hgl : got.length = l.length := by rw [← hgot]; simp
                  have hl2 := h.chg hR.chg (fun _ _ h => h)
                  have hG := rdl_told hR.rowG hR.own
                  rw [hgot] at hG
                  have hC := hR.chg
                  have hI := hR.ibox
                  subst hnx
                  rw [hgl] at hcG ⊢
                  clear hR hgot hgl
                  go_wp2_with (first | (go_at_call 15; go_loud (refine (sameLists (xs := l) (ys := l) (by omega) hmG hG hl2.1).mono ?_; rintro e w' ⟨rfl, n, rfl⟩)) | (go_at_call 18; refine ((hI.drewN n).held_).mono ?_; rintro e w' ⟨rfl, rfl⟩; rw [hcf]) | (go_at_call 17; refine ((hI.drewN n).next_).mono ?_; rintro e w' ⟨rfl, rfl⟩))
                  go_ret
                  exact ⟨by simp, hC.drewN n⟩
                · have hj8 := hR.soon hb1 hb3 hL0
                  have hLp : 0 < L.length := List.length_pos_iff.2 hL0
                  have d1 : decide ((j : Int) < 8000) = true := by simp; omega
                  obtain ⟨g, cap, hAL, _, hgl⟩ := hR.left.form hLp
                  obtain ⟨rfl, _, rfl⟩ : AL = some ⟨g, 0, none⟩ ∧ True ∧ cL = cap := by
                    injection hAL with a b c
                    exact ⟨a, trivial, c⟩
                  have hcn := hR.inv.count
                  have hlo := hR.inv.lo
                  have hL60 : L.length ≤ 60 := by omega
                  clear hAL hL0
                  go_upto_if 90 with fail
                  go_cut [16] (fun s wx => wx = wr ∧ ∃ kk : Nat, s = .int .i64 kk ∧ kk < L.length ∧ (wh.length ≤ j → kk = j % L.length))
                  case first =>
                    by_cases hjw : j < wh.length
                    · have hw2 : RdC (fun b => b < w.heap.size) wr Aw (wh.map (Value.int .i64)) := hwi.chg hR.chg (fun _ _ h => h)
                      obtain ⟨aw, rfl, _, hcw⟩ := hw2.at_ (k := j) (by simpa using hjw)
                      rw [List.getElem_map] at hcw
                      obtain ⟨hq1, hq2⟩ := pickI_in (x := wh[j]) (n := (L.length : Int)) (by omega)
                      have hLi1 : (1 : Int) ≤ L.length := by omega
                      have hLi2 : (L.length : Int) ≤ 4611686018427387904 := by omega
                      clear hw2
                      go_wp2_with (go_at_call 24; refine (pick_any _ hLi1 hLi2).mono ?_; rintro e w' ⟨rfl, rfl⟩)
                      go_meet
                      exact ⟨rfl, (pickI wh[j] L.length).toNat, by congr 1; omega, by omega, fun h => by omega⟩
                    · go_wp2_with fail
                      go_meet
                      exact ⟨rfl, j % L.length, rfl, Nat.mod_lt _ hLp, fun _ => rfl⟩
                  case rest =>
                    obtain ⟨hwx, kk, rfl, hkk, hkj⟩ := hcut
                    have hwx' := hwx.symm
                    subst hwx'
                    obtain ⟨t, al, Bk, ck, bs, hse, rfl, hal, q2, q3, q4, cLk, cl, hlk, hRd, hbs⟩ := hR.pick h hkk
                    have HS := Lib.hid hse
                    have HB := Lib.hid hbs
                    have hw1 : IntKind.i64.wrap (t : Int) = (t : Int) := by rw [IntKind.wrap_i64]; omega
                    have hs1 : (t : Int) < (l.length : Int) := by omega
                    have hk1 : (kk : Int) < (L.length : Int) := by omega
                    have hXg : X ≠ g := hR.ibox.box.ne_other (own_other hR.left (by decide) (by decide) rfl)
                    have hh : hasB (1 + pickI sz 64) nx f ((t : Int) + 1) = false := by
                      rw [hR.ibox.win.has (by omega), q4]; simp; omega
                    have HH := Lib.hid hh
                    have HQ := Lib.hid q4
                    clear hse hbs hh q4
                    go_wp2_with fail
                    by_cases hqs : (t : Int) + 1 - nx < 1 + pickI sz 64
                    · go_region_held3 (fun w' => w'.cell? ⟨g, kk, none⟩ = some (.int .i64 ((t : Int) + 1)) ∧ w'.cell? (al.add t) = some (.slice Bk bs.length ck)) (first | go_keep | exact ⟨cLk', cl'⟩)
                        (first | (go_at_call 13; refine (take_new (hR.ibox.drewN _) (by omega) ((t : Int) + 1) (by omega) (by omega) HH.out hqs (hRd.drewN _) (by omega)).mono ?_; rintro e w4 ⟨vo, told, nx', f', rfl, T⟩; have kT := T.chg; have cLk' := kT.cell cLk (Ne.symm hXg); have cl' := kT.cell cl (by rw [block_of_add]; omega)))
                      clear hw1
                      obtain ⟨A1, c1, rfl, hc1, hm1⟩ := own_shape T.row
                      have HT := Lib.hid T
                      clear T
                      go_wp2_with fail
                      have hg4 : w4.ownsRow 0 3 1 (.slice (some ⟨g, 0, none⟩) L.length cL) L.length (numV L) := own_chg (World.ownsRow.drewN_ hR.left 1) HT.out.chg (fun g' h => by injection h with h; subst h; exact Ne.symm hXg)
                      go_cut [12] (fun v wx => wx.ownsRow 0 3 1 v (L.take kk ++ L.drop (kk + 1)).length (numV (L.take kk ++ L.drop (kk + 1))) ∧ (∀ g, v.ownBlock = some g → w4.heap.size ≤ g) ∧ Chg (fun _ => False) w4 wx)
                      case first =>
                        have hn1 : (numV (L.take kk)).length = kk * 1 := by simp [numV]; omega
                        have hn2 : (numV (L.drop (kk + 1))).length = (L.length - (kk + 1)) * 1 := by simp [numV]
                        have hkc : kk ≤ cL := by omega
                        have hkl : kk + 1 ≤ L.length := by omega
                        have hkc1 : kk + 1 ≤ cL := by omega
                        have i1 : IntKind.i64.wrap ((kk : Int) + 1) = (kk : Int) + 1 := by rw [IntKind.wrap_i64]; omega
                        have i2 : (0 : Int) ≤ (kk : Int) + 1 := by omega
                        have i4 : (kk : Int) + 1 ≤ (L.length : Int) := by omega
                        have i5 : ((kk : Int) + 1).toNat = kk + 1 := by omega
                        have hr1 := rdc_take hg4 kk
                        have hr2 := rdc_drop hg4 (kk + 1)
                        go_region_law (first
                          | (refine step_append_any _ rfl (.tmp 117) (.tmp 120) 53 rfl 0 3 i3 (.int .i64 0) 1 8 Try.underlying53 hi3 hz3 hs3 hby3 rfl (by decide) (.slice (some ⟨w4.heap.size, 0, none⟩) 0 0) 0 [] rfl (World.ownsRow.drew (World.ownsRow_made w4 #[] 0 (Nat.zero_le _) (Nat.zero_le _) rfl)) (some ⟨g, 0, none⟩) kk cL (numV (L.take kk)) rfl hn1 (hr1.chg (S := fun _ => False) (((Chg.refl _ w4).alloc _).drew) (fun _ _ h => h)) (numV_one _) (by unfold maxLen; omega) (by omega) (Nat.zero_le _) ?_; intro v5 w5 ho5 hg5 ha5; simp only [Nat.zero_add, List.nil_append] at ho5; have k5 := cut_first hg5; have f5 := cut_fresh ha5)
                          | (refine step_append_any _ rfl (.tmp 121) (.tmp 125) 53 rfl 0 3 i3 (.int .i64 0) 1 8 Try.underlying53 hi3 hz3 hs3 hby3 rfl (by decide) v5 kk (numV (L.take kk)) rfl ho5 _ (L.length - (kk + 1)) (cL - (kk + 1)) (numV (L.drop (kk + 1))) rfl hn2 (hr2.chg k5 (fun _ _ h => h)) (numV_one _) (by unfold maxLen; omega) (by omega) (Nat.zero_le _) ?_; intro v6 w6 ho6 hg6 ha6))
                        all_goals (go_wp2_with fail)
                        all_goals (go_meet; exact cut_done hkk ho6 hg6 ha6 k5 f5)
                      case rest =>
                        obtain ⟨ho6, f6, k6⟩ := hcut
                        have hpo := fun v7 w7 => AllRel.next_took (v7 := v7) (w' := w7) (i := j) hR HT.out hb1 hkk HS.out HB.out ho6 f6 k6
                        have hrowG := own_chg (own_chg (World.ownsRow.drewN_ hR.rowG 1) HT.out.chg (fun g' hg' hS => hR.ibox.box.ne_other (own_other hR.rowG (by decide) (by decide) hg'.symm) hS.symm)) k6 (fun _ _ h => h)
                        have hrowT := (rdc_own HT.out.row).chg k6 (fun _ _ h => h)
                        have honeT : ∀ u ∈ told.map (·.1), u.oneCell' = true := fun u hu => by
                          obtain ⟨x, hx, rfl⟩ := List.mem_map.1 hu
                          obtain ⟨q, hq⟩ := List.getElem?_of_mem hx
                          exact (HT.out.own q x hq).one
                        have hgl60 : got.length ≤ 60 := by
                          have h1 := hR.inv.got
                          have h2 := congrArg List.length h1
                          rw [List.length_map] at h2
                          have := List.length_take_le' (nx - 1).toNat l
                          omega
                        have htl64 := HT.out.few
                        clear hg4 HT hR
                        go_wp2_with (first | (at_builtin; refine wpList_append_any _ rfl (.tmp 129) (.tmp 130) 35 rfl 0 31 i1 (.slice none 0 0) 1 24 Try.underlying35 hi1 hz1 hs1' hby1 rfl (by decide) u14 got.length (got.map (·.1)) rfl hrowG A1 told.length c1 (told.map (·.1)) rfl (by simp) hrowT honeT (by unfold maxLen; omega) (by omega) (Nat.zero_le _) ?_; intro v7 w7 ho7 hg7 ha7))
                        go_roundg (gk - 1)
                        case measure => omega
                        case rel => exact ⟨j + 1, nx', f', _, _, ⟨by omega, by omega⟩, by go_num, hpo _ _ ho7 hg7 ha7⟩
                    · have hfar : 1 + pickI sz 64 ≤ (t : Int) + 1 - nx := by omega
                      go_region_held3 (fun w' => w'.cell? ⟨g, kk, none⟩ = some (.int .i64 ((t : Int) + 1)) ∧ w'.cell? (al.add t) = some (.slice Bk bs.length ck)) (first | go_keep | exact ⟨cLk', cl'⟩)
                        (first | (go_at_call 13; refine (take_far (hR.ibox.drewN _) ((t : Int) + 1) (by omega) (by omega) hfar _).mono ?_; rintro e w4 ⟨rfl, hI4, k4⟩; have cLk' := k4.cell cLk (fun h => h); have cl' := k4.cell cl (fun h => h)))
                      clear hw1
                      have k4' : Chg (fun _ => False) wr w4 := ((Chg.refl _ wr).drewN _).trans k4 (fun _ _ h => h)
                      have hpo := fun v7 w7 => AllRel.next_far (v7 := v7) (w' := w7) (i := j) hR hI4 k4' hb1 HS.out hfar hkj
                      have hrowG := own_chg hR.rowG k4' (fun _ _ h => h)
                      have hgl60 : got.length ≤ 60 := by
                        have h1 := hR.inv.got
                        have h2 := congrArg List.length h1
                        rw [List.length_map] at h2
                        have := List.length_take_le' (nx - 1).toNat l
                        omega
                      clear hR
                      go_wp2_with (first | (at_builtin; refine wpList_append_any _ rfl (.tmp 129) (.tmp 130) 35 rfl 0 31 i1 (.slice none 0 0) 1 24 Try.underlying35 hi1 hz1 hs1' hby1 rfl (by decide) u14 got.length (got.map (·.1)) rfl hrowG none 0 0 [] rfl (by simp) (RdC.nil (D := fun _ => False) none) (by simp) (by unfold maxLen; omega) (by omega) (Nat.zero_le _) ?_; intro v7 w7 ho7 hg7 ha7))
                      go_roundg (gk - 1)
                      case measure => omega
                      case rel => exact ⟨j + 1, nx, f, _, _, ⟨by omega, by omega⟩, by go_num, hpo _ _ ho7 hg7 ha7⟩
end Go.Proofs.Ytjmbealiinecjaa
