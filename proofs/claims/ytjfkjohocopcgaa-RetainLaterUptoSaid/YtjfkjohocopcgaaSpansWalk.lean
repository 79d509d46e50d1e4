/- RetainSpans, walked. -/
import Derived.Test.YtjfkjohocopcgaaKeep
import Derived.Test.YtjfkjohocopcgaaMoreWalk
namespace Go.Proofs.Ytjfkjohocopcgaa
open Go.RowKit Go.Maps

theorem OwnS.shape {W w : World} {v : Value} {xs : List Snp} (h : OwnS W w v xs) : ∃ A c, v = .slice A xs.length c ∧ xs.length ≤ c ∧ c ≤ maxLen := own_shape h.row

set_option maxRecDepth 100000 in
set_option maxHeartbeats 1600000 in
theorem retainSpans_any {w : World} {A : Option Addr} {l : List Snp} {c : Nat} (h : Snaps (fun b => b < w.heap.size) w A l) (hl : l.length ≤ 9223372036854775807) (sp ss : Int) :
    Calls Try.prog 4 #[.slice A l.length c, .int .i64 sp, .int .i64 ss] w fun e w' => e = .returned (.bool true) ∧ Chg (fun _ => False) w w' := by
  by_cases h100 : l.length ≤ 100
  · rcases hs : soundB 0 l with _ | _
    · have HS := Lib.hid hs
      clear hs
      go_enter Try.func4, Try.ntmps4
      go_wp2_with (first
        | (go_at_call 9; refine (awake_any _).mono ?_; rintro e w1 ⟨rfl, k1⟩)
        | (go_at_call 11; refine (sound_any (h.chg (k1.alloc _) (fun _ _ h => h)) hl).mono ?_; rintro e w3 ⟨rfl, k3⟩; rw [HS.out]))
      go_ret
      exact ⟨rfl, (k1.alloc _).trans k3 (fun _ _ h => h)⟩
    · have HS := Lib.hid hs
      rcases hp : Pol.ok ⟨0, sp, ss⟩ with _ | _
      · have HP := Lib.hid hp
        clear hs hp
        go_enter Try.func4, Try.ntmps4
        go_wp2_with (first
          | (go_at_call 9; refine (awake_any _).mono ?_; rintro e w1 ⟨rfl, k1⟩; have hB := Blk.new w1 24 #[.int .i64 0, .int .i64 sp, .int .i64 ss])
          | (go_at_call 11; refine (sound_any (h.chg (k1.alloc _) (fun _ _ h => h)) hl).mono ?_; rintro e w3 ⟨rfl, k3⟩; rw [HS.out]; have y0 := (hB.chg k3 (fun h => h)).cell 0; have y1 := (hB.chg k3 (fun h => h)).cell 1; have y2 := (hB.chg k3 (fun h => h)).cell 2; simp only [List.getElem?_toArray] at y0 y1 y2)
          | (go_at_call 12; refine (check_no _ _ _ _ HP.out).mono ?_; rintro e w4 ⟨rfl, k4⟩))
        go_ret
        exact ⟨rfl, ((k1.alloc _).trans k3 (fun _ _ h => h)).trans k4 (fun _ _ h => h)⟩
      · have HP := Lib.hid hp
        have hpo := hp
        simp only [Pol.ok, Bool.and_eq_true, decide_eq_true_iff] at hpo
        obtain ⟨⟨_, p3, p4⟩, p5, p6⟩ := hpo
        clear hp
        by_cases hsp : sp < 1
        · clear hs
          go_enter Try.func4, Try.ntmps4
          go_wp2_with (first
            | (go_at_call 9; refine (awake_any _).mono ?_; rintro e w1 ⟨rfl, k1⟩; have hB := Blk.new w1 24 #[.int .i64 0, .int .i64 sp, .int .i64 ss])
            | (go_at_call 11; refine (sound_any (h.chg (k1.alloc _) (fun _ _ h => h)) hl).mono ?_; rintro e w3 ⟨rfl, k3⟩; rw [HS.out]; have y0 := (hB.chg k3 (fun h => h)).cell 0; have y1 := (hB.chg k3 (fun h => h)).cell 1; have y2 := (hB.chg k3 (fun h => h)).cell 2; simp only [List.getElem?_toArray] at y0 y1 y2)
            | (go_at_call 12; refine (check_ok _ _ _ _ HP.out).mono ?_; rintro e w4 ⟨rfl, k4⟩))
          go_ret
          exact ⟨rfl, ((k1.alloc _).trans k3 (fun _ _ h => h)).trans k4 (fun _ _ h => h)⟩
        · have hcnt := spans_count (p := ⟨0, sp, ss⟩) hs rfl p3
          have hlast := Lib.hid (fun i hi k hk hn => spans_last (p := ⟨0, sp, ss⟩) (l := l) hs rfl (i := i) hi (k := k) hk hn)
          have htm := Lib.hid (tame_of (prev := 0) (by omega) hs)
          have hta := numsJ_le ⟨0, sp, ss⟩ l true l.length
          have hsub := Lib.hid (fun x => (left_sub l (numsJ ⟨0, sp, ss⟩ l true l.length)).subset (a := x))
          have hkl := leftL_le l (numsJ ⟨0, sp, ss⟩ l true l.length)
          have hws : IntKind.i64.wrap (ss + 1) = ss + 1 := by rw [IntKind.wrap_i64]; omega
          simp only at hcnt
          have hsp2 : (sp < 1) = False := by simpa using hsp
          clear hs
          go_enter Try.func4, Try.ntmps4
          go_wp2_with (first
            | (go_at_call 9; refine (awake_any _).mono ?_; rintro e w1 ⟨rfl, k1⟩; have hB := Blk.new w1 24 #[.int .i64 0, .int .i64 sp, .int .i64 ss])
            | (go_at_call 11; refine (sound_any (h.chg (k1.alloc _) (fun _ _ h => h)) hl).mono ?_; rintro e w3 ⟨rfl, k3⟩; rw [HS.out]; have y0 := (hB.chg k3 (fun h => h)).cell 0; have y1 := (hB.chg k3 (fun h => h)).cell 1; have y2 := (hB.chg k3 (fun h => h)).cell 2; simp only [List.getElem?_toArray] at y0 y1 y2)
            | (go_at_call 12; refine (check_ok _ _ _ _ HP.out).mono ?_; rintro e w4 ⟨rfl, k4⟩; have k34 := k3.trans k4 (fun _ _ h => h); have z0 := (hB.chg k34 (fun h => h)).cell 0; have z1 := (hB.chg k34 (fun h => h)).cell 1; have z2 := (hB.chg k34 (fun h => h)).cell 2; simp only [List.getElem?_toArray] at z0 z1 z2; have k04 := (k1.alloc (.cells #[.int .i64 0, .int .i64 sp, .int .i64 ss] 24)).trans k34 (fun _ _ h => h))
            | (go_at_call 13; with_reducible refine (Stay_ok (h.chg k04 (fun _ _ h => h)) (by omega) HS.out 0 sp ss HP.out).mono ?_; rintro e w5 ⟨va, rfl, hO5, k5⟩; have k05 := k04.trans k5 (fun _ _ h => h); obtain ⟨Aa, ca, rfl, hca, hma⟩ := own_shape hO5.row; have hNa := hO5.nums.2)
            | (go_at_call 15; refine (left_any (h.chg k05 (fun _ _ h => h)) (by omega) hNa (by omega)).mono ?_; rintro e w6 ⟨vk, rfl, hO6, k6⟩; obtain ⟨Ak, ck, rfl, hck, hmk⟩ := hO6.shape; have hSk := hO6.snaps.2; have k06 := k05.trans k6 (fun _ _ h => h); clear y0 y1 y2 z0 z1 z2 k1 k3 k4 k34 k04 k5 k05 k6))
          generalize numsJ ⟨0, sp, ss⟩ l true l.length = ta at *
          generalize hK : leftL l ta = kept at *
          clear hK hws hcnt
          go_loopg [12, 13] kept.length (fun k i _ wr => ∃ j n : Nat, (j + k ≤ kept.length ∧ kept.length ≤ j + k) ∧ i = .int .i64 (j : Int) ∧ wr = w6.drewN n)
          case atStart => exact ⟨0, 0, ⟨by omega, by omega⟩, rfl, rfl⟩
          case round =>
            obtain ⟨j, n, ⟨hj1, hj2⟩, rfl, rfl⟩ := hrel
            by_cases hj : j + 1 < kept.length
            · obtain ⟨ad, rfl, _, c1, c2⟩ := Snaps.at_ hSk (k := j) (by omega)
              have hlj := Lib.hid (hlast.out j (by omega))
              have htj := htm.out kept[j] (hsub.out _ (List.getElem_mem (by omega)))
              generalize kept[j] = x at c1 c2 hlj htj
              obtain ⟨nx, tx⟩ := x
              simp only at c1 c2 htj
              have hji : (j : Int) < (kept.length : Int) - 1 := by omega
              have hji2 : (j : Int) < (kept.length : Int) := by omega
              go_wp2_with fail
              obtain ⟨gj, rfl⟩ : ∃ g : Nat, g = gk := ⟨_, rfl⟩
              go_loopg [13] l.length (fun k i wr => ∃ m n' : Nat, (m + k ≤ l.length ∧ l.length ≤ m + k) ∧ i = .int .i64 (m : Int) ∧ wr = w6.drewN n')
              case atStart => exact ⟨0, n, ⟨by omega, by omega⟩, rfl, rfl⟩
              case round =>
                obtain ⟨m, n', ⟨hm1, hm2⟩, rfl, rfl⟩ := hrel
                by_cases hm : m < l.length
                · obtain ⟨ad2, rfl, _, d1w, d2w⟩ := Snaps.at_ (D := fun b => b < w.heap.size) (w := w) (A := A) (l := l) h hm
                  have d1 := k06.cell d1w (fun h => h)
                  have d2 := k06.cell d2w (fun h => h)
                  have htm2 := htm.out l[m] (List.getElem_mem hm)
                  have hne := Lib.hid (hlj.out m hm)
                  clear d1w d2w
                  generalize l[m] = y at d1 d2 htm2 hne
                  obtain ⟨ny, ty⟩ := y
                  simp only at d1 d2 htm2
                  have hmi : (m : Int) < (l.length : Int) := by omega
                  have hq1 : 0 ≤ tx / sp := Int.ediv_nonneg (by omega) (by omega)
                  have hq2 : tx / sp ≤ tx := Int.ediv_le_self _ (by omega)
                  have hq3 : 0 ≤ ty / sp := Int.ediv_nonneg (by omega) (by omega)
                  have hq4 : ty / sp ≤ ty := Int.ediv_le_self _ (by omega)
                  have e0 : (sp == 0) = false := by simp; omega
                  have hw1 : IntKind.i64.wrap (tx / sp) = tx / sp := by rw [IntKind.wrap_i64]; omega
                  have hw2 : IntKind.i64.wrap (ty / sp) = ty / sp := by rw [IntKind.wrap_i64]; omega
                  have hqe1 : tx.tdiv sp = tx / sp := Int.tdiv_eq_ediv_of_nonneg (by omega)
                  have hqe2 : ty.tdiv sp = ty / sp := Int.tdiv_eq_ediv_of_nonneg (by omega)
                  by_cases hgt : nx < ny
                  · have hd : (ty / sp == tx / sp) = false := by have := hne.out hgt; simpa [tq] using this
                    go_wp2_with fail
                    go_quiet (fail)
                    clear hw1 hw2 hqe1 hqe2
                    go_wp2_with fail
                    go_roundg (gk - 1)
                    case measure => omega
                    case rel => exact ⟨m + 1, _, ⟨by omega, by omega⟩, by go_num, rfl⟩
                  · have hd : decide (nx < ny) = false := by simpa using hgt
                    go_wp2_with fail
                    go_quiet (fail)
                    clear hw1 hw2 hqe1 hqe2
                    go_wp2_with fail
                    go_roundg (gk - 1)
                    case measure => omega
                    case rel => exact ⟨m + 1, _, ⟨by omega, by omega⟩, by go_num, rfl⟩
                · go_wp2_with fail
                  go_roundg (gj - 1)
                  case measure => omega
                  case rel => exact ⟨j + 1, _, ⟨by omega, by omega⟩, by go_num, rfl⟩
            · go_wp2_with fail
              go_ret
              exact ⟨rfl, k06.drewN _⟩
  · go_enter Try.func4, Try.ntmps4
    go_wp2_with (first | (go_at_call 9; refine (awake_any _).mono ?_; rintro e w1 ⟨rfl, k1⟩))
    go_ret
    exact ⟨rfl, k1.alloc _⟩
end Go.Proofs.Ytjfkjohocopcgaa
