import Derived.Test.YtjmbealiinecjaaCame
namespace Go.Proofs.Ytjmbealiinecjaa
open Go.RowKit

/-- Whatever comes: the inbox is one behind it, too. -/
theorem take_any {D : Nat → Prop} {w : World} {X : Nat} {sz nx : Int} {f : Ring} (h : IBox w X sz nx f) (h4 : nx ≤ 100000) (q : Int) {A : Option Addr} {bs : List UInt8} {c : Nat} (hr : Rd D w A bs) (hlen : bs.length ≤ 140737488355328) :
    Calls Try.prog 13 #[.pointer (some ⟨X, 0, none⟩), .int .i64 q, .slice A bs.length c] w fun e w' => ∃ vo cd nx' f', e = .returned (.tuple #[vo, .int .i64 cd]) ∧ IBox w' X sz nx' f' ∧ nx' + cnt f' ≤ nx + cnt f + 1 ∧ Chg (fun k => k = X) w w' := by
  have h64 := h.win.hi
  by_cases hq : q < 1 ∨ 2147483647 ≤ q
  · refine (take_out h q hq _).mono ?_
    rintro e w' ⟨rfl, hI, hc⟩
    exact ⟨_, _, nx, f, rfl, hI, by omega, hc.mono fun _ _ h => h.elim⟩
  · by_cases hh : hasB sz nx f q = true
    · refine (take_old h q (by omega) (by omega) hh _).mono ?_
      rintro e w' ⟨rfl, hI, hc⟩
      exact ⟨_, _, nx, f, rfl, hI, by omega, hc.mono fun _ _ h => h.elim⟩
    · by_cases hs : q - nx < sz
      · refine (take_new h (by omega) q (by omega) (by omega) (by simpa using hh) hs hr hlen).mono ?_
        rintro e w' ⟨vo, told, nx', f', rfl, T⟩
        refine ⟨_, _, nx', f', rfl, T.ibox, ?_, T.chg⟩
        have := T.nxt
        have := T.count
        omega
      · refine (take_far h q (by omega) (by omega) (by omega) _).mono ?_
        rintro e w' ⟨rfl, hI, hc⟩
        exact ⟨_, _, nx, f, rfl, hI, by omega, hc.mono fun _ _ h => h.elim⟩

/-- One of n. -/
def pickI (x n : Int) : Int := if x.tmod n < 0 then x.tmod n + n else x.tmod n
theorem pickI_in {x n : Int} (hn : 1 ≤ n) : 0 ≤ pickI x n ∧ pickI x n < n := by
  unfold pickI
  have h1 := Int.tmod_lt_of_pos x (show 0 < n by omega)
  have h2 : -n < x.tmod n := by
    have := Int.tmod_lt_of_pos (-x) (show 0 < n by omega)
    rw [Int.neg_tmod] at this
    omega
  split <;> omega

set_option maxHeartbeats 400000 in
theorem pick_any {x n : Int} (w : World) (hn : 1 ≤ n) (hn2 : n ≤ 4611686018427387904) :
    Calls Try.prog 24 #[.int .i64 x, .int .i64 n] w fun e w' => e = .returned (.int .i64 (pickI x n)) ∧ w = w' := by
  have h1 := Int.tmod_lt_of_pos x (show 0 < n by omega)
  have h2 : -n < x.tmod n := by
    have := Int.tmod_lt_of_pos (-x) (show 0 < n by omega)
    rw [Int.neg_tmod] at this
    omega
  go_enter Try.func24, Try.ntmps24
  go_wp2
  · go_ret
    exact ⟨by rw [pickI, if_pos (by assumption)]; rfl, rfl⟩
  · go_ret
    exact ⟨by rw [pickI, if_neg (by omega)]; rfl, rfl⟩

set_option maxRecDepth 100000 in
set_option maxHeartbeats 1600000 in
theorem inboxAgain_any {w : World} {A Ab : Option Addr} {l : List (Int × List UInt8)} {c nb cb : Nat} (sz wh : Int) (h : Cames w w.heap.size A l) (hn : l.length ≤ 9223372036854775807)  :
    Calls Try.prog 7 #[.int .i64 sz, .slice A l.length c, .int .i64 wh, .slice Ab nb cb] w fun e w' => e = .returned (.bool true) ∧ Chg (fun _ => False) w w' := by
  by_cases hs : 1 ≤ sz ∧ sz ≤ 64
  · obtain ⟨hs1, hs2⟩ := hs
    by_cases hl : longB l = true
    · have HL := Lib.hid hl
      clear hl
      go_enter Try.func7, Try.ntmps7
      go_wp2_with fail
      refine (awake_any w).mono ?_
      rintro e w1 ⟨rfl, k1⟩
      go_wp2_with fail
      refine (new_ok sz _ hs1 hs2).mono ?_
      rintro e w2 ⟨rfl, hw2⟩
      have k2 : Chg (fun _ => False) w w2 := hw2 ▸ k1.alloc _
      have h2 := h.chg k2 (fun _ _ h => h)
      clear hw2
      go_wp2_with (go_at_call 9; refine (long_any h2 hn).mono ?_; rintro e w' ⟨rfl, rfl⟩; rw [HL.out])
      go_ret
      exact ⟨rfl, k2⟩
    · have hl' : longB l = false := by simpa using hl
      have HL := Lib.hid hl'
      clear hl hl'
      by_cases h1 : 100 < l.length
      · have d1 : decide ((100 : Int) < (l.length : Int)) = true := by simp; omega
        go_enter Try.func7, Try.ntmps7
        go_wp2_with fail
        refine (awake_any w).mono ?_
        rintro e w1 ⟨rfl, k1⟩
        go_wp2_with fail
        refine (new_ok sz _ hs1 hs2).mono ?_
        rintro e w2 ⟨rfl, hw2⟩
        have k2 : Chg (fun _ => False) w w2 := hw2 ▸ k1.alloc _
        have h2 := h.chg k2 (fun _ _ h => h)
        clear hw2
        go_wp2_with (go_at_call 9; refine (long_any h2 hn).mono ?_; rintro e w' ⟨rfl, rfl⟩; rw [HL.out])
        go_ret
        exact ⟨rfl, k2⟩
      · have d1 : decide ((100 : Int) < (l.length : Int)) = false := by simp; omega
        by_cases h0 : l.length = 0
        · have d2 : ((l.length : Int) == 0) = true := beq_iff_eq.2 (by omega)
          have H0 := Lib.hid h0
          clear h0
          go_enter Try.func7, Try.ntmps7
          go_wp2_with fail
          refine (awake_any w).mono ?_
          rintro e w1 ⟨rfl, k1⟩
          go_wp2_with fail
          refine (new_ok sz _ hs1 hs2).mono ?_
          rintro e w2 ⟨rfl, hw2⟩
          have k2 : Chg (fun _ => False) w w2 := hw2 ▸ k1.alloc _
          have h2 := h.chg k2 (fun _ _ h => h)
          clear hw2
          go_wp2_with (go_at_call 9; refine (long_any h2 hn).mono ?_; rintro e w' ⟨rfl, rfl⟩; rw [HL.out])
          go_ret
          exact ⟨rfl, k2⟩
        · have d2 : ((l.length : Int) == 0) = false := beq_eq_false_iff_ne.2 (by omega)
          by_cases h3 : 100 < nb
          · have d3 : decide ((100 : Int) < (nb : Int)) = true := by simp; omega
            go_enter Try.func7, Try.ntmps7
            go_wp2_with fail
            refine (awake_any w).mono ?_
            rintro e w1 ⟨rfl, k1⟩
            go_wp2_with fail
            refine (new_ok sz _ hs1 hs2).mono ?_
            rintro e w2 ⟨rfl, hw2⟩
            have k2 : Chg (fun _ => False) w w2 := hw2 ▸ k1.alloc _
            have h2 := h.chg k2 (fun _ _ h => h)
            clear hw2
            go_wp2_with (go_at_call 9; refine (long_any h2 hn).mono ?_; rintro e w' ⟨rfl, rfl⟩; rw [HL.out])
            go_ret
            exact ⟨rfl, k2⟩
          · have d3 : decide ((100 : Int) < (nb : Int)) = false := by simp; omega
            go_enter Try.func7, Try.ntmps7
            go_wp2_with fail
            refine (awake_any w).mono ?_
            rintro e w1 ⟨rfl, k1⟩
            go_wp2_with fail
            refine (new_ok sz _ hs1 hs2).mono ?_
            rintro e w2 ⟨rfl, hw2⟩
            have hI : IBox w2 w1.heap.size sz 1 (fun _ => none) := hw2 ▸ new_ibox w1 sz hs1 hs2
            have k2 : Chg (fun _ => False) w w2 := hw2 ▸ k1.alloc _
            have h2 := h.chg k2 (fun _ _ h => h)
            clear hw2
            go_wp2_with (go_at_call 9; refine (long_any h2 hn).mono ?_; rintro e w' ⟨rfl, rfl⟩; rw [HL.out])
            have hX1 := k1.size
            generalize w1.heap.size = X at *
            clear d1 d2 d3 h2 k1
            have hcf0 : cnt (fun _ => none) = 0 := by kernel_rfl
            have HC0 := Lib.hid hcf0
            clear hcf0
            go_loopg [12] l.length (fun k i wr => ∃ (j : Nat) (nx : Int) (f : Ring), (j + k ≤ l.length ∧ l.length ≤ j + k) ∧ i = .int .i64 j ∧ IBox wr X sz nx f ∧ nx + cnt f ≤ 1 + j ∧ Chg (fun _ => False) w wr)
            case atStart => exact ⟨0, 1, _, ⟨by omega, by omega⟩, rfl, hI, by rw [HC0.out]; omega, k2⟩
            case round =>
              obtain ⟨j, nx, f, ⟨hj1, hj2⟩, rfl, hI, hcn, hc⟩ := hrel
              have hr := h.chg hc (fun _ _ h => h)
              have hnx1 := hI.win.nx1
              by_cases hlt : j < l.length
              · obtain ⟨ad, Bk, ck, rfl, hb, cs1, cs2, hck, hlk, hRd, hq1, hq2⟩ := hr j hlt
                rcases hy : l[j] with ⟨q, bs⟩
                rw [hy] at cs1 cs2 hck hlk hRd hq1 hq2
                simp only at cs1 cs2 hck hlk hRd hq1 hq2
                clear hy
                go_wp2_with fail
                go_region_held3 (fun w' => w'.cell? (ad.add (j * 2)) = some (.int .i64 q) ∧ w'.cell? ⟨(ad.add (j * 2)).block, (ad.add (j * 2)).off + 1, none⟩ = some (.slice Bk bs.length ck)) (first | go_keep | exact ⟨cs1', cs2'⟩)
                  (first | (go_at_call 13; refine (take_any (hI.drewN _) (by omega) q (hRd.drewN _) (by omega)).mono ?_; rintro e w4 ⟨vo, cd, nx', f', rfl, hI4, hn4, k4⟩; have cs1' := k4.cell cs1 (by rw [block_of_add]; omega); have cs2' := k4.cell cs2 (by show ¬ (ad.add (j * 2)).block = X; rw [block_of_add]; omega)))
                have hc4 : Chg (fun _ => False) w w4 := (hc.drewN _).trans k4 (fun k hk he => by subst he; exact absurd hk (by omega))
                go_wp2_with fail
                go_roundg (gk - 1)
                case measure => omega
                case rel => exact ⟨j + 1, nx', f', ⟨by omega, by omega⟩, by go_num, hI4, by omega, hc4⟩
              · clear hr
                obtain ⟨hp1, hp2⟩ := pickI_in (x := wh) (n := (l.length : Int)) (by omega)
                have hC := h.chg hc (fun _ _ h => h)
                obtain ⟨ad, Bk, ck, rfl, hb, cs1, cs2, hck, hlk, hRd, hq1, hq2⟩ := hC (pickI wh l.length).toNat (by omega)
                rcases hy : l[(pickI wh l.length).toNat] with ⟨q, bs⟩
                rw [hy] at cs1 cs2 hck hlk hRd hq1 hq2
                simp only at cs1 cs2 hck hlk hRd hq1 hq2
                clear hy cs2 hck hlk hRd
                go_wp2_with fail
                have hll : (l.length : Int) ≤ 100 := by omega
                have hl1 : (1 : Int) ≤ l.length := by omega
                go_quiet (first | (go_at_call 24; exact quiet_left (pick_any _ hl1 (by omega))) | (go_at_call 17; exact quiet_left ((hI.drewN _).next_)) | (go_at_call 18; exact quiet_left ((hI.drewN _).held_)))
                have hIq := hI.drewN nq
                have hcl := cnt_le f
                by_cases hh : hasB sz nx f q = true
                · have HH := Lib.hid hh
                  have hq3 : 1 ≤ q ∧ q < 2147483647 := by
                    have := hI.win.hi
                    unfold hasB at hh
                    simp only [Bool.and_eq_true, Bool.or_eq_true, decide_eq_true_eq] at hh
                    obtain ⟨a, b | ⟨b, _⟩⟩ := hh <;> omega
                  obtain ⟨hq4, hq5⟩ := hq3
                  clear hh
                  go_wp2_with (first | (go_at_call 19; refine (hIq.has_ q hq2).mono ?_; rintro e w' ⟨rfl, n1, rfl⟩; rw [HH.out]) | (go_at_call 13; refine (take_old (hI.drewN _) q hq4 hq5 HH.out _).mono ?_; rintro e w5 ⟨rfl, hI5, k5⟩) | (go_at_call 17; refine (hI5.next_).mono ?_; rintro e w' ⟨rfl, rfl⟩) | (go_at_call 18; refine (hI5.held_).mono ?_; rintro e w' ⟨rfl, rfl⟩))
                  go_ret
                  refine ⟨ret_bool ?_, (hc.drewN _).trans k5 (fun _ _ h => h)⟩
                  simp
                · have hh' : hasB sz nx f q = false := by simpa using hh
                  have HH := Lib.hid hh'
                  clear hh hh'
                  go_wp2_with (go_at_call 19; refine (hIq.has_ q hq2).mono ?_; rintro e w' ⟨rfl, n1, rfl⟩; rw [HH.out])
                  go_ret
                  exact ⟨rfl, hc.drewN _⟩
  · by_cases hl : longB l = true
    · have HL := Lib.hid hl
      clear hl
      go_enter Try.func7, Try.ntmps7
      go_wp2_with fail
      refine (awake_any w).mono ?_
      rintro e w1 ⟨rfl, k1⟩
      go_wp2_with fail
      refine (new_bad sz _ (by omega)).mono ?_
      rintro e w2 ⟨rfl, hw2⟩
      have k2 : Chg (fun _ => False) w w2 := hw2 ▸ k1
      have h2 := h.chg k2 (fun _ _ h => h)
      clear hw2
      go_wp2_with (go_at_call 9; refine (long_any h2 hn).mono ?_; rintro e w' ⟨rfl, rfl⟩; rw [HL.out])
      go_ret
      exact ⟨rfl, k2⟩
    · have hl' : longB l = false := by simpa using hl
      have HL := Lib.hid hl'
      clear hl hl'
      by_cases h1 : 100 < l.length
      · have d1 : decide ((100 : Int) < (l.length : Int)) = true := by simp; omega
        go_enter Try.func7, Try.ntmps7
        go_wp2_with fail
        refine (awake_any w).mono ?_
        rintro e w1 ⟨rfl, k1⟩
        go_wp2_with fail
        refine (new_bad sz _ (by omega)).mono ?_
        rintro e w2 ⟨rfl, hw2⟩
        have k2 : Chg (fun _ => False) w w2 := hw2 ▸ k1
        have h2 := h.chg k2 (fun _ _ h => h)
        clear hw2
        go_wp2_with (go_at_call 9; refine (long_any h2 hn).mono ?_; rintro e w' ⟨rfl, rfl⟩; rw [HL.out])
        go_ret
        exact ⟨rfl, k2⟩
      · have d1 : decide ((100 : Int) < (l.length : Int)) = false := by simp; omega
        by_cases h0 : l.length = 0
        · have d2 : ((l.length : Int) == 0) = true := beq_iff_eq.2 (by omega)
          have H0 := Lib.hid h0
          clear h0
          go_enter Try.func7, Try.ntmps7
          go_wp2_with fail
          refine (awake_any w).mono ?_
          rintro e w1 ⟨rfl, k1⟩
          go_wp2_with fail
          refine (new_bad sz _ (by omega)).mono ?_
          rintro e w2 ⟨rfl, hw2⟩
          have k2 : Chg (fun _ => False) w w2 := hw2 ▸ k1
          have h2 := h.chg k2 (fun _ _ h => h)
          clear hw2
          go_wp2_with (go_at_call 9; refine (long_any h2 hn).mono ?_; rintro e w' ⟨rfl, rfl⟩; rw [HL.out])
          go_ret
          exact ⟨rfl, k2⟩
        · have d2 : ((l.length : Int) == 0) = false := beq_eq_false_iff_ne.2 (by omega)
          by_cases h3 : 100 < nb
          · have d3 : decide ((100 : Int) < (nb : Int)) = true := by simp; omega
            go_enter Try.func7, Try.ntmps7
            go_wp2_with fail
            refine (awake_any w).mono ?_
            rintro e w1 ⟨rfl, k1⟩
            go_wp2_with fail
            refine (new_bad sz _ (by omega)).mono ?_
            rintro e w2 ⟨rfl, hw2⟩
            have k2 : Chg (fun _ => False) w w2 := hw2 ▸ k1
            have h2 := h.chg k2 (fun _ _ h => h)
            clear hw2
            go_wp2_with (go_at_call 9; refine (long_any h2 hn).mono ?_; rintro e w' ⟨rfl, rfl⟩; rw [HL.out])
            go_ret
            exact ⟨rfl, k2⟩
          · have d3 : decide ((100 : Int) < (nb : Int)) = false := by simp; omega
            go_enter Try.func7, Try.ntmps7
            go_wp2_with fail
            refine (awake_any w).mono ?_
            rintro e w1 ⟨rfl, k1⟩
            go_wp2_with fail
            refine (new_bad sz _ (by omega)).mono ?_
            rintro e w2 ⟨rfl, hw2⟩
            have k2 : Chg (fun _ => False) w w2 := hw2 ▸ k1
            have h2 := h.chg k2 (fun _ _ h => h)
            clear hw2
            go_wp2_with (go_at_call 9; refine (long_any h2 hn).mono ?_; rintro e w' ⟨rfl, rfl⟩; rw [HL.out])
            go_ret
            exact ⟨rfl, k2⟩
end Go.Proofs.Ytjmbealiinecjaa
