/- RetainParts, walked. -/
import Derived.Test.YtjfkjohocopcgaaSpansWalk
namespace Go.Proofs.Ytjfkjohocopcgaa
open Go.RowKit Go.Maps

theorem Go_ok {D : Nat → Prop} {w : World} {A : Option Addr} {l : List Snp} {c : Nat} (h : Snaps D w A l) (hl : l.length ≤ 1000) (hs : soundB 0 l = true) (a b d : Int) (hp : Pol.ok ⟨a, b, d⟩ = true) :
    Calls Try.prog 16 #[.slice A l.length c, .agg #[.int .i64 a, .int .i64 b, .int .i64 d]] w fun e w' => ∃ v, e = .returned (.tuple #[v, .int .i64 0]) ∧ OwnI w w' v (numsJ ⟨a, b, d⟩ l false l.length) ∧ Chg (fun _ => False) w w' := by
  have := Go_any (c := c) h hl ⟨a, b, d⟩
  rw [toldCode_ok hp hs, toldL_ok hp hs] at this
  exact this

theorem stays_last {p : Pol} {l : List Snp} (h : soundB 0 l = true) {i : Nat} (hi : i < l.length) (hs : stB p l i = false) : i + 1 ≠ l.length ∧ p.last < (l.length : Int) - i := by
  refine ⟨fun he => ?_, ?_⟩
  · have := (stB_iff (p := p) h hi).2 (.inr (.inl he))
    rw [this] at hs; cases hs
  · rcases Int.lt_or_le p.last ((l.length : Int) - i) with h1 | h1
    · exact h1
    · have := (stB_iff (p := p) h hi).2 (.inr (.inr (by omega)))
      rw [this] at hs; cases hs
theorem stays_some {p : Pol} {l : List Snp} (h : soundB 0 l = true) (hl : 0 < l.length) : 0 < (numsJ p l true l.length).length := by
  have hi : l.length - 1 < l.length := by omega
  have hst := (stB_iff (p := p) h hi).2 (.inr (.inl (by omega)))
  exact List.length_pos_of_mem (mem_nums.2 ⟨_, hi, hst, rfl⟩)

set_option maxRecDepth 100000 in
set_option maxHeartbeats 2400000 in
theorem retainParts_any {w : World} {A : Option Addr} {l : List Snp} {c : Nat} (h : Snaps (fun b => b < w.heap.size) w A l) (hl : l.length ≤ 9223372036854775807) (p : Pol) :
    Calls Try.prog 6 #[.slice A l.length c, p.v] w fun e w' => e = .returned (.bool true) ∧ Chg (fun _ => False) w w' := by
  obtain ⟨pl, ps, pss⟩ := p
  unfold Pol.v
  have hB := Blk.new w 24 #[.int .i64 pl, .int .i64 ps, .int .i64 pss]
  have k0 : Chg (fun _ => False) w (w.alloc (.cells #[.int .i64 pl, .int .i64 ps, .int .i64 pss] 24)) := (Chg.refl _ w).alloc _
  by_cases h100 : l.length ≤ 100
  · rcases hs : soundB 0 l with _ | _
    · have HS := Lib.hid hs
      clear hs
      go_enter Try.func6, Try.ntmps6
      go_wp2_with (first
        | (go_at_call 9; refine (awake_any _).mono ?_; rintro e w1 ⟨rfl, k1⟩)
        | (go_at_call 11; refine (sound_any (h.chg (k0.trans k1 (fun _ _ h => h)) (fun _ _ h => h)) hl).mono ?_; rintro e w3 ⟨rfl, k3⟩; rw [HS.out]))
      go_ret
      exact ⟨rfl, (k0.trans k1 (fun _ _ h => h)).trans k3 (fun _ _ h => h)⟩
    · have HS := Lib.hid hs
      rcases hp : Pol.ok ⟨pl, ps, pss⟩ with _ | _
      · have HP := Lib.hid hp
        clear hs hp
        go_enter Try.func6, Try.ntmps6
        go_wp2_with (first
          | (go_at_call 9; refine (awake_any _).mono ?_; rintro e w1 ⟨rfl, k1⟩)
          | (go_at_call 11; refine (sound_any (h.chg (k0.trans k1 (fun _ _ h => h)) (fun _ _ h => h)) hl).mono ?_; rintro e w3 ⟨rfl, k3⟩; rw [HS.out]; have k13 := k1.trans k3 (fun _ _ h => h); have y0 := (hB.chg k13 (fun h => h)).cell 0; have y1 := (hB.chg k13 (fun h => h)).cell 1; have y2 := (hB.chg k13 (fun h => h)).cell 2; simp only [List.getElem?_toArray] at y0 y1 y2)
          | (go_at_call 12; refine (check_no _ _ _ _ HP.out).mono ?_; rintro e w4 ⟨rfl, k4⟩))
        go_ret
        exact ⟨rfl, (k0.trans k13 (fun _ _ h => h)).trans k4 (fun _ _ h => h)⟩
      · have HP := Lib.hid hp
        have hpo := hp
        simp only [Pol.ok, Bool.and_eq_true, decide_eq_true_iff] at hpo
        obtain ⟨⟨⟨p1, p2⟩, p3, p4⟩, p5, p6⟩ := hpo
        clear hp
        have hpt := Lib.hid (nums_parts ⟨pl, ps, pss⟩ l)
        have hta := numsJ_le ⟨pl, ps, pss⟩ l true l.length
        have htb := numsJ_le ⟨pl, ps, pss⟩ l false l.length
        have hso := Lib.hid (stays_some (p := ⟨pl, ps, pss⟩) hs)
        have hca := Lib.hid (fun i (hi : i < l.length) => contains_nums (p := ⟨pl, ps, pss⟩) hs hi true)
        have hcb := Lib.hid (fun i (hi : i < l.length) => contains_nums (p := ⟨pl, ps, pss⟩) hs hi false)
        have hla := Lib.hid (fun i (hi : i < l.length) => stays_last (p := ⟨pl, ps, pss⟩) hs hi)
        have hag := Lib.hid (again_nums (p := ⟨pl, ps, pss⟩) hs)
        have hkl := leftL_le l (numsJ ⟨pl, ps, pss⟩ l true l.length)
        have b1 : (((numsJ ⟨pl, ps, pss⟩ l true l.length).length : Int) + ((numsJ ⟨pl, ps, pss⟩ l false l.length).length : Int) != (l.length : Int)) = false := by
          have := hpt.out
          simp; omega
        clear hs
        by_cases hz : l.length = 0
        all_goals try (have z1 : ¬ 0 < l.length := by omega)
        all_goals try (have z2 : 0 < l.length := (by omega); have z3 : (((numsJ ⟨pl, ps, pss⟩ l true l.length).length : Int) == 0) = false := (beq_eq_false_iff_ne.2 (by have := hso.out (by omega); omega)))
        all_goals have HZ := Lib.hid hz
        all_goals clear hz
        all_goals
          go_enter Try.func6, Try.ntmps6
          go_wp2_with (first
            | (go_at_call 9; refine (awake_any _).mono ?_; rintro e w1 ⟨rfl, k1⟩)
            | (go_at_call 11; refine (sound_any (h.chg (k0.trans k1 (fun _ _ h => h)) (fun _ _ h => h)) hl).mono ?_; rintro e w3 ⟨rfl, k3⟩; rw [HS.out]; have k13 := k1.trans k3 (fun _ _ h => h); have y0 := (hB.chg k13 (fun h => h)).cell 0; have y1 := (hB.chg k13 (fun h => h)).cell 1; have y2 := (hB.chg k13 (fun h => h)).cell 2; simp only [List.getElem?_toArray] at y0 y1 y2)
            | (go_at_call 12; refine (check_ok _ _ _ _ HP.out).mono ?_; rintro e w4 ⟨rfl, k4⟩; have k14 := k13.trans k4 (fun _ _ h => h); have x0 := (hB.chg k14 (fun h => h)).cell 0; have x1 := (hB.chg k14 (fun h => h)).cell 1; have x2 := (hB.chg k14 (fun h => h)).cell 2; simp only [List.getElem?_toArray] at x0 x1 x2)
            | (go_at_call 13; refine (Stay_ok (h.chg (k0.trans k14 (fun _ _ h => h)) (fun _ _ h => h)) (by omega) HS.out pl ps pss HP.out).mono ?_; rintro e w5 ⟨va, rfl, hO5, k5⟩; have k15 := k14.trans k5 (fun _ _ h => h); have s0 := (hB.chg k15 (fun h => h)).cell 0; have s1 := (hB.chg k15 (fun h => h)).cell 1; have s2 := (hB.chg k15 (fun h => h)).cell 2; simp only [List.getElem?_toArray] at s0 s1 s2)
            | (go_at_call 16; refine (Go_ok (h.chg (k0.trans k15 (fun _ _ h => h)) (fun _ _ h => h)) (by omega) HS.out pl ps pss HP.out).mono ?_; rintro e w6 ⟨vb, rfl, hO6, k6⟩; have k16 := k15.trans k6 (fun _ _ h => h); have hO5' := hO5.new_ k6; obtain ⟨Aa, ca, rfl, hca1, hma⟩ := own_shape hO5'.row; obtain ⟨Ab, cb, rfl, hcb1, hmb⟩ := own_shape hO6.row))
          clear y0 y1 y2 x0 x1 x2 s0 s1 s2 b1
          generalize hK : leftL l (numsJ ⟨pl, ps, pss⟩ l true l.length) = kept at *
          generalize hA : numsJ ⟨pl, ps, pss⟩ l true l.length = ta at *
          generalize numsJ ⟨pl, ps, pss⟩ l false l.length = tb at *
          have hNa := hO5'.nums.2
          have hNb := hO6.nums.2
          have v0 := (hB.chg k16 (fun h => h)).cell 0
          have v1 := (hB.chg k16 (fun h => h)).cell 1
          have v2 := (hB.chg k16 (fun h => h)).cell 2
          simp only [List.getElem?_toArray] at v0 v1 v2
          have HK := Lib.hid hK
          clear hK hA
          go_loopg [10, 11] l.length (fun k i _ wr => ∃ j : Nat, (j + k ≤ l.length ∧ l.length ≤ j + k) ∧ i = .int .i64 (j : Int) ∧ wr = w6)
          case atStart => exact ⟨0, ⟨by omega, by omega⟩, rfl, rfl⟩
          case round =>
            obtain ⟨j, ⟨hj1, hj2⟩, rfl, rfl⟩ := hrel
            by_cases hj : j < l.length
            · try (exfalso; omega)
              all_goals
                obtain ⟨ad, rfl, _, c1w, _⟩ := Snaps.at_ (D := fun b => b < w.heap.size) (w := w) (A := A) (l := l) h hj
                have c1 := (k0.trans k16 (fun _ _ h => h)).cell c1w (fun h => h)
                have ca := hca.out j hj
                have cb := hcb.out j hj
                have la := hla.out j hj
                clear c1w
                generalize l[j] = x at c1 ca cb
                obtain ⟨n, t⟩ := x
                simp only at c1 ca cb
                have hji : (j : Int) < (l.length : Int) := by omega
                rcases hst : stB ⟨pl, ps, pss⟩ l j with _ | _
                · rw [hst] at ca cb
                  obtain ⟨la1, la2⟩ := la hst
                  have e1 : ((j : Int) == (l.length : Int) - 1) = false := by simp; omega
                  have e2 : pl < (l.length : Int) - (j : Int) := la2
                  have CA := Lib.hid (show ta.contains n = false from ca)
                  have CB := Lib.hid (show tb.contains n = true from cb)
                  clear ca cb la la1 la2 hst
                  go_wp2_with (first
                    | (go_at_call 14; with_reducible refine (among_any hNa (by omega) n).mono ?_; rintro e w' ⟨rfl, rfl⟩; rw [CA.out])
                    | (go_at_call 14; with_reducible refine (among_any hNb (by omega) n).mono ?_; rintro e w' ⟨rfl, rfl⟩; rw [CB.out]))
                  go_roundg (gk - 1)
                  case measure => omega
                  case rel => exact ⟨j + 1, ⟨by omega, by omega⟩, by go_num, rfl⟩
                · rw [hst] at ca cb
                  have CA := Lib.hid (show ta.contains n = true from ca)
                  have CB := Lib.hid (show tb.contains n = false from cb)
                  clear ca cb la hst
                  go_wp2_with (first
                    | (go_at_call 14; with_reducible refine (among_any hNa (by omega) n).mono ?_; rintro e w' ⟨rfl, rfl⟩; rw [CA.out])
                    | (go_at_call 14; with_reducible refine (among_any hNb (by omega) n).mono ?_; rintro e w' ⟨rfl, rfl⟩; rw [CB.out]))
                  all_goals
                    go_roundg (gk - 1)
                    case measure => omega
                    case rel => exact ⟨j + 1, ⟨by omega, by omega⟩, by go_num, rfl⟩
            · have hkl2 : kept.length ≤ 1000 := by omega
              go_wp2_with fail
              go_region_held3 (fun w' => w'.cell? ⟨w.heap.size, 0, none⟩ = some (.int .i64 pl) ∧ w'.cell? ⟨w.heap.size, 1, none⟩ = some (.int .i64 ps) ∧ w'.cell? ⟨w.heap.size, 2, none⟩ = some (.int .i64 pss)) (first | go_keep | exact ⟨z0, z1, z2⟩)
                (first | (go_at_call 15; refine (left_any (ns := ta) (h.chg ((k0.trans k16 (fun _ _ h => h)).drew) (fun _ _ h => h)) (by omega) (RdC.chg hNa (Chg.refl (fun _ => False) wr).drew (fun _ _ h => h)) (by omega)).mono ?_; rintro e w7 ⟨vk, rfl, hO7, k7⟩; rw [HK.out] at hO7; obtain ⟨Ak, ck, rfl, hck, hmk⟩ := hO7.shape; have hB7 := (hB.chg ((k16.drew).trans k7 (fun _ _ h => h)) (fun h => h)); have z0 := hB7.cell 0; have z1 := hB7.cell 1; have z2 := hB7.cell 2; simp only [List.getElem?_toArray] at z0 z1 z2) | (go_at_call 13; refine (Stay_ok hO7.snaps.2 hkl2 hag.out.1 pl ps pss HP.out).mono ?_; rintro e w8 ⟨v8, rfl, hO8, k8⟩; rw [hag.out.2] at hO8; obtain ⟨A8, c8, rfl, hc8, hm8⟩ := own_shape hO8.row; have hB8 := hB7.chg k8 (fun h => h); have z0 := hB8.cell 0; have z1 := hB8.cell 1; have z2 := hB8.cell 2; simp only [List.getElem?_toArray] at z0 z1 z2))
              have k8w := (k7.trans k8 (fun _ _ h => h))
              have hNa8 := RdC.chg hNa (Chg.trans (Chg.refl (fun _ => False) wr).drew k8w (fun _ _ h => h)) (fun _ _ h => h)
              go_wp2_with (go_at_call 19; refine (sameInts_any hO8.nums.2 hNa8 (by omega)).mono ?_; rintro e w' ⟨rfl, n, rfl⟩; rw [show (ta == ta) = true by simp])
              go_ret
              exact ⟨rfl, ((k0.trans k16 (fun _ _ h => h)).trans (Chg.trans (Chg.refl (fun _ => False) wr).drew k8w (fun _ _ h => h)) (fun _ _ h => h)).drewN n⟩
  · go_enter Try.func6, Try.ntmps6
    go_wp2_with (first | (go_at_call 9; refine (awake_any _).mono ?_; rintro e w1 ⟨rfl, k1⟩))
    go_ret
    exact ⟨rfl, k0.trans k1 (fun _ _ h => h)⟩
end Go.Proofs.Ytjfkjohocopcgaa
