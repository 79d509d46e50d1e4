/- RetainLater, walked, where both lists are short enough to be laid behind one another. -/
import Derived.Test.YtjfkjohocopcgaaTellsWalk
namespace Go.Proofs.Ytjfkjohocopcgaa
open Go.RowKit Go.Maps

theorem own_fresh {w : World} {B : Nat} {v1 : Value} (ha : v1.ownBlock = (Value.slice (some ⟨B, 0, none⟩) 0 0).ownBlock ∨ v1.ownBlock = some (w.alloc (.cells #[] 37)).heap.size) (hB : B = w.heap.size) {g : Nat} (hg : v1.ownBlock = some g) : w.heap.size ≤ g := by
  rcases ha with ha | ha
  · rw [hg] at ha
    have : g = B := by simpa [Value.ownBlock] using ha
    omega
  · rw [hg] at ha
    simp at ha
    omega
theorem both_in {w w1 w2 : World} {l m : List Snp} {B : Nat} {v1 v2 : Value} (ho : w1.ownsRow 0 37 2 v1 (0 + l.length) ([] ++ snapCells l)) (hg : (w.alloc (.cells #[] 37)).grownBy w1 (Value.slice (some ⟨B, 0, none⟩) 0 0).ownBlock)
    (ha : v1.ownBlock = (Value.slice (some ⟨B, 0, none⟩) 0 0).ownBlock ∨ v1.ownBlock = some (w.alloc (.cells #[] 37)).heap.size) (hB : B = w.heap.size)
    (ho2 : w2.ownsRow 0 37 2 v2 (0 + l.length + m.length) ([] ++ snapCells l ++ snapCells m)) (hg2 : w1.grownBy w2 v1.ownBlock) : Chg (fun _ => False) w w2 ∧ ∃ A c, v2 = .slice A (l ++ m).length c ∧ Snaps (fun _ => True) w2 A (l ++ m) := by
  have k1 := (tells_in ho hg ha hB).1
  have k2 : Chg (fun _ => False) w w2 := k1.grown hg2 fun k hk => .inl (own_fresh ha hB hk)
  have e1 : [] ++ snapCells l ++ snapCells m = snapCells (l ++ m) := by simp [snapCells]
  have e2 : 0 + l.length + m.length = (l ++ m).length := by simp
  rw [e1, e2] at ho2
  refine ⟨k2, ?_⟩
  obtain ⟨A, c, rfl, _, _⟩ := own_shape ho2
  exact ⟨A, c, rfl, (OwnS.snaps (W := { w with heap := #[] }) ⟨ho2, fun _ _ => Nat.zero_le _⟩).2⟩

set_option maxRecDepth 100000 in
set_option maxHeartbeats 2400000 in
theorem retainLater_any {w : World} {A A' : Option Addr} {l m : List Snp} {c c' : Nat} (h : Snaps (fun b => b < w.heap.size) w A l) (hm : Snaps (fun b => b < w.heap.size) w A' m) (hl : l.length ≤ 1048576) (hml : m.length ≤ 1048576) (p : Pol) :
    Calls Try.prog 7 #[.slice A l.length c, .slice A' m.length c', p.v] w fun e w' => e = .returned (.bool true) ∧ Chg (fun _ => False) w w' := by
  obtain ⟨pl, ps, pss⟩ := p
  unfold Pol.v
  have hB := Blk.new w 24 #[.int .i64 pl, .int .i64 ps, .int .i64 pss]
  have k0 : Chg (fun _ => False) w (w.alloc (.cells #[.int .i64 pl, .int .i64 ps, .int .i64 pss] 24)) := (Chg.refl _ w).alloc _
  obtain ⟨i0, hi0, hz0, hs0, hb0⟩ := info_parts Try.info37
  have q1 : 0 + l.length ≤ maxLen := by unfold maxLen; omega
  have q2 : (0 + l.length) * 16 ≤ 140737488355328 := by omega
  have q3 : 0 + l.length + m.length ≤ maxLen := by unfold maxLen; omega
  have q4 : (0 + l.length + m.length) * 16 ≤ 140737488355328 := by omega
  have hone := snapCells_one l
  have honem := snapCells_one m
  have hcl : (snapCells l).length = l.length * 2 := snapCells_length l
  have hcm : (snapCells m).length = m.length * 2 := snapCells_length m
  obtain ⟨al, hal⟩ : ∃ al, l ++ m = al := ⟨_, rfl⟩
  have hpre := Lib.hid (fun hs => sound_pre (l := l) (m := m) (prev := 0) (hal ▸ hs))
  have hlm := Lib.hid (fun hs n hn => hal ▸ later_mem (p := ⟨pl, ps, pss⟩) (l := l) (m := m) (hal ▸ hs) (n := n) hn)
  have hlen : l.length ≤ al.length := by rw [← hal]; simp
  have hlen2 : al.length ≤ 4194304 := by rw [← hal]; simp; omega
  have HAL := Lib.hid hal
  clear hal
  by_cases h100 : al.length ≤ 100
  · rcases hs : soundB 0 al with _ | _
    · have HS := Lib.hid hs
      clear hs
      go_enter Try.func7, Try.ntmps7
      go_wp2_with (first
        | (go_at_call 9; refine (awake_any _).mono ?_; rintro e wa ⟨rfl, ka⟩; have k0a := nochg k0 ka)
        | (at_builtin; refine wpList_append_any _ rfl (.tmp 15) (.tmp 16) 22 rfl 0 37 i0 (.agg #[.int .i64 0, .int .i64 0]) 2 16 Try.underlying22 hi0 hz0 hs0 hb0 rfl (by decide) (.slice (some ⟨wa.heap.size, 0, none⟩) 0 0) 0 [] rfl (built_none _ rfl) A l.length c (snapCells l) rfl hcl (h.chg (k0a.alloc _) (fun _ _ h => h)) hone q1 q2 (Nat.zero_le _) ?_; intro v1 w1 ho1 hg1 ha1)
        | (at_builtin; refine wpList_append_any _ rfl (.tmp 17) (.tmp 18) 22 rfl 0 37 i0 (.agg #[.int .i64 0, .int .i64 0]) 2 16 Try.underlying22 hi0 hz0 hs0 hb0 rfl (by decide) v1 (0 + l.length) ([] ++ snapCells l) rfl ho1 A' m.length c' (snapCells m) rfl hcm (hm.chg (nochg k0a (tells_in ho1 hg1 ha1 rfl).1) (fun _ _ h => h)) honem q3 q4 (Nat.zero_le _) ?_; intro v2 w2 ho2 hg2 ha2; have hb2 := both_in ho1 hg1 ha1 rfl ho2 hg2; rw [HAL.out] at hb2; obtain ⟨k2, A2, c2, rfl, hS2⟩ := hb2; have hB2 := hB.chg (nochg ka k2) (fun h => h); have x0 := hB2.cell 0; have x1 := hB2.cell 1; have x2 := hB2.cell 2; simp only [List.getElem?_toArray] at x0 x1 x2; clear ho1 hg1 ha1 ho2 hg2 ha2 q1 q2 q3 q4 hcl hcm hone honem)
        | (go_at_call 11; refine (sound_is HS.out hS2 (by omega)).mono ?_; rintro e w3 ⟨rfl, k3⟩; have hB3 := hB.chg (nochg (nochg ka k2) k3) (fun h => h); have y0 := hB3.cell 0; have y1 := hB3.cell 1; have y2 := hB3.cell 2; simp only [List.getElem?_toArray] at y0 y1 y2))
      go_ret
      exact ⟨rfl, nochg (nochg k0a k2) k3⟩
    · have HS := Lib.hid hs
      rcases hp : Pol.ok ⟨pl, ps, pss⟩ with _ | _
      · have HP := Lib.hid hp
        clear hs hp
        go_enter Try.func7, Try.ntmps7
        go_wp2_with (first
          | (go_at_call 9; refine (awake_any _).mono ?_; rintro e wa ⟨rfl, ka⟩; have k0a := nochg k0 ka)
          | (at_builtin; refine wpList_append_any _ rfl (.tmp 15) (.tmp 16) 22 rfl 0 37 i0 (.agg #[.int .i64 0, .int .i64 0]) 2 16 Try.underlying22 hi0 hz0 hs0 hb0 rfl (by decide) (.slice (some ⟨wa.heap.size, 0, none⟩) 0 0) 0 [] rfl (built_none _ rfl) A l.length c (snapCells l) rfl hcl (h.chg (k0a.alloc _) (fun _ _ h => h)) hone q1 q2 (Nat.zero_le _) ?_; intro v1 w1 ho1 hg1 ha1)
          | (at_builtin; refine wpList_append_any _ rfl (.tmp 17) (.tmp 18) 22 rfl 0 37 i0 (.agg #[.int .i64 0, .int .i64 0]) 2 16 Try.underlying22 hi0 hz0 hs0 hb0 rfl (by decide) v1 (0 + l.length) ([] ++ snapCells l) rfl ho1 A' m.length c' (snapCells m) rfl hcm (hm.chg (nochg k0a (tells_in ho1 hg1 ha1 rfl).1) (fun _ _ h => h)) honem q3 q4 (Nat.zero_le _) ?_; intro v2 w2 ho2 hg2 ha2; have hb2 := both_in ho1 hg1 ha1 rfl ho2 hg2; rw [HAL.out] at hb2; obtain ⟨k2, A2, c2, rfl, hS2⟩ := hb2; have hB2 := hB.chg (nochg ka k2) (fun h => h); have x0 := hB2.cell 0; have x1 := hB2.cell 1; have x2 := hB2.cell 2; simp only [List.getElem?_toArray] at x0 x1 x2; clear ho1 hg1 ha1 ho2 hg2 ha2 q1 q2 q3 q4 hcl hcm hone honem)
          | (go_at_call 11; refine (sound_is HS.out hS2 (by omega)).mono ?_; rintro e w3 ⟨rfl, k3⟩; have hB3 := hB.chg (nochg (nochg ka k2) k3) (fun h => h); have y0 := hB3.cell 0; have y1 := hB3.cell 1; have y2 := hB3.cell 2; simp only [List.getElem?_toArray] at y0 y1 y2)
          | (go_at_call 12; refine (check_no _ _ _ _ HP.out).mono ?_; rintro e w4 ⟨rfl, k4⟩))
        go_ret
        exact ⟨rfl, nochg (nochg (nochg k0a k2) k3) k4⟩
      · have HP := Lib.hid hp
        clear hs hp
        go_enter Try.func7, Try.ntmps7
        go_wp2_with (first
          | (go_at_call 9; refine (awake_any _).mono ?_; rintro e wa ⟨rfl, ka⟩; have k0a := nochg k0 ka)
          | (at_builtin; refine wpList_append_any _ rfl (.tmp 15) (.tmp 16) 22 rfl 0 37 i0 (.agg #[.int .i64 0, .int .i64 0]) 2 16 Try.underlying22 hi0 hz0 hs0 hb0 rfl (by decide) (.slice (some ⟨wa.heap.size, 0, none⟩) 0 0) 0 [] rfl (built_none _ rfl) A l.length c (snapCells l) rfl hcl (h.chg (k0a.alloc _) (fun _ _ h => h)) hone q1 q2 (Nat.zero_le _) ?_; intro v1 w1 ho1 hg1 ha1)
          | (at_builtin; refine wpList_append_any _ rfl (.tmp 17) (.tmp 18) 22 rfl 0 37 i0 (.agg #[.int .i64 0, .int .i64 0]) 2 16 Try.underlying22 hi0 hz0 hs0 hb0 rfl (by decide) v1 (0 + l.length) ([] ++ snapCells l) rfl ho1 A' m.length c' (snapCells m) rfl hcm (hm.chg (nochg k0a (tells_in ho1 hg1 ha1 rfl).1) (fun _ _ h => h)) honem q3 q4 (Nat.zero_le _) ?_; intro v2 w2 ho2 hg2 ha2; have hb2 := both_in ho1 hg1 ha1 rfl ho2 hg2; rw [HAL.out] at hb2; obtain ⟨k2, A2, c2, rfl, hS2⟩ := hb2; have hB2 := hB.chg (nochg ka k2) (fun h => h); have x0 := hB2.cell 0; have x1 := hB2.cell 1; have x2 := hB2.cell 2; simp only [List.getElem?_toArray] at x0 x1 x2; clear ho1 hg1 ha1 ho2 hg2 ha2 q1 q2 q3 q4 hcl hcm hone honem)
          | (go_at_call 11; refine (sound_is HS.out hS2 (by omega)).mono ?_; rintro e w3 ⟨rfl, k3⟩; have hB3 := hB.chg (nochg (nochg ka k2) k3) (fun h => h); have y0 := hB3.cell 0; have y1 := hB3.cell 1; have y2 := hB3.cell 2; simp only [List.getElem?_toArray] at y0 y1 y2)
          | (go_at_call 12; refine (check_ok _ _ _ _ HP.out).mono ?_; rintro e w4 ⟨rfl, k4⟩; have k24 := nochg k3 k4; have hB4 := hB3.chg k4 (fun h => h); have z0 := hB4.cell 0; have z1 := hB4.cell 1; have z2 := hB4.cell 2; simp only [List.getElem?_toArray] at z0 z1 z2)
          | (go_at_call 16; with_reducible refine (Go_ok (h.chg (nochg (nochg k0a k2) k24) (fun _ _ h => h)) (by omega) (hpre.out HS.out) pl ps pss HP.out).mono ?_; rintro e w5 ⟨va, rfl, hO5, k5⟩; have k25 := nochg k24 k5; have hB5 := hB4.chg k5 (fun h => h); have s0 := hB5.cell 0; have s1 := hB5.cell 1; have s2 := hB5.cell 2; simp only [List.getElem?_toArray] at s0 s1 s2)
          | (go_at_call 16; with_reducible refine (Go_ok (hS2.chg k25 (fun _ _ h => h)) (by omega) HS.out pl ps pss HP.out).mono ?_; rintro e w6 ⟨vb, rfl, hO6, k6⟩; have hO5' := hO5.new_ k6; have k26 := nochg k25 k6; obtain ⟨Aa, ca, rfl, hca, hma⟩ := own_shape hO5'.row; obtain ⟨Ab, cb, rfl, hcb, hmb⟩ := own_shape hO6.row))
        have k06 := nochg (nochg k0a k2) k26
        have hNa := hO5'.nums.2
        have hNb := hO6.nums.2
        have hla := numsJ_le ⟨pl, ps, pss⟩ l false l.length
        have hlb := numsJ_le ⟨pl, ps, pss⟩ al false al.length
        have hin := Lib.hid (fun n hn => hlm.out HS.out n hn)
        clear y0 y1 y2 z0 z1 z2 s0 s1 s2
        generalize numsJ ⟨pl, ps, pss⟩ l false l.length = ta at *
        generalize numsJ ⟨pl, ps, pss⟩ al false al.length = tb at *
        go_loopg [13] ta.length (fun k i wr => ∃ j : Nat, (j + k ≤ ta.length ∧ ta.length ≤ j + k) ∧ i = .int .i64 (j : Int) ∧ wr = w6)
        case atStart => exact ⟨0, ⟨by omega, by omega⟩, rfl, rfl⟩
        case round =>
          obtain ⟨j, ⟨hj1, hj2⟩, rfl, rfl⟩ := hrel
          by_cases hj : j < ta.length
          · obtain ⟨ad, rfl, _, c1⟩ := nums_at hNa hj
            have hc : tb.contains ta[j] = true := by simpa using hin.out _ (List.getElem_mem hj)
            have HC := Lib.hid hc
            clear hc
            generalize ta[j] = n at c1 HC
            have hji : (j : Int) < (ta.length : Int) := by omega
            go_wp2_with (go_at_call 14; refine (among_any hNb (by omega) _).mono ?_; rintro e w' ⟨rfl, rfl⟩; rw [HC.out])
            go_roundg (gk - 1)
            case measure => omega
            case rel => exact ⟨j + 1, ⟨by omega, by omega⟩, by go_num, rfl⟩
          · go_wp2_with fail
            go_ret
            exact ⟨rfl, k06⟩
  · go_enter Try.func7, Try.ntmps7
    go_wp2_with (first
      | (go_at_call 9; refine (awake_any _).mono ?_; rintro e wa ⟨rfl, ka⟩; have k0a := nochg k0 ka)
      | (at_builtin; refine wpList_append_any _ rfl (.tmp 15) (.tmp 16) 22 rfl 0 37 i0 (.agg #[.int .i64 0, .int .i64 0]) 2 16 Try.underlying22 hi0 hz0 hs0 hb0 rfl (by decide) (.slice (some ⟨wa.heap.size, 0, none⟩) 0 0) 0 [] rfl (built_none _ rfl) A l.length c (snapCells l) rfl hcl (h.chg (k0a.alloc _) (fun _ _ h => h)) hone q1 q2 (Nat.zero_le _) ?_; intro v1 w1 ho1 hg1 ha1)
      | (at_builtin; refine wpList_append_any _ rfl (.tmp 17) (.tmp 18) 22 rfl 0 37 i0 (.agg #[.int .i64 0, .int .i64 0]) 2 16 Try.underlying22 hi0 hz0 hs0 hb0 rfl (by decide) v1 (0 + l.length) ([] ++ snapCells l) rfl ho1 A' m.length c' (snapCells m) rfl hcm (hm.chg (nochg k0a (tells_in ho1 hg1 ha1 rfl).1) (fun _ _ h => h)) honem q3 q4 (Nat.zero_le _) ?_; intro v2 w2 ho2 hg2 ha2; have hb2 := both_in ho1 hg1 ha1 rfl ho2 hg2; rw [HAL.out] at hb2; obtain ⟨k2, A2, c2, rfl, hS2⟩ := hb2; have hB2 := hB.chg (nochg ka k2) (fun h => h); have x0 := hB2.cell 0; have x1 := hB2.cell 1; have x2 := hB2.cell 2; simp only [List.getElem?_toArray] at x0 x1 x2; clear ho1 hg1 ha1 ho2 hg2 ha2 q1 q2 q3 q4 hcl hcm hone honem))
    go_ret
    exact ⟨rfl, nochg k0a k2⟩
end Go.Proofs.Ytjfkjohocopcgaa
