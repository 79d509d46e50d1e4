/- The document's answer: told (26), Stay (17), Go (18). -/
import Derived.Test.YtjfkjohocopcgaaRef2
namespace Go.Proofs.Ytjfkjohocopcgaa
open Go.RowKit Go.Maps

theorem rstays_at {D : Nat → Prop} {w : World} {A : Option Addr} {l : List Snp} {c : Nat} (h : Snaps D w A l) (hl : l.length ≤ 1000) (hs : soundB 0 l = true) (a b d : Int) (hp : Pol.ok ⟨a, b, d⟩ = true) (i : Nat) (hi : i < l.length) :
    Calls Try.prog 30 #[.slice A l.length c, .agg #[.int .i64 a, .int .i64 b, .int .i64 d], .int .i64 (i : Int)] w fun e w' => e = .returned (.bool (stB ⟨a, b, d⟩ l i)) ∧ Chg (fun _ => False) w w' := rstays_any h hl hs ⟨a, b, d⟩ hp i hi
theorem rcheck_is (a b d : Int) (w : World) {x : Int} (hp : Pol.code ⟨a, b, d⟩ = x) : Calls Try.prog 20 #[.agg #[.int .i64 a, .int .i64 b, .int .i64 d]] w fun e w' => e = .returned (.int .i64 x) ∧ Chg (fun _ => False) w w' := hp ▸ rcheck_any ⟨a, b, d⟩ w
theorem rsound_is {D : Nat → Prop} {w : World} {A : Option Addr} {l : List Snp} {c : Nat} {b : Bool} (hb : soundB 0 l = b) (h : Snaps D w A l) (hl : l.length ≤ 9223372036854775807) :
    Calls Try.prog 21 #[.slice A l.length c] w fun e w' => e = .returned (.bool b) ∧ Chg (fun _ => False) w w' := hb ▸ (rsound_any h hl).mono fun _ _ ⟨he, n, hw⟩ => ⟨he, hw ▸ (Chg.refl _ w).drewN n⟩

theorem own_grow {w w4 w5 : World} {v v5 : Value} {xs : List Int} {n : Int} {o : Obj} {g : Nat} {t : TypeId} {cs : Array Value} (hO : OwnI w w4 v xs) (hP : Blk w4 g t cs) (ht : 3 ≠ t) (k : Chg (fun _ => False) w w4) (hg : (w4.alloc o).grownBy w5 v.ownBlock)
    (ho : w5.ownsRow 0 3 1 v5 (xs.length + 1) (intCells xs ++ [.int .i64 n])) (ha : v5.ownBlock = v.ownBlock ∨ v5.ownBlock = some (w4.alloc o).heap.size) : Blk w5 g t cs ∧ Chg (fun _ => False) w w5 ∧ OwnI w w5 v5 (xs ++ [n]) := by
  have kg : Chg (fun k => some k = v.ownBlock) w4 w5 := ((Chg.refl _ w4).alloc o).grown hg fun _ hk => .inr hk.symm
  refine ⟨hP.chg kg (own_blk_ne hO.row hP ht), k.trans kg (fun b hb he => absurd (hO.fresh b he.symm) (by omega)), toldOwn_next hO k.size ho ha⟩

set_option maxRecDepth 100000 in
set_option maxHeartbeats 1600000 in
theorem rtold_any {D : Nat → Prop} {w : World} {A : Option Addr} {l : List Snp} {c : Nat} (h : Snaps D w A l) (hl : l.length ≤ 1000) (p : Pol) (st : Bool) :
    Calls Try.prog 26 #[.slice A l.length c, p.v, .bool st] w fun e w' => ∃ v, e = .returned (.tuple #[v, .int .i64 (toldCode p l)]) ∧ OwnI w w' v (toldL p l st) ∧ Chg (fun _ => False) w w' := by
  obtain ⟨pl, ps, pss⟩ := p
  unfold Pol.v
  have hB := Blk.new w 24 #[.int .i64 pl, .int .i64 ps, .int .i64 pss]
  have k0 : Chg (fun _ => False) w (w.alloc (.cells #[.int .i64 pl, .int .i64 ps, .int .i64 pss] 24)) := (Chg.refl _ w).alloc _
  rcases hp : Pol.ok ⟨pl, ps, pss⟩ with _ | _
  · have HC := Lib.hid (show Pol.code ⟨pl, ps, pss⟩ = 5 by simp [Pol.code, hp])
    have ht : toldCode ⟨pl, ps, pss⟩ l = 5 := by simp [toldCode, hp]
    have htl : toldL ⟨pl, ps, pss⟩ l st = [] := by simp [toldL, ht]
    rw [ht, htl]
    clear ht htl hp
    go_enter Try.func26, Try.ntmps26
    go_wp2_with (go_at_call 20; refine (rcheck_is _ _ _ _ HC.out).mono ?_; rintro e w1 ⟨rfl, k1⟩)
    go_ret2
    exact ⟨_, rfl, OwnI.nil _ _, k0.trans k1 (fun _ _ h => h)⟩
  · have HC := Lib.hid (show Pol.code ⟨pl, ps, pss⟩ = 0 by simp [Pol.code, hp])
    rcases hs : soundB 0 l with _ | _
    · have ht : toldCode ⟨pl, ps, pss⟩ l = 2 := by simp [toldCode, hp, hs]
      have htl : toldL ⟨pl, ps, pss⟩ l st = [] := by simp [toldL, ht]
      have HS := Lib.hid hs
      rw [ht, htl]
      clear ht htl hp hs
      go_enter Try.func26, Try.ntmps26
      go_wp2_with (first
        | (go_at_call 20; refine (rcheck_is _ _ _ _ HC.out).mono ?_; rintro e w1 ⟨rfl, k1⟩)
        | (go_at_call 21; refine (rsound_is HS.out (h.chg (k0.trans k1 (fun _ _ h => h)) (fun _ _ h => h)) (by omega)).mono ?_; rintro e w2 ⟨rfl, k2⟩))
      go_ret2
      exact ⟨_, rfl, OwnI.nil _ _, (k0.trans k1 (fun _ _ h => h)).trans k2 (fun _ _ h => h)⟩
    · have HS := Lib.hid hs
      have HP := Lib.hid hp
      have ht := toldCode_ok hp hs
      have HTL := Lib.hid (toldL_ok hp hs st)
      rw [ht]
      clear ht hp hs
      obtain ⟨i3, hi3, hz3, hs3, hby3⟩ := info_parts Try.info3
      go_enter Try.func26, Try.ntmps26
      go_wp2_with (first
        | (go_at_call 20; refine (rcheck_is _ _ _ _ HC.out).mono ?_; rintro e w1 ⟨rfl, k1⟩)
        | (go_at_call 21; refine (rsound_is HS.out (h.chg (k0.trans k1 (fun _ _ h => h)) (fun _ _ h => h)) (by omega)).mono ?_; rintro e w2 ⟨rfl, k2⟩; have k12 := k1.trans k2 (fun _ _ h => h)))
      have hB2 := hB.chg k12 (fun h => h)
      have k02 := k0.trans k12 (fun _ _ h => h)
      clear k1 k2 k12 hB k0
      go_loopg [8, 9] l.length (fun k v i wr => ∃ j : Nat, (j + k ≤ l.length ∧ l.length ≤ j + k) ∧ i = .int .i64 (j : Int) ∧ Blk wr w.heap.size 24 #[.int .i64 pl, .int .i64 ps, .int .i64 pss] ∧ Chg (fun _ => False) w wr ∧ OwnI w wr v (numsJ ⟨pl, ps, pss⟩ l st j))
      case atStart => exact ⟨0, ⟨by omega, by omega⟩, rfl, hB2, k02, OwnI.nil _ _⟩
      case round =>
        obtain ⟨j, ⟨hj1, hj2⟩, rfl, hP, k, hO⟩ := hrel
        by_cases hj : j < l.length
        · obtain ⟨ad, rfl, had, c1w, _⟩ := Snaps.at_ (D := D) (w := w) (A := A) (l := l) h hj
          have hnj := numsJ_succ ⟨pl, ps, pss⟩ l st j
          rw [List.getD_eq_getElem?_getD, List.getElem?_eq_getElem hj] at hnj
          simp only [Option.getD_some] at hnj
          generalize l[j] = x at c1w hnj
          obtain ⟨n, t⟩ := x
          simp only at c1w hnj
          have hjl : (j : Int) < (l.length : Int) := by omega
          have hnl := numsJ_le ⟨pl, ps, pss⟩ l st j
          have q1 : (numsJ ⟨pl, ps, pss⟩ l st j).length + 1 ≤ maxLen := by unfold maxLen; omega
          have q2 : ((numsJ ⟨pl, ps, pss⟩ l st j).length + 1) * 8 ≤ 140737488355328 := by omega
          have v0 := hP.cell 0
          have v1 := hP.cell 1
          have v2 := hP.cell 2
          simp only [List.getElem?_toArray] at v0 v1 v2
          have hPl := hP.lt
          rcases hse : (stB ⟨pl, ps, pss⟩ l j == st) with _ | _
          · rw [hse] at hnj
            simp only [Bool.false_eq_true, if_false, List.append_nil] at hnj
            have HN := Lib.hid hnj
            clear hnj
            go_wp2_with (first
              | (go_at_call 30; refine (rstays_at (h.chg k (fun _ _ h => h)) hl HS.out _ _ _ HP.out j hj).mono ?_; rintro e w4 ⟨rfl, k4⟩))
            go_roundg (gk - 1)
            case measure => omega
            case rel => exact ⟨j + 1, ⟨by omega, by omega⟩, by go_num, hP.chg k4 (fun h => h), k.trans k4 (fun _ _ h => h), by rw [HN.out]; exact hO.new_ k4⟩
          · rw [hse] at hnj
            simp only [if_true] at hnj
            have HN := Lib.hid hnj
            clear hnj
            go_wp2_with (first
              | (go_at_call 30; refine (rstays_at (h.chg k (fun _ _ h => h)) hl HS.out _ _ _ HP.out j hj).mono ?_; rintro e w4 ⟨rfl, k4⟩; have hO4 := hO.new_ k4; have hk4 := k.trans k4 (fun _ _ h => h); have hP4 := hP.chg k4 (fun h => h); have c4 := hk4.cell c1w (fun h => h))
              | (at_builtin; refine wpList_append_any _ rfl (.tmp 28) (.tmp 34) 30 rfl 0 3 i3 (.int .i64 0) 1 8 Try.underlying30 hi3 hz3 hs3 hby3 rfl (by decide) u8 (numsJ ⟨pl, ps, pss⟩ l st j).length (intCells (numsJ ⟨pl, ps, pss⟩ l st j)) rfl (hO4.row.alloc _) (some ⟨w4.heap.size, 0, none⟩) 1 1 [.int .i64 n] rfl rfl (RdC.one _ 3) (by intro u hu; simp at hu; subst hu; rfl) q1 q2 (Nat.zero_le _) ?_; intro v5 w5 ho5 hg5 ha5))
            have hgr := own_grow hO4 hP4 (by decide) hk4 hg5 ho5 ha5
            go_roundg (gk - 1)
            case measure => omega
            case rel => exact ⟨j + 1, ⟨by omega, by omega⟩, by go_num, hgr.1, hgr.2.1, by rw [HN.out]; exact hgr.2.2⟩
        · obtain rfl : j = l.length := by omega
          go_wp2_with fail
          go_ret2
          exact ⟨_, rfl, by rw [HTL.out]; exact hO, k⟩

theorem rStay_any {D : Nat → Prop} {w : World} {A : Option Addr} {l : List Snp} {c : Nat} (h : Snaps D w A l) (hl : l.length ≤ 1000) (p : Pol) :
    Calls Try.prog 17 #[.slice A l.length c, p.v] w fun e w' => ∃ v, e = .returned (.tuple #[v, .int .i64 (toldCode p l)]) ∧ OwnI w w' v (toldL p l true) ∧ Chg (fun _ => False) w w' := by
  have k0 : Chg (fun _ => False) w (w.alloc (.cells #[.int .i64 p.last, .int .i64 p.span, .int .i64 p.spans] 24)) := (Chg.refl _ w).alloc _
  have hc := rtold_any (c := c) (h.chg k0 (fun _ _ h => h)) hl p true
  have hs := k0.size
  have hvp : p.v = .agg #[.int .i64 p.last, .int .i64 p.span, .int .i64 p.spans] := rfl
  rw [hvp] at hc ⊢
  go_enter Try.func17, Try.ntmps17
  go_wp2_with (go_at_call 26; refine hc.mono ?_; rintro e w' ⟨v, rfl, hO, k⟩)
  go_ret2
  exact ⟨_, rfl, ⟨hO.row, fun g hg => Nat.le_trans hs (hO.fresh g hg)⟩, k0.trans k (fun _ _ h => h)⟩
theorem rGo_any {D : Nat → Prop} {w : World} {A : Option Addr} {l : List Snp} {c : Nat} (h : Snaps D w A l) (hl : l.length ≤ 1000) (p : Pol) :
    Calls Try.prog 18 #[.slice A l.length c, p.v] w fun e w' => ∃ v, e = .returned (.tuple #[v, .int .i64 (toldCode p l)]) ∧ OwnI w w' v (toldL p l false) ∧ Chg (fun _ => False) w w' := by
  have k0 : Chg (fun _ => False) w (w.alloc (.cells #[.int .i64 p.last, .int .i64 p.span, .int .i64 p.spans] 24)) := (Chg.refl _ w).alloc _
  have hc := rtold_any (c := c) (h.chg k0 (fun _ _ h => h)) hl p false
  have hs := k0.size
  have hvp : p.v = .agg #[.int .i64 p.last, .int .i64 p.span, .int .i64 p.spans] := rfl
  rw [hvp] at hc ⊢
  go_enter Try.func18, Try.ntmps18
  go_wp2_with (go_at_call 26; refine hc.mono ?_; rintro e w' ⟨v, rfl, hO, k⟩)
  go_ret2
  exact ⟨_, rfl, ⟨hO.row, fun g hg => Nat.le_trans hs (hO.fresh g hg)⟩, k0.trans k (fun _ _ h => h)⟩
end Go.Proofs.Ytjfkjohocopcgaa
