/- RetainTells, walked. -/
import Derived.Test.YtjfkjohocopcgaaRef3
import Derived.Test.YtjfkjohocopcgaaPartsWalk
namespace Go.Proofs.Ytjfkjohocopcgaa
open Go.RowKit Go.Maps

/-- A slice of no snapshots that was built. -/
theorem built_none (w : World) {B : Nat} (hB : B = w.heap.size) : (w.alloc (.cells #[] 37)).ownsRow 0 37 2 (.slice (some ⟨B, 0, none⟩) 0 0) 0 [] :=
  hB ▸ ⟨rfl, .inr ⟨w.heap.size, 0, #[], rfl, Nat.zero_le _, heap_alloc_new w _, Nat.le_refl _, by simp, rfl, rfl⟩⟩
theorem same_is {D D' : Nat → Prop} {w : World} {A A' : Option Addr} {xs : List Int} {n n' c c' : Nat} (hn : n = xs.length) (hn' : n' = xs.length) (ha : Nums D w A xs) (hb : Nums D' w A' xs) (hl : xs.length ≤ 9223372036854775807) :
    Calls Try.prog 19 #[.slice A n c, .slice A' n' c'] w fun e w' => e = .returned (.bool true) ∧ Chg (fun _ => False) w w' := by
  subst hn; subst hn'
  refine (sameInts_any ha hb hl).mono ?_
  rintro e w' ⟨rfl, n, rfl⟩
  exact ⟨by simp, (Chg.refl _ w).drewN n⟩
theorem check_is (a b d : Int) (w : World) {x : Int} (hp : Pol.code ⟨a, b, d⟩ = x) : Calls Try.prog 12 #[.agg #[.int .i64 a, .int .i64 b, .int .i64 d]] w fun e w' => e = .returned (.int .i64 x) ∧ Chg (fun _ => False) w w' := hp ▸ check_any ⟨a, b, d⟩ w
theorem sound_is {D : Nat → Prop} {w : World} {A : Option Addr} {l : List Snp} {c : Nat} {b : Bool} (hb : soundB 0 l = b) (h : Snaps D w A l) (hl : l.length ≤ 9223372036854775807) :
    Calls Try.prog 11 #[.slice A l.length c] w fun e w' => e = .returned (.bool b) ∧ Chg (fun _ => False) w w' := hb ▸ sound_any h hl
section
variable {D : Nat → Prop} {w : World} {A : Option Addr} {l : List Snp} {c : Nat} {a b d x : Int} {TL : List Int}
def Answers (w : World) (TL : List Int) (x : Int) (e : Ending) (w' : World) : Prop := ∃ A c, e = .returned (.tuple #[.slice A TL.length c, .int .i64 x]) ∧ Nums (fun _ => True) w' A TL ∧ Chg (fun _ => False) w w'
theorem answers {w : World} {TL : List Int} {x : Int} {e : Ending} {w' : World} (h : ∃ v, e = .returned (.tuple #[v, .int .i64 x]) ∧ OwnI w w' v TL ∧ Chg (fun _ => False) w w') : Answers w TL x e w' := by
  obtain ⟨v, rfl, hO, k⟩ := h
  obtain ⟨A, c, rfl, _, _⟩ := own_shape hO.row
  exact ⟨A, c, rfl, hO.nums.2, k⟩
theorem Stay_as (hx : toldCode ⟨a, b, d⟩ l = x) (ht : toldL ⟨a, b, d⟩ l true = TL) (h : Snaps D w A l) (hl : l.length ≤ 1000) : Calls Try.prog 13 #[.slice A l.length c, .agg #[.int .i64 a, .int .i64 b, .int .i64 d]] w (Answers w TL x) := by
  have := (Stay_any (c := c) h hl ⟨a, b, d⟩).mono fun e w' hh => answers hh
  rwa [hx, ht] at this
theorem Go_as (hx : toldCode ⟨a, b, d⟩ l = x) (ht : toldL ⟨a, b, d⟩ l false = TL) (h : Snaps D w A l) (hl : l.length ≤ 1000) : Calls Try.prog 16 #[.slice A l.length c, .agg #[.int .i64 a, .int .i64 b, .int .i64 d]] w (Answers w TL x) := by
  have := (Go_any (c := c) h hl ⟨a, b, d⟩).mono fun e w' hh => answers hh
  rwa [hx, ht] at this
theorem rStay_as (hx : toldCode ⟨a, b, d⟩ l = x) (ht : toldL ⟨a, b, d⟩ l true = TL) (h : Snaps D w A l) (hl : l.length ≤ 1000) : Calls Try.prog 17 #[.slice A l.length c, .agg #[.int .i64 a, .int .i64 b, .int .i64 d]] w (Answers w TL x) := by
  have := (rStay_any (c := c) h hl ⟨a, b, d⟩).mono fun e w' hh => answers hh
  rwa [hx, ht] at this
theorem rGo_as (hx : toldCode ⟨a, b, d⟩ l = x) (ht : toldL ⟨a, b, d⟩ l false = TL) (h : Snaps D w A l) (hl : l.length ≤ 1000) : Calls Try.prog 18 #[.slice A l.length c, .agg #[.int .i64 a, .int .i64 b, .int .i64 d]] w (Answers w TL x) := by
  have := (rGo_any (c := c) h hl ⟨a, b, d⟩).mono fun e w' hh => answers hh
  rwa [hx, ht] at this
end
theorem nochg {a b c : World} (h : Chg (fun _ => False) a b) (h' : Chg (fun _ => False) b c) : Chg (fun _ => False) a c := h.trans h' fun _ _ h => h

theorem Nums.chg {D S : Nat → Prop} {w w' : World} {A : Option Addr} {xs : List Int} (h : Nums D w A xs) (hw : Chg S w w') (hd : ∀ k, D k → ¬ S k) : Nums D w' A xs := RdC.chg h hw hd
theorem nodrew (w : World) : Chg (fun _ => False) w w.drew := (Chg.refl _ w).drew
theorem tells_in {w w1 : World} {l : List Snp} {B : Nat} {v1 : Value} (ho : w1.ownsRow 0 37 2 v1 (0 + l.length) ([] ++ snapCells l)) (hg : (w.alloc (.cells #[] 37)).grownBy w1 (Value.slice (some ⟨B, 0, none⟩) 0 0).ownBlock)
    (_ha : v1.ownBlock = (Value.slice (some ⟨B, 0, none⟩) 0 0).ownBlock ∨ v1.ownBlock = some (w.alloc (.cells #[] 37)).heap.size) (hB : B = w.heap.size := by simp) : Chg (fun _ => False) w w1 ∧ ∃ A c, v1 = .slice A l.length c ∧ Snaps (fun _ => True) w1 A l := by
  rw [Nat.zero_add, List.nil_append] at ho
  refine ⟨((Chg.refl (fun _ => False) w).alloc _).grown hg fun k hk => .inl ?_, ?_⟩
  · have : B = k := by simpa [Value.ownBlock] using hk
    omega
  · obtain ⟨A, c, rfl, _, _⟩ := own_shape ho
    exact ⟨A, c, rfl, (OwnS.snaps (W := { w with heap := #[] }) ⟨ho, fun _ _ => Nat.zero_le _⟩).2⟩

set_option maxRecDepth 100000 in
set_option maxHeartbeats 2400000 in
theorem retainTells_any {w : World} {A : Option Addr} {l : List Snp} {c : Nat} (h : Snaps (fun b => b < w.heap.size) w A l) (hl : l.length ≤ 9223372036854775807) (p : Pol) :
    Calls Try.prog 5 #[.slice A l.length c, p.v] w fun e w' => e = .returned (.bool true) ∧ Chg (fun _ => False) w w' := by
  obtain ⟨pl, ps, pss⟩ := p
  unfold Pol.v
  have hB := Blk.new w 24 #[.int .i64 pl, .int .i64 ps, .int .i64 pss]
  have k0 : Chg (fun _ => False) w (w.alloc (.cells #[.int .i64 pl, .int .i64 ps, .int .i64 pss] 24)) := (Chg.refl _ w).alloc _
  by_cases h100 : l.length ≤ 100
  · obtain ⟨X, hX⟩ : ∃ X, toldCode ⟨pl, ps, pss⟩ l = X := ⟨_, rfl⟩
    obtain ⟨TA, hTA⟩ : ∃ T, toldL ⟨pl, ps, pss⟩ l true = T := ⟨_, rfl⟩
    obtain ⟨TB, hTB⟩ : ∃ T, toldL ⟨pl, ps, pss⟩ l false = T := ⟨_, rfl⟩
    obtain ⟨cd, hcd⟩ : ∃ T, Pol.code ⟨pl, ps, pss⟩ = T := ⟨_, rfl⟩
    obtain ⟨sd, hsd⟩ : ∃ T, soundB 0 l = T := ⟨_, rfl⟩
    have hTAl : TA.length ≤ 100 := by have := toldL_le ⟨pl, ps, pss⟩ l true; rw [hTA] at this; omega
    have hTBl : TB.length ≤ 100 := by have := toldL_le ⟨pl, ps, pss⟩ l false; rw [hTB] at this; omega
    have HX := Lib.hid hX
    have HTA := Lib.hid hTA
    have HTB := Lib.hid hTB
    have HCD := Lib.hid hcd
    have HSD := Lib.hid hsd
    clear hX hTA hTB hcd hsd
    obtain ⟨i0, hi0, hz0, hs0, hb0⟩ := info_parts Try.info37
    have q1 : 0 + l.length ≤ maxLen := by unfold maxLen; omega
    have q2 : (0 + l.length) * 16 ≤ 140737488355328 := by omega
    have hone := snapCells_one l
    have hcl : (snapCells l).length = l.length * 2 := snapCells_length l
    go_enter Try.func5, Try.ntmps5
    go_wp2_with (first
      | (at_builtin; refine wpList_append_any _ rfl (.tmp 19) (.tmp 20) 22 rfl 0 37 i0 (.agg #[.int .i64 0, .int .i64 0]) 2 16 Try.underlying22 hi0 hz0 hs0 hb0 rfl (by decide) (.slice (some ⟨w.heap.size + 1, 0, none⟩) 0 0) 0 [] rfl (built_none _ (by simp)) A l.length c (snapCells l) rfl hcl (h.chg (k0.alloc _) (fun _ _ h => h)) hone q1 q2 (Nat.zero_le _) ?_; intro v1 w1 ho1 hg1 ha1; have ht := tells_in ho1 hg1 ha1; have kw1 := nochg k0 ht.1; obtain ⟨A1, c1, rfl, hS1⟩ := ht.2; have hB1 := hB.chg ht.1 (fun h => h); have x0 := hB1.cell 0; have x1 := hB1.cell 1; have x2 := hB1.cell 2; simp only [List.getElem?_toArray] at x0 x1 x2; clear ho1 hg1 ha1 ht q1 q2 hcl hone)
      | (go_at_call 13; refine (Stay_as HX.out HTA.out hS1 (by omega)).mono ?_; rintro e w2 ⟨A2, c2, rfl, hN2, k2⟩; have hB2 := hB1.chg k2 (fun h => h); have y0 := hB2.cell 0; have y1 := hB2.cell 1; have y2 := hB2.cell 2; simp only [List.getElem?_toArray] at y0 y1 y2)
      | (go_at_call 16; refine (Go_as HX.out HTB.out (hS1.chg k2 (fun _ _ h => h)) (by omega)).mono ?_; rintro e w3 ⟨A3, c3, rfl, hN3, k3⟩; have k23 := nochg k2 k3; have hB3 := hB2.chg k3 (fun h => h); have z0 := hB3.cell 0; have z1 := hB3.cell 1; have z2 := hB3.cell 2; simp only [List.getElem?_toArray] at z0 z1 z2)
      | (go_at_call 17; refine (rStay_as HX.out HTA.out (h.chg (nochg kw1 k23) (fun _ _ h => h)) (by omega)).mono ?_; rintro e w4 ⟨A4, c4, rfl, hN4, k4⟩; have k24 := nochg k23 k4; have hB4 := hB3.chg k4 (fun h => h); have s0 := hB4.cell 0; have s1 := hB4.cell 1; have s2 := hB4.cell 2; simp only [List.getElem?_toArray] at s0 s1 s2)
      | (go_at_call 18; refine (rGo_as HX.out HTB.out (h.chg (nochg kw1 k24) (fun _ _ h => h)) (by omega)).mono ?_; rintro e w5 ⟨A5, c5, rfl, hN5, k5⟩; have k25 := nochg k24 k5; have hB5 := hB4.chg k5 (fun h => h); have r0 := hB5.cell 0; have r1 := hB5.cell 1; have r2 := hB5.cell 2; simp only [List.getElem?_toArray] at r0 r1 r2))
    clear x0 x1 x2 y0 y1 y2 z0 z1 z2 s0 s1 s2
    have hS5 := hS1.chg k25 (fun _ _ h => h)
    have k05 := nochg kw1 k25
    have hs5 := h.chg k05 (fun _ _ h => h)
    have hN2' := hN2.chg (nochg k3 (nochg k4 k5)) (fun _ _ h => h)
    have hN3' := hN3.chg (nochg k4 k5) (fun _ _ h => h)
    have hN4' := hN4.chg k5 (fun _ _ h => h)
    clear hN2 hN3 hN4 k2 k3 k4 k5 k23 k24 k25 hB1 hB2 hB3 hB4 kw1 hB hS1
    go_cut [14] (fun v w6 => v = .bool true ∧ Chg (fun _ => False) w5 w6)
    case first =>
      go_region_held3 (fun w' => w'.cell? ⟨w.heap.size, 0, none⟩ = some (.int .i64 pl) ∧ w'.cell? ⟨w.heap.size, 1, none⟩ = some (.int .i64 ps) ∧ w'.cell? ⟨w.heap.size, 2, none⟩ = some (.int .i64 pss)) (first | go_keep | exact ⟨z0, z1, z2⟩)
        (first
        | (go_at_call 19; with_reducible refine (same_is (xs := TA) rfl rfl (hN2'.chg (nodrew w5) (fun _ _ h => h)) (hN4'.chg (nodrew w5) (fun _ _ h => h)) (by omega)).mono ?_; rintro e w6 ⟨rfl, k6⟩; have k6' := nochg (nodrew w5) k6; have hB6 := hB5.chg k6' (fun h => h); have z0 := hB6.cell 0; have z1 := hB6.cell 1; have z2 := hB6.cell 2; simp only [List.getElem?_toArray] at z0 z1 z2)
        | (go_at_call 19; with_reducible refine (same_is (xs := TB) rfl rfl (hN3'.chg k6' (fun _ _ h => h)) (hN5.chg k6' (fun _ _ h => h)) (by omega)).mono ?_; rintro e w7 ⟨rfl, k7⟩; have k7' := nochg k6' k7; have hB7 := hB5.chg k7' (fun h => h); have z0 := hB7.cell 0; have z1 := hB7.cell 1; have z2 := hB7.cell 2; simp only [List.getElem?_toArray] at z0 z1 z2)
        | (go_at_call 12; with_reducible refine (check_is _ _ _ _ HCD.out).mono ?_; rintro e w8 ⟨rfl, k8⟩; have k8' := nochg k7' k8; have hB8 := hB5.chg k8' (fun h => h); have z0 := hB8.cell 0; have z1 := hB8.cell 1; have z2 := hB8.cell 2; simp only [List.getElem?_toArray] at z0 z1 z2)
        | (go_at_call 20; with_reducible refine (rcheck_is _ _ _ _ HCD.out).mono ?_; rintro e w9 ⟨rfl, k9⟩; have k9' := nochg k8' k9; have hB9 := hB5.chg k9' (fun h => h); have z0 := hB9.cell 0; have z1 := hB9.cell 1; have z2 := hB9.cell 2; simp only [List.getElem?_toArray] at z0 z1 z2)
        | (go_at_call 11; with_reducible refine (sound_is HSD.out (hS5.chg k9' (fun _ _ h => h)) (by omega)).mono ?_; rintro e w10 ⟨rfl, k10⟩; have k10' := nochg k9' k10; have hB10 := hB5.chg k10' (fun h => h); have z0 := hB10.cell 0; have z1 := hB10.cell 1; have z2 := hB10.cell 2; simp only [List.getElem?_toArray] at z0 z1 z2)
        | (go_at_call 21; with_reducible refine (rsound_is HSD.out (hs5.chg k10' (fun _ _ h => h)) hl).mono ?_; rintro e w11 ⟨rfl, k11⟩; have k11' := nochg k10' k11; have hB11 := hB5.chg k11' (fun h => h); have z0 := hB11.cell 0; have z1 := hB11.cell 1; have z2 := hB11.cell 2; simp only [List.getElem?_toArray] at z0 z1 z2))
      all_goals go_wp2_with fail
      all_goals (go_meet; exact ⟨rfl, k11'⟩)
    case rest =>
      obtain ⟨rfl, k6⟩ := hcut
      have hS6 := hS5.chg k6 (fun _ _ h => h)
      have hs6 := hs5.chg k6 (fun _ _ h => h)
      have k06 := nochg k05 k6
      clear hN2' hN3' hN4' hN5 hB5 hS5 hs5 k05 k6 k0 r0 r1 r2
      go_wp2_with fail
      go_loopg [14, 15] l.length (fun k f i wr => ∃ j n : Nat, (j + k ≤ l.length ∧ l.length ≤ j + k) ∧ i = .int .i64 (j : Int) ∧ f = .bool true ∧ wr = wc.drewN n)
      case atStart => exact ⟨0, 0, ⟨by omega, by omega⟩, rfl, rfl, rfl⟩
      case round =>
        obtain ⟨j, n, ⟨hj1, hj2⟩, rfl, rfl, rfl⟩ := hrel
        by_cases hj : j < l.length
        · obtain ⟨ad, rfl, _, c1, c2⟩ := Snaps.at_ (l := l) hs6 hj
          obtain ⟨ad1, rfl, _, d1, d2⟩ := Snaps.at_ (l := l) hS6 hj
          generalize l[j] = x at c1 c2 d1 d2
          obtain ⟨m, t⟩ := x
          simp only at c1 c2 d1 d2
          have hji : (j : Int) < (l.length : Int) := by omega
          go_wp2_with fail
          go_quiet (fail)
          go_wp2_with fail
          go_roundg (gk - 1)
          case measure => omega
          case rel => exact ⟨j + 1, _, ⟨by omega, by omega⟩, by go_num, rfl, rfl⟩
        · go_wp2_with (go_at_call 9; refine (awake_any _).mono ?_; rintro e w7 ⟨rfl, k7⟩)
          go_ret
          exact ⟨rfl, k06.trans (drewN_chg k7) (fun _ _ h => h)⟩
  · go_enter Try.func5, Try.ntmps5
    go_wp2_with fail
    go_ret
    exact ⟨rfl, k0⟩
end Go.Proofs.Ytjfkjohocopcgaa
