/- The chapter's examples, walked. -/
import Derived.Test.YtjfkjohocopcgaaAwake
namespace Go.Proofs.Ytjfkjohocopcgaa
open Go.RowKit Go.Maps

theorem kc1 : toldCode ⟨2, 0, 0⟩ sampleL = 0 := by decide +kernel
theorem kl1 : toldL ⟨2, 0, 0⟩ sampleL false = [1, 2, 3] := by decide +kernel
theorem kc2 : toldCode ⟨2, 0, 0⟩ [] = 0 := by decide +kernel
theorem kl2 : toldL ⟨2, 0, 0⟩ [] true = [] := by decide +kernel
theorem kc3 : toldCode ⟨2, 0, 0⟩ [(2, 0), (1, 0)] = 2 := by decide +kernel
theorem kc4 : toldCode ⟨65, 0, 0⟩ sampleL = 5 := by decide +kernel
theorem kc5 : toldCode ⟨0, 10, 2⟩ sampleL = 0 := by decide +kernel
theorem kl5 : (toldL ⟨0, 10, 2⟩ sampleL true == [4, 5]) = true := by decide +kernel
theorem kc6 : toldCode ⟨3, 10, 3⟩ sampleL = 0 := by decide +kernel
theorem kl6 : (toldL ⟨3, 10, 3⟩ sampleL true == [2, 3, 4, 5]) = true := by decide +kernel

theorem st5 (w : World) (k : Nat) (hk : k = w.heap.size) : Calls Try.prog 23 #[.agg #[.int .i64 0, .int .i64 10, .int .i64 2], .slice (some ⟨k, 0, none⟩) 2 2] (w.alloc (.cells #[.int .i64 4, .int .i64 5] 3)) fun e w' => e = .returned (.bool true) ∧ Chg (fun _ => False) w w' :=
  hk ▸ stay_one ⟨0, 10, 2⟩ [4, 5] kc5 kl5 rfl 2 rfl
theorem st6 (w : World) (k : Nat) (hk : k = w.heap.size) : Calls Try.prog 23 #[.agg #[.int .i64 3, .int .i64 10, .int .i64 3], .slice (some ⟨k, 0, none⟩) 4 4] (w.alloc (.cells #[.int .i64 2, .int .i64 3, .int .i64 4, .int .i64 5] 3)) fun e w' => e = .returned (.bool true) ∧ Chg (fun _ => False) w w' :=
  hk ▸ stay_one ⟨3, 10, 3⟩ [2, 3, 4, 5] kc6 kl6 rfl 4 rfl

theorem gk1 {D : Nat → Prop} {w : World} {A : Option Addr} {c : Nat} (h : Snaps D w A sampleL) : Calls Try.prog 16 #[.slice A sampleL.length c, .agg #[.int .i64 2, .int .i64 0, .int .i64 0]] w fun e w' => ∃ v, e = .returned (.tuple #[v, .int .i64 0]) ∧ OwnI w w' v [1, 2, 3] ∧ Chg (fun _ => False) w w' := by
  have := Go_any (c := c) h (by decide) ⟨2, 0, 0⟩
  rw [kc1, kl1] at this
  exact this
theorem gk2 (w : World) : Calls Try.prog 13 #[.slice none 0 0, .agg #[.int .i64 2, .int .i64 0, .int .i64 0]] w fun e w' => ∃ v, e = .returned (.tuple #[v, .int .i64 0]) ∧ OwnI w w' v [] ∧ Chg (fun _ => False) w w' := by
  have := Stay_any (D := fun _ => False) (w := w) (A := none) (l := []) (c := 0) (RdC.nil _) (by decide) ⟨2, 0, 0⟩
  rw [kc2, kl2] at this
  exact this
theorem gk3 (w : World) : Calls Try.prog 13 #[.slice (some ⟨w.heap.size, 0, none⟩) 2 2, .agg #[.int .i64 2, .int .i64 0, .int .i64 0]] (w.alloc (.cells #[.int .i64 2, .int .i64 0, .int .i64 1, .int .i64 0] 37)) fun e w' => ∃ v, e = .returned (.tuple #[v, .int .i64 2]) ∧ Chg (fun _ => False) w w' := by
  have := Stay_any (l := [(2, 0), (1, 0)]) (c := 2) (row_snaps (w := w) (es := #[.int .i64 2, .int .i64 0, .int .i64 1, .int .i64 0]) (t := 37) rfl) (by decide) ⟨2, 0, 0⟩
  rw [kc3] at this
  exact this.mono fun e w' ⟨v, he, _, k⟩ => ⟨v, he, ((Chg.refl _ w).alloc _).trans k (fun _ _ h => h)⟩
theorem gk4 {D : Nat → Prop} {w : World} {A : Option Addr} {c : Nat} (h : Snaps D w A sampleL) : Calls Try.prog 13 #[.slice A sampleL.length c, .agg #[.int .i64 65, .int .i64 0, .int .i64 0]] w fun e w' => ∃ v, e = .returned (.tuple #[v, .int .i64 5]) ∧ Chg (fun _ => False) w w' := by
  have := Stay_any (c := c) h (by decide) ⟨65, 0, 0⟩
  rw [kc4] at this
  exact this.mono fun e w' ⟨v, he, _, k⟩ => ⟨v, he, k⟩

set_option maxRecDepth 100000 in
set_option maxHeartbeats 800000 in
theorem retainKnown_any (w : World) : Calls Try.prog 8 #[] w fun e w' => e = .returned (.bool true) ∧ Chg (fun _ => False) w w' := by
  go_enter Try.func8, Try.ntmps8
  go_wp2_with (first
    | (go_at_call 22; with_reducible refine (sample_any w).mono ?_; rintro e w1 ⟨A1, c1, rfl, hS1, k1⟩)
    | (go_at_call 16; refine (gk1 hS1).mono ?_; rintro e w2 ⟨v2, rfl, hO2, k2⟩; obtain ⟨A2, c2, rfl, hc2, hm2⟩ := own_shape hO2.row)
    | (go_at_call 13; with_reducible refine (gk2 _).mono ?_; rintro e w3 ⟨v3, rfl, hO3, k3⟩; obtain ⟨A3, c3, rfl, hc3, hm3⟩ := own_shape hO3.row)
    | (go_at_call 13; with_reducible refine (gk3 _).mono ?_; rintro e w4 ⟨v4, rfl, k4⟩)
    | (go_at_call 22; refine (sample_any _).mono ?_; rintro e w5 ⟨A5, c5, rfl, hS5, k5⟩)
    | (go_at_call 13; refine (gk4 hS5).mono ?_; rintro e w6 ⟨v6, rfl, k6⟩)
    | (go_at_call 9; refine (awake_any _).mono ?_; rintro e w7 ⟨rfl, k7⟩; have k27 := (((k3.trans k4 (fun _ _ h => h)).trans k5 (fun _ _ h => h)).trans k6 (fun _ _ h => h)).trans k7 (fun _ _ h => h); have hO7 := hO2.new_ k27)
    | (go_at_call 19; refine (sameInts_any (xs := [1, 2, 3]) (ys := [1, 2, 3]) (hO7.new_ ((Chg.refl _ _).alloc _)).nums.2 (row_nums (l := [1, 2, 3]) rfl) (by decide)).mono ?_; rintro e w8 ⟨rfl, n8, rfl⟩)
    | (go_at_call 23; with_reducible refine (st5 _ _ (by simp)).mono ?_; rintro e w9 ⟨rfl, k9⟩)
    | (go_at_call 23; with_reducible refine (st6 _ _ (by simp)).mono ?_; rintro e w10 ⟨rfl, k10⟩))
  go_ret
  exact ⟨rfl, ((((k1.trans k2 (fun _ _ h => h)).trans k27 (fun _ _ h => h)).trans (((Chg.refl _ _).alloc _).drewN n8) (fun _ _ h => h)).trans k9 (fun _ _ h => h)).trans k10 (fun _ _ h => h)⟩
end Go.Proofs.Ytjfkjohocopcgaa
