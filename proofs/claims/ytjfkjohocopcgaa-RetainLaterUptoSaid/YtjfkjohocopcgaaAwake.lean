/- The chapter's examples: awake. -/
import Derived.Test.YtjfkjohocopcgaaStay
namespace Go.Proofs.Ytjfkjohocopcgaa
open Go.RowKit Go.Maps

theorem sa1 : toldCode ⟨2, 0, 0⟩ sampleL = 0 := by decide +kernel
theorem sa2 : toldCode ⟨0, 0, 0⟩ sampleL = 0 := by decide +kernel
theorem sa3 : toldCode ⟨0, 10, 3⟩ sampleL = 0 := by decide +kernel
theorem sb1 : (toldL ⟨2, 0, 0⟩ sampleL true == [4, 5]) = true := by decide +kernel
theorem sb2 : (toldL ⟨0, 0, 0⟩ sampleL true == [5]) = true := by decide +kernel
theorem sb3 : (toldL ⟨0, 10, 3⟩ sampleL true == [2, 4, 5]) = true := by decide +kernel

theorem stay_one {w : World} (p : Pol) (want : List Int) (hok : toldCode p sampleL = 0) (hw : (toldL p sampleL true == want) = true) {es : Array Value} (he : es = (intCells want).toArray) (n : Nat) (hn : n = want.length) :
    Calls Try.prog 23 #[p.v, .slice (some ⟨w.heap.size, 0, none⟩) n n] (w.alloc (.cells es 3)) fun e w' => e = .returned (.bool true) ∧ Chg (fun _ => False) w w' := by
  subst hn
  refine (stay_any (c := want.length) (row_nums (w := w) (t := 3) he) p hok).mono ?_
  rintro e w' ⟨rfl, k⟩
  rw [hw]
  exact ⟨rfl, ((Chg.refl _ w).alloc _).trans k (fun _ _ h => h)⟩

theorem st1 (w : World) : Calls Try.prog 23 #[.agg #[.int .i64 2, .int .i64 0, .int .i64 0], .slice (some ⟨w.heap.size, 0, none⟩) 2 2] (w.alloc (.cells #[.int .i64 4, .int .i64 5] 3)) fun e w' => e = .returned (.bool true) ∧ Chg (fun _ => False) w w' :=
  stay_one ⟨2, 0, 0⟩ [4, 5] sa1 sb1 rfl 2 rfl
theorem st2 (w : World) : Calls Try.prog 23 #[.agg #[.int .i64 0, .int .i64 0, .int .i64 0], .slice (some ⟨w.heap.size, 0, none⟩) 1 1] (w.alloc (.cells #[.int .i64 5] 3)) fun e w' => e = .returned (.bool true) ∧ Chg (fun _ => False) w w' :=
  stay_one ⟨0, 0, 0⟩ [5] sa2 sb2 rfl 1 rfl
theorem st3 (w : World) : Calls Try.prog 23 #[.agg #[.int .i64 0, .int .i64 10, .int .i64 3], .slice (some ⟨w.heap.size, 0, none⟩) 3 3] (w.alloc (.cells #[.int .i64 2, .int .i64 4, .int .i64 5] 3)) fun e w' => e = .returned (.bool true) ∧ Chg (fun _ => False) w w' :=
  stay_one ⟨0, 10, 3⟩ [2, 4, 5] sa3 sb3 rfl 3 rfl

set_option maxHeartbeats 400000 in
theorem awake_any (w : World) : Calls Try.prog 9 #[] w fun e w' => e = .returned (.bool true) ∧ Chg (fun _ => False) w w' := by
  go_enter Try.func9, Try.ntmps9
  go_wp2_with (first
    | (go_at_call 23; with_reducible refine (st1 _).mono ?_; rintro e w1 ⟨rfl, k1⟩)
    | (go_at_call 23; with_reducible refine (st2 _).mono ?_; rintro e w2 ⟨rfl, k2⟩)
    | (go_at_call 23; with_reducible refine (st3 _).mono ?_; rintro e w3 ⟨rfl, k3⟩))
  go_ret
  exact ⟨rfl, (k1.trans k2 (fun _ _ h => h)).trans k3 (fun _ _ h => h)⟩
end Go.Proofs.Ytjfkjohocopcgaa
