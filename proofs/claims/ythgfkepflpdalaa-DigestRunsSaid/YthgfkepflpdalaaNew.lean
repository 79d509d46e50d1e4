/- A digest is made (15), how many bytes it has (19). -/
import Derived.Test.YthgfkepflpdalaaWrite
namespace Go.Proofs.Ythgfkepflpdalaa
open Go.RowKit

theorem dig_zero : (digL IV (List.replicate 64 0) 0).toArray.size = 74 := rfl
theorem new_built : Try.prog.built 54 [(0, Value.bool true), (1, Value.agg (arr 8 iv))] = some (digL IV (List.replicate 64 0) 0).toArray := by kernel_rfl
set_option maxRecDepth 100000 in
set_option maxHeartbeats 1600000 in
theorem new_any (w : World) : Calls Try.prog 15 #[] w fun e w' => ∃ g, e = .returned (.pointer (some ⟨g, 0, none⟩)) ∧ w.heap.size ≤ g ∧ Dig w' g [] ∧ Chg (fun _ => False) w w' := by
  obtain ⟨cs, hcs⟩ : ∃ cs, (digL IV (List.replicate 64 0) 0).toArray = cs := ⟨_, rfl⟩
  have HC := Lib.hid hcs
  have hbt : ∀ a : Act, a.eval (.tmp 1) = .agg (arr 8 iv) → Try.prog.built 54 ((#[(0, Operand.const (Value.bool true)), (1, Operand.tmp 1)] : Array (Nat × Operand)).map fun (i, x) => (i, a.eval x)).toList = some cs := by
    intro a ha
    rw [← hcs]
    have e : ((#[(0, Operand.const (Value.bool true)), (1, Operand.tmp 1)] : Array (Nat × Operand)).map fun (i, x) => (i, a.eval x)).toList = [(0, Value.bool true), (1, a.eval (.tmp 1))] := by simp [Act.eval]
    rw [e, ha]
    exact new_built
  clear hcs
  go_enter Try.func15, Try.ntmps15
  go_wp2_with (first
    | (go_at_call 30; refine (first_any _).mono ?_; rintro e w1 ⟨rfl, k1⟩)
    | ((with_reducible refine wpList_buildA (o := ⟨some 2, .build 54 _, _, _, _, none⟩) rfl 54 _ rfl cs ?_ ?_); exact hbt _ rfl))
  go_ret
  refine ⟨_, rfl, k1.size, ⟨List.replicate 64 0, by simp, by simp, ?_⟩, k1.alloc _⟩
  have := Blk.new w1 54 cs
  rw [← HC.out] at this ⊢
  exact this

theorem len_any {w : World} {g : Nat} {xs : List UInt8} (hD : Dig w g xs) : Calls Try.prog 19 #[.pointer (some ⟨g, 0, none⟩)] w fun e w' => e = .returned (.int .i64 (xs.length : Int)) ∧ w = w' := by
  have c0 : w.cell? ⟨g, 73, none⟩ = some (.int .i64 (xs.length : Int)) := by
    obtain ⟨wt, hw, _, hb⟩ := hD
    rw [hb.cell, List.getElem?_toArray, digL_n _ hw]
  go_enter Try.func19, Try.ntmps19
  go_wp2_with fail
  go_ret
  exact ⟨rfl, rfl⟩
theorem len_nil (w : World) : Calls Try.prog 19 #[.pointer none] w fun e w' => e = .returned (.int .i64 0) ∧ w = w' := by
  go_enter Try.func19, Try.ntmps19
  go_wp2_with fail
  go_ret
  exact ⟨rfl, rfl⟩
theorem write_nil (w : World) (v : Value) : Calls Try.prog 16 #[.pointer none, v] w fun e w' => e = .returned (.tuple #[]) ∧ w = w' := by
  go_enter Try.func16, Try.ntmps16
  go_wp2_with fail
  exact bodyPost_ret (results_none Try.results16 _ _ _) rfl ⟨rfl, rfl⟩
theorem write_un {w : World} {g : Nat} (c0 : w.cell? ⟨g, 0, none⟩ = some (.bool false)) (v : Value) : Calls Try.prog 16 #[.pointer (some ⟨g, 0, none⟩), v] w fun e w' => e = .returned (.tuple #[]) ∧ w = w' := by
  go_enter Try.func16, Try.ntmps16
  go_wp2_with fail
  exact bodyPost_ret (results_none Try.results16 _ _ _) rfl ⟨rfl, rfl⟩
theorem len_un {w : World} {g : Nat} {n : Int} (c0 : w.cell? ⟨g, 73, none⟩ = some (.int .i64 n)) : Calls Try.prog 19 #[.pointer (some ⟨g, 0, none⟩)] w fun e w' => e = .returned (.int .i64 n) ∧ w = w' := by
  go_enter Try.func19, Try.ntmps19
  go_wp2_with fail
  go_ret
  exact ⟨rfl, rfl⟩
end Go.Proofs.Ythgfkepflpdalaa
