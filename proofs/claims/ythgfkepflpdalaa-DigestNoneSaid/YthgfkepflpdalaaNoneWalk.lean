/- The walk of DigestNone (7): a digest that nobody made. -/
import Derived.Test.YthgfkepflpdalaaAwake
namespace Go.Proofs.Ythgfkepflpdalaa
open Go.RowKit

theorem zero39 (w : World) : (zeroValue 39).run Try.prog w = .ok (.agg (bcs (List.replicate 32 0)).toArray) w := by kernel_rfl

set_option maxRecDepth 100000 in
set_option maxHeartbeats 1600000 in
theorem digestNone_any {A : Option Addr} {n c : Nat} (w : World) : Calls Try.prog 7 #[.slice A n c] w fun e w' => e = .returned (.bool true) ∧ Chg (fun _ => False) w w' := by
  by_cases hbig : 100 < n
  · go_enter Try.func7, Try.ntmps7
    go_wp2_with (go_at_call 14; refine (awake_any _).mono ?_; rintro e w1 ⟨rfl, k1⟩)
    go_ret
    exact ⟨rfl, k1⟩
  obtain ⟨Z, hb, hz0, hz73⟩ : ∃ Z : Array Value, (∀ w, (zeroValue 54).run Try.prog w = .ok (.agg Z) w) ∧ Z[0]? = some (.bool false) ∧ Z[73]? = some (.int .i64 0) := ⟨zd, zero54, rfl, rfl⟩
  obtain ⟨O, hO, hbo, hE⟩ : ∃ O : Array Value, (bcs (List.replicate 32 0)).toArray = O ∧ (∀ w, (zeroValue 39).run Try.prog w = .ok (.agg O) w) ∧ ∀ w', (Op.equalIn 10000 39 (.agg O) (.agg O)).run Try.prog w' = .ok true w' :=
    ⟨_, rfl, zero39, fun w' => by simpa using eqB (w := w') 39 32 Try.underlying39 (List.replicate 32 0) (List.replicate 32 0) (by simp) (by simp)⟩
  have HO := Lib.hid hO
  clear hO
  go_enter Try.func7, Try.ntmps7
  go_wp2_with fail
  go_loopg [5] 2 (fun k i wr => ∃ j : Nat, j + k = 2 ∧ i = .int .i64 j ∧ Chg (fun _ => False) ((w.alloc (.cells Z 54)).alloc (.cells #[.pointer none, .pointer (some ⟨w.heap.size, 0, none⟩)] 36)) wr)
  case atStart => exact ⟨0, rfl, rfl, Chg.refl _ _⟩
  case round =>
    obtain ⟨j, hj, rfl, hc⟩ := hrel
    have b0 : Blk (w.alloc (.cells Z 54)) w.heap.size 54 Z := Blk.new _ _ _
    have b1 := Blk.new (w.alloc (.cells Z 54)) 36 #[.pointer none, .pointer (some ⟨w.heap.size, 0, none⟩)]
    have hb0 := (b0.alloc (.cells #[.pointer none, .pointer (some ⟨w.heap.size, 0, none⟩)] 36)).chg hc (fun h => h)
    have hb1 := b1.chg hc (fun h => h)
    rw [show (w.alloc (.cells Z 54)).heap.size = w.heap.size + 1 by simp] at hb1
    have c0 : wr.cell? ⟨w.heap.size + 1, 0, none⟩ = some (.pointer none) := by rw [hb1.cell 0]; rfl
    have c1 : wr.cell? ⟨w.heap.size + 1, 1, none⟩ = some (.pointer (some ⟨w.heap.size, 0, none⟩)) := by rw [hb1.cell 1]; rfl
    have z0 : wr.cell? ⟨w.heap.size, 0, none⟩ = some (.bool false) := by rw [hb0.cell 0, hz0]
    have z73 : wr.cell? ⟨w.heap.size, 73, none⟩ = some (.int .i64 0) := by rw [hb0.cell 73, hz73]
    have hw : Chg (fun _ => False) w wr := (((Chg.refl _ _).alloc _).alloc _).trans hc (fun _ _ h => h)
    clear b0 b1 hb0 hb1
    have h3 : j = 0 ∨ j = 1 ∨ j = 2 := by omega
    rcases h3 with rfl | rfl | rfl
    · go_wp2_with (first
        | (go_at_call 16; refine (write_nil _ _).mono ?_; rintro e w' ⟨rfl, rfl⟩)
        | (go_at_call 17; refine (sumNil_any _).mono ?_; rw [HO.out]; rintro e w1 ⟨rfl, k1⟩; have c1' := k1.cell c0 (fun h => h))
        | (go_at_call 19; refine (len_nil _).mono ?_; rintro e w' ⟨rfl, rfl⟩))
      go_roundg 1
      case measure => omega
      case rel => exact ⟨1, rfl, rfl, hc.trans k1 (fun _ _ h => h)⟩
    · go_wp2_with (first
        | (go_at_call 16; refine (write_un z0 _).mono ?_; rintro e w' ⟨rfl, rfl⟩)
        | (go_at_call 17; refine (sumUn_any z0).mono ?_; rw [HO.out]; rintro e w1 ⟨rfl, k1⟩; have c1' := k1.cell c1 (fun h => h); have z73' := k1.cell z73 (fun h => h))
        | (go_at_call 19; refine (len_un z73').mono ?_; rintro e w' ⟨rfl, rfl⟩))
      go_roundg 0
      case measure => omega
      case rel => exact ⟨2, rfl, rfl, hc.trans k1 (fun _ _ h => h)⟩
    · go_wp2_with (go_at_call 14; refine (awake_any _).mono ?_; rintro e w1 ⟨rfl, k1⟩)
      go_ret
      exact ⟨rfl, hw.trans k1 (fun _ _ h => h)⟩
end Go.Proofs.Ythgfkepflpdalaa
