import Derived.Test.YtjmbealiinecjaaAwake
namespace Go.Proofs.Ytjmbealiinecjaa
open Go.RowKit

/-- A pointer at an inbox that is none: nil, or one that New did not make. -/
def NoBox (w : World) (p : Option Addr) : Prop := p = none ∨ ∃ X, p = some ⟨X, 0, none⟩ ∧ w.cell? ⟨X, 0, none⟩ = some (.int .i64 0)

theorem NoBox.keep {w w' : World} {p : Option Addr} (h : NoBox w p) (hc : Chg (fun _ => False) w w') : NoBox w' p := by
  rcases h with h | ⟨X, h, hx⟩
  · exact .inl h
  · exact .inr ⟨X, h, hc.cell hx (fun h => h)⟩

theorem noBox_none {w : World} {p : Option Addr} (h : NoBox w p) : Calls Try.prog 26 #[.pointer p] w fun e w' => e = .returned (.bool true) ∧ w = w' := by
  rcases h with rfl | ⟨X, rfl, hx⟩
  · exact none_nil w
  · exact none_some X 0 w hx

set_option maxHeartbeats 400000 in
theorem noBox_take {w : World} {p : Option Addr} (h : NoBox w p) (q : Int) (v : Value) : Calls Try.prog 13 #[.pointer p, .int .i64 q, v] w fun e w' => e = .returned (.tuple #[.slice none 0 0, .int .i64 1]) ∧ Chg (fun _ => False) w w' := by
  have h1 : NoBox (w.alloc (.cells #[.pointer p] 24)) p := h.keep ((Chg.refl _ _).alloc _)
  go_enter Try.func13, Try.ntmps13
  go_wp2_with (go_at_call 26; refine (noBox_none h1).mono ?_; rintro e w' ⟨rfl, rfl⟩)
  go_ret2
  exact ⟨rfl, (Chg.refl _ _).alloc _⟩

set_option maxHeartbeats 400000 in
theorem noBox_next {w : World} {p : Option Addr} (h : NoBox w p) : Calls Try.prog 17 #[.pointer p] w fun e w' => e = .returned (.int .i64 0) ∧ w = w' := by
  go_enter Try.func17, Try.ntmps17
  go_wp2_with (go_at_call 26; refine (noBox_none h).mono ?_; rintro e w' ⟨rfl, rfl⟩)
  go_ret
  exact ⟨rfl, rfl⟩

set_option maxHeartbeats 400000 in
theorem noBox_held {w : World} {p : Option Addr} (h : NoBox w p) : Calls Try.prog 18 #[.pointer p] w fun e w' => e = .returned (.int .i64 0) ∧ w = w' := by
  go_enter Try.func18, Try.ntmps18
  go_wp2_with (go_at_call 26; refine (noBox_none h).mono ?_; rintro e w' ⟨rfl, rfl⟩)
  go_ret
  exact ⟨rfl, rfl⟩

set_option maxHeartbeats 400000 in
theorem noBox_has {w : World} {p : Option Addr} (h : NoBox w p) (q : Int) : Calls Try.prog 19 #[.pointer p, .int .i64 q] w fun e w' => e = .returned (.bool false) ∧ w = w' := by
  go_enter Try.func19, Try.ntmps19
  go_wp2_with (go_at_call 26; refine (noBox_none h).mono ?_; rintro e w' ⟨rfl, rfl⟩)
  go_ret
  exact ⟨rfl, rfl⟩

set_option maxRecDepth 100000 in
set_option maxHeartbeats 800000 in
theorem inboxNone_any (q : Int) (w : World) : Calls Try.prog 4 #[.int .i64 q] w fun e w' => e = .returned (.bool true) ∧ Chg (fun _ => False) w w' := by
  have hz := zero_box
  have hs := boxCells_size 0 0
  go_enter Try.func4, Try.ntmps4
  go_wp2_with fail
  go_loopg [4] 2 (fun k i wr => ∃ j : Nat, j + k = 2 ∧ i = .int .i64 j ∧ Chg (fun _ => False) ((w.alloc (.cells (boxCells 0 0) 51)).alloc (.cells #[.pointer none, .pointer (some ⟨w.heap.size, 0, none⟩)] 24)) wr)
  case atStart => exact ⟨0, rfl, rfl, Chg.refl _ _⟩
  case round =>
    obtain ⟨j, hj, rfl, hc⟩ := hrel
    have b0 : Blk (w.alloc (.cells (boxCells 0 0) 51)) w.heap.size 51 (boxCells 0 0) := Blk.new _ _ _
    have b1 := Blk.new (w.alloc (.cells (boxCells 0 0) 51)) 24 #[.pointer none, .pointer (some ⟨w.heap.size, 0, none⟩)]
    have hb0 := (b0.alloc (.cells #[.pointer none, .pointer (some ⟨w.heap.size, 0, none⟩)] 24)).chg hc (fun h => h)
    have hb1 := b1.chg hc (fun h => h)
    rw [show (w.alloc (.cells (boxCells 0 0) 51)).heap.size = w.heap.size + 1 by simp] at hb1
    have c0 : wr.cell? ⟨w.heap.size + 1, 0, none⟩ = some (.pointer none) := by rw [hb1.cell 0]; rfl
    have c1 : wr.cell? ⟨w.heap.size + 1, 1, none⟩ = some (.pointer (some ⟨w.heap.size, 0, none⟩)) := by rw [hb1.cell 1]; rfl
    have n0 : NoBox wr none := .inl rfl
    have n1 : NoBox wr (some ⟨w.heap.size, 0, none⟩) := .inr ⟨_, rfl, by rw [hb0.cell 0]; rfl⟩
    have hw : Chg (fun _ => False) w wr := (((Chg.refl _ _).alloc _).alloc _).trans hc (fun _ _ h => h)
    clear b0 b1 hb0 hb1 hz hs
    have h3 : j = 0 ∨ j = 1 ∨ j = 2 := by omega
    rcases h3 with rfl | rfl | rfl
    · go_wp2_with (first
        | (go_at_call 13; refine (noBox_take n0 _ _).mono ?_; rintro e w1 ⟨rfl, k1⟩; have c1' := k1.cell c0 (fun h => h); have n0' := n0.keep k1)
        | (go_at_call 17; refine (noBox_next n0').mono ?_; rintro e w' ⟨rfl, rfl⟩)
        | (go_at_call 18; refine (noBox_held n0').mono ?_; rintro e w' ⟨rfl, rfl⟩)
        | (go_at_call 19; refine (noBox_has n0' _).mono ?_; rintro e w' ⟨rfl, rfl⟩))
      go_roundg 1
      case measure => omega
      case rel => exact ⟨1, rfl, rfl, hc.trans k1 (fun _ _ h => h)⟩
    · go_wp2_with (first
        | (go_at_call 13; refine (noBox_take n1 _ _).mono ?_; rintro e w1 ⟨rfl, k1⟩; have c1' := k1.cell c1 (fun h => h); have n1' := n1.keep k1)
        | (go_at_call 17; refine (noBox_next n1').mono ?_; rintro e w' ⟨rfl, rfl⟩)
        | (go_at_call 18; refine (noBox_held n1').mono ?_; rintro e w' ⟨rfl, rfl⟩)
        | (go_at_call 19; refine (noBox_has n1' _).mono ?_; rintro e w' ⟨rfl, rfl⟩))
      go_roundg 0
      case measure => omega
      case rel => exact ⟨2, rfl, rfl, hc.trans k1 (fun _ _ h => h)⟩
    · go_wp2_with (go_at_call 22; refine (awake_any _).mono ?_; rintro e w1 ⟨rfl, k1⟩)
      go_ret
      exact ⟨rfl, hw.trans k1 (fun _ _ h => h)⟩
end Go.Proofs.Ytjmbealiinecjaa
