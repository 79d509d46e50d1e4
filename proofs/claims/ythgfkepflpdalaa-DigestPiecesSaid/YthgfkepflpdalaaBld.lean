/- strings.Builder (28, 29, 37) in memory. -/
import Derived.Test.YthgfkepflpdalaaDSum
import Derived.Lib.Builder
import Derived.Lib.UnsafeStr
import Derived.Lib.Bytealg
import Derived.Laws.Externs
namespace Go.Proofs.Ythgfkepflpdalaa
open Go.RowKit

def Bld (w : World) (B b : Nat) (p : Value) (bs : List UInt8) : Prop :=
  B ≤ b ∧ ∃ v, Blk w b 61 #[p, v] ∧ OwnB 5 w v bs ∧ v.ownBlock ≠ some b ∧ ∀ g, v.ownBlock = some g → B ≤ g

set_option maxRecDepth 100000 in
set_option maxHeartbeats 1000000 in
theorem check_fresh (b : Nat) (v : Value) (w : World) (hb : Blk w b 61 #[.pointer none, v]) :
    Calls Try.prog 37 #[.pointer (some ⟨b, 0, none⟩)] w fun e w' => e = .returned (.tuple #[]) ∧ w' = w.setCell ⟨b, 0, none⟩ (.pointer (some ⟨b, 0, none⟩)) := by
  obtain ⟨j, hj, hjs⟩ := Option.map_eq_some_iff.1 (show (Try.prog.info? 61).map (·.size) = some 2 by kernel_rfl)
  have h0 : w.cell? ⟨b, 0, none⟩ = some (.pointer none) := by rw [hb.cell 0]; rfl
  have hsh : w.shape? b = some (61, 2) := by
    unfold Blk at hb
    simp [World.shape?, hb]
  have hfz : w.frozen? ⟨b, 0, none⟩ = false := by
    unfold Blk at hb
    simp [World.frozen?, hb]
  go_enter Try.func37, Try.ntmps37
  go_wp2
  rw [Lib.run_to_unsafe w ⟨b, 0, none⟩ Try.underlying59 Try.underlying75 hj (by rw [hjs]; decide) hsh (Nat.zero_lt_succ 1)]
  simp only [Result.andThen]
  rw [Oper.upon_value]
  go_wp2
  rw [run_callFunc_extern Try.func45 (by kernel_rfl) (by kernel_rfl) (by kernel_rfl) (e := Extern.AbiNoEscape.same) (by kernel_rfl)]
  rw [Lib.run_noEscape]
  simp only [Result.andThen]
  rw [Oper.upon_value]
  go_wp2
  rw [Lib.run_from_unsafe w ⟨b, 0, none⟩ Try.underlying75 Try.underlying59 hj hsh (by kernel_rfl)]
  simp only [Result.andThen]
  rw [Oper.upon_value]
  go_wp2
  go_end0
  exact ⟨rfl, rfl⟩

set_option maxRecDepth 100000 in
set_option maxHeartbeats 1000000 in
theorem check_used (b : Nat) (v : Value) (w : World) (hb : Blk w b 61 #[.pointer (some ⟨b, 0, none⟩), v]) :
    Calls Try.prog 37 #[.pointer (some ⟨b, 0, none⟩)] w fun e w' => e = .returned (.tuple #[]) ∧ w' = w := by
  obtain ⟨j, hj, _⟩ := Option.map_eq_some_iff.1 (show (Try.prog.info? 61).map (·.size) = some 2 by kernel_rfl)
  have h0 : w.cell? ⟨b, 0, none⟩ = some (.pointer (some ⟨b, 0, none⟩)) := by rw [hb.cell 0]; rfl
  have hne := Lib.run_neq_ptr_same (P := Try.prog) (w := w) (tp := 59) ⟨b, 0, none⟩ Try.underlying59 hj
  go_enter Try.func37, Try.ntmps37
  go_wp2
  go_end0
  exact ⟨rfl, rfl⟩

theorem Chg.freeze {S : Nat → Prop} {a w : World} (h : Chg S a w) {p : Addr} (hp : a.heap.size ≤ p.block ∨ S p.block) (n : Nat) : Chg S a (w.freeze p n) := by
  unfold World.freeze
  split
  · exact h
  · refine ⟨h.os, h.tape, h.output, by simpa using h.size, fun k hk hn => ?_⟩
    have : k ≠ p.block := by
      rintro rfl
      rcases hp with hp | hp
      · omega
      · exact hn hp
    rw [← h.block k hk hn]
    simp [Array.getElem?_modify, Ne.symm this]

theorem bld_new (w : World) : Bld (w.alloc (.cells #[.pointer none, .slice none 0 0] 61)) w.heap.size w.heap.size (.pointer none) [] :=
  ⟨Nat.le_refl _, .slice none 0 0, Blk.new _ _ _, .inl ⟨rfl, rfl⟩, by simp [Value.ownBlock], by simp [Value.ownBlock]⟩

theorem check_any {w : World} {B b : Nat} {p : Value} {bs : List UInt8} (h : Bld w B b p bs) (hp : p = .pointer none ∨ p = .pointer (some ⟨b, 0, none⟩)) :
    Calls Try.prog 37 #[.pointer (some ⟨b, 0, none⟩)] w fun e w' => e = .returned (.tuple #[]) ∧ Bld w' B b (.pointer (some ⟨b, 0, none⟩)) bs ∧ Chg (fun k => B ≤ k) w w' := by
  obtain ⟨hB, v, hb, ho, hn, hg⟩ := h
  rcases hp with rfl | rfl
  · refine (check_fresh b v w hb).mono ?_
    rintro e w' ⟨rfl, rfl⟩
    have k : Chg (fun k => k = b) w (w.setCell ⟨b, 0, none⟩ (.pointer (some ⟨b, 0, none⟩))) := (Chg.refl (fun k => k = b) w).setCell (p := ⟨b, 0, none⟩) (.inr rfl) _
    exact ⟨rfl, ⟨hB, v, hb.set_ 0 _, ho.chg k (fun g h1 h2 => hn (by rw [h1, h2])), hn, hg⟩, k.mono fun j _ hj => by omega⟩
  · refine (check_used b v w hb).mono ?_
    rintro e w' ⟨rfl, rfl⟩
    exact ⟨rfl, ⟨hB, v, hb, ho, hn, hg⟩, Chg.refl _ _⟩

set_option maxRecDepth 100000 in
set_option maxHeartbeats 1000000 in
theorem writeByte_any {w : World} {B b : Nat} {p : Value} {bs : List UInt8} (h : Bld w B b p bs) (hp : p = .pointer none ∨ p = .pointer (some ⟨b, 0, none⟩)) (hl : bs.length ≤ 1000) (u : UInt8) :
    Calls Try.prog 28 #[.pointer (some ⟨b, 0, none⟩), bv u] w fun e w' => e = .returned .nilIface ∧ Bld w' B b (.pointer (some ⟨b, 0, none⟩)) (bs ++ [u]) ∧ Chg (fun k => B ≤ k) w w' := by
  obtain ⟨i5, hi5, hz5, hs5, hb5⟩ := info_parts info5'
  obtain ⟨x, hx⟩ : ∃ x, bv u = .int .u8 x := ⟨_, rfl⟩
  rw [hx]
  have HX := Lib.hid hx
  clear hx
  go_enter Try.func28, Try.ntmps28
  go_wp2_with (go_at_call 37; refine (check_any h hp).mono ?_)
  rintro e w1 ⟨rfl, ⟨hB, v, hb, ho, hn, hg⟩, k1⟩
  have c1 : w1.cell? ⟨b, 1, none⟩ = some v := by rw [hb.cell 1]; rfl
  have c1' : w1.drew.cell? ⟨b, 1, none⟩ = some v := c1
  have hlt := hb.lt
  have hq : bs.length + [u].length ≤ 140737488355328 := by simp; omega
  have kA := (Chg.refl (fun _ => False) w1).alloc (.cells #[.int .u8 x] 5)
  have ho1 := ho.one
  go_wp2_with (first
    | ((with_reducible refine wpList_append_bytes _ rfl (.tmp 11) (.tmp 13) 25 rfl 5 i5 Try.underlying25 hi5 hz5 hs5 hb5 v bs rfl ?_ (some ⟨w1.heap.size, 0, none⟩) 1 [u] rfl (D := fun k => k = w1.heap.size) ?_ hq ?_); exact ho.chg kA (fun _ _ h => h); exact one_byte HX.out.symm; intro v2 w2 hO2 hk2 ha2; obtain ⟨A2, c2, hv2, _, _⟩ := hO2.shape; rw [hv2] at hO2 ha2; subst hv2; have HA := Lib.hid ha2; clear ha2; have hb2 := (hb.alloc (.cells #[.int .u8 x] 5)).chg hk2 (fun h => hn h.symm); have f2 := hb2.frozen 1; have d2 : w2.cell? ⟨b, 1, none⟩ = some v := (by rw [hb2.cell 1]; rfl)))
  go_ret
  have hne : (Value.slice A2 (bs ++ [u]).length c2).ownBlock ≠ some b ∧ ∀ g, (Value.slice A2 (bs ++ [u]).length c2).ownBlock = some g → B ≤ g := by
    rcases HA.out with e | e
    · rw [e]; exact ⟨hn, hg⟩
    · rw [e]
      refine ⟨fun h => ?_, fun g h => ?_⟩
      · have := Option.some.inj h
        simp at this
        omega
      · have := Option.some.inj h
        simp at this
        omega
  have k3 : Chg (fun k => k = b) w2 (w2.setCell ⟨b, 1, none⟩ (.slice A2 (bs ++ [u]).length c2)) := (Chg.refl (fun k => k = b) w2).setCell (p := ⟨b, 1, none⟩) (.inr rfl) _
  rw [show (bs ++ [u]).length = bs.length + 1 by simp] at hne k3 hO2
  refine ⟨rfl, ⟨hB, _, hb2.set_ 1 _, hO2.chg k3 (fun g h1 h2 => hne.1 (by rw [h1, h2])), hne.1, hne.2⟩, ?_⟩
  exact ((k1.trans kA fun _ _ h => h.elim).trans hk2 fun k _ h => hg k h.symm).trans k3 fun k _ h => by omega

set_option maxRecDepth 100000 in
set_option maxHeartbeats 1000000 in
theorem string_any {w : World} {B b : Nat} {p : Value} {bs : List UInt8} (h : Bld w B b p bs) (h0 : bs ≠ []) :
    Calls Try.prog 29 #[.pointer (some ⟨b, 0, none⟩)] w fun e w' => e = .returned (.string ⟨bs.toArray⟩) ∧ Chg (fun k => B ≤ k) w w' := by
  obtain ⟨hB, v, hb, ho, hn, hg⟩ := h
  have hl0 : bs.length ≠ 0 := by simpa using h0
  rcases ho with ⟨rfl, rfl⟩ | ⟨g, cap, all, rfl, hbg, hal, htk, hm, hc⟩
  · exact absurd rfl h0
  have c1 : w.drew.cell? ⟨b, 1, none⟩ = some (.slice (some ⟨g, 0, none⟩) bs.length cap) := (hb.cell 1).trans rfl
  have hSD : (Builtin.unsafeSliceData_ #[25] 70 #[.slice (some ⟨g, 0, none⟩) bs.length cap]).run Try.prog w.drew = .ok (.pointer (some ⟨g, 0, none⟩)) w.drew :=
    Lib.run_unsafeSliceData_row _ _ _ _ _ _ (by omega)
  have hUS : (Builtin.unsafeString_ #[70, 3] 9 #[.pointer (some ⟨g, 0, none⟩), .int .i64 bs.length]).run Try.prog w.drew = .ok (.string ⟨bs.toArray⟩) (w.drew.freeze ⟨g, 0, none⟩ bs.length) := by
    refine Lib.run_unsafeString_row w.drew 70 3 9 5 Try.underlying70 (by kernel_rfl) g cap (by have hg' : w.drew.heap[g]? = some (.cells (bcs all).toArray 5 (0, 0)) := hbg; simp [World.shape?, hg', bcs_length, hal]) bs h0 hc (by unfold maxLen at hm; omega) ?_
    intro j x hx
    have hj : j < bs.length := (List.getElem?_eq_some_iff.1 hx).1
    have hbg' : w.drew.heap[g]? = some (.cells (bcs all).toArray 5 (0, 0)) := hbg
    rw [Addr.add_lit, Nat.zero_add, cell_of_row _ g j _ 5 (0, 0) hbg', List.getElem?_toArray]
    rw [htk, List.getElem?_take, if_pos hj] at hx
    simp [bcs, hx, bv]
  have hgB := hg g rfl
  clear htk hal hbg
  go_enter Try.func29, Try.ntmps29
  go_wp2
  go_region
  all_goals (go_wp2; go_ret; exact ⟨rfl, ((Chg.refl (fun k => B ≤ k) w).drew).freeze (p := ⟨g, 0, none⟩) (.inr hgB) _⟩)
end Go.Proofs.Ythgfkepflpdalaa
