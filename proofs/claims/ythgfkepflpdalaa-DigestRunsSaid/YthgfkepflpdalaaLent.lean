/- Bytes that are lent, looked at again and written over: satchelkit.LentBytes, KeptBytes, OverBytes. -/
import Derived.Test.YthgfkepflpdalaaKit
import Derived.Test.YthgfkepflpdalaaSumLaw
import Derived.Laws.CopyOwn
import Derived.OpenShut
namespace Go.Proofs.Ythgfkepflpdalaa
open Go.RowKit

theorem chg_of_below {w w' : World} (h : Below w.heap.size w w') : Chg (fun _ => False) w w' := ⟨h.os, h.tape, h.output, h.size, fun k hk _ => h.block k hk⟩

/-- The byte behind the lent ones, at place i. -/
def padb (i : Nat) : UInt8 := UInt8.ofNat (160 + i % 90)
theorem bv_padb (i : Nat) : bv (padb i) = .int .u8 (160 + ((i % 90 : Nat) : Int)) := by
  unfold bv padb
  congr 1
  simp
  omega
/-- The bytes with their three bytes behind. -/
def padded (bs : List UInt8) : List UInt8 := bs ++ [padb bs.length, padb (bs.length + 1), padb (bs.length + 2)]
theorem padded_length (bs : List UInt8) : (padded bs).length = bs.length + 3 := by simp [padded]

/-- The lent block behind j bytes of the three. -/
def LentRel (W : World) (g : Nat) (bs : List UInt8) (j : Nat) (wr : World) : Prop :=
  ∃ L : List UInt8, L.length = bs.length + 3 ∧ L.take (bs.length + j) = (padded bs).take (bs.length + j) ∧ Blk wr g 5 (bcs L).toArray ∧ W.heap.size ≤ g ∧ Chg (fun _ => False) W wr

theorem lentRel_next {W wr : World} {g : Nat} {bs : List UInt8} {j : Nat} (hj : j < 3) (h : LentRel W g bs j wr) : LentRel W g bs (j + 1) (wr.setCell ⟨g, bs.length + j, none⟩ (bv (padb (bs.length + j)))) := by
  obtain ⟨L, hl, ht, hb, hg, hc⟩ := h
  refine ⟨L.set (bs.length + j) (padb (bs.length + j)), by simpa using hl, ?_, ?_, hg, hc.setCell (.inl hg) _⟩
  · have hp := padded_length bs
    rw [← Nat.add_assoc, List.take_succ_eq_append_getElem (by simp; omega), List.take_succ_eq_append_getElem (by omega), List.take_set_of_le (Nat.le_refl _), ht]
    congr 1
    rw [List.getElem_set_self]
    unfold padded
    rw [List.getElem_append_right (by omega)]
    match j, hj with
    | 0, _ => simp
    | 1, _ => simp
    | 2, _ => simp
  · have := hb.set_ (bs.length + j) (bv (padb (bs.length + j)))
    rw [show (bcs (L.set (bs.length + j) (padb (bs.length + j)))).toArray = (bcs L).toArray.setIfInBounds (bs.length + j) (bv (padb (bs.length + j))) by simp [bcs, List.map_set]]
    exact this

theorem make_u8 (w : World) (n : Nat) (hn : n ≤ 140737488351232) : (Instr.makeSlice 25 (.int .i64 ((n : Int) + 3)) (.int .i64 ((n : Int) + 3))).run Try.prog w = .ok (.slice (some ⟨w.heap.size, 0, none⟩) (n + 3) (n + 3)) (w.alloc (.cells (bcs (List.replicate (n + 3) 0)).toArray 5)) := by
  obtain ⟨i0, hi0, hz0, hz1, hz2⟩ := info_parts info5'
  have := run_make (P := Try.prog) w 25 5 i0 _ Try.underlying25 hi0 hz0 .i64 .i64 ((n : Int) + 3) ((n : Int) + 3) (by omega) (by omega) (by rw [hz2]; omega) (by omega)
  rw [hz1] at this
  rw [this, show ((n : Int) + 3).toNat = n + 3 by omega]
  congr 2
  congr 1
  apply Array.ext'
  rw [show (Value.int IntKind.u8 0).cells = #[.int .u8 0] from rfl, Nat.mul_one, toList_madeCells_one]
  simp [bcs, bv]

set_option maxHeartbeats 400000 in
theorem lent_any {D : Nat → Prop} {w : World} {A : Option Addr} {bs : List UInt8} {c : Nat} (hr : Rd D w A bs) (hlen : bs.length ≤ 140737488351232) :
    Calls Try.prog 20 #[.slice A bs.length c] w fun e w' => ∃ g, e = .returned (.slice (some ⟨g, 0, none⟩) bs.length (bs.length + 3)) ∧ w.heap.size ≤ g ∧ Blk w' g 5 (bcs (padded bs)).toArray ∧ Chg (fun _ => False) w w' := by
  have hmk := make_u8 w bs.length hlen
  have hr1 : Rd D (w.alloc (.cells (bcs (List.replicate (bs.length + 3) 0)).toArray 5)) A bs := hr.chg (S := fun _ => False) ((Chg.refl _ w).alloc _) (fun _ _ h => h)
  have hn1 : (bcs bs).length = Nat.min bs.length (bs.length + 3) := by rw [bcs_length]; exact (Nat.min_eq_left (by omega)).symm
  have hn2 : 0 + (bcs bs).length ≤ (bcs (List.replicate (bs.length + 3) 0)).length := by simp [bcs_length]
  have hn3 : ∀ v ∈ bcs bs, v.oneCell' = true := fun v hv => by
    obtain ⟨b, _, rfl⟩ := List.mem_map.1 hv
    rfl
  have hn4 : 0 < (bcs bs).length → some (⟨w.heap.size, 0, none⟩ : Addr) = some ⟨w.heap.size, 0, none⟩ ∧ ∃ ad, A = some ad ∧ ∀ j v, (bcs bs)[j]? = some v → (w.alloc (.cells (bcs (List.replicate (bs.length + 3) 0)).toArray 5)).cell? (ad.add j) = some v :=
    fun hp => ⟨rfl, (hr1 hp).imp fun _ h => ⟨h.1, h.2.2⟩⟩
  have hn5 : (Try.prog.info? 5).map (·.size) = some 1 := by kernel_rfl
  go_enter Try.func20, Try.ntmps20
  go_wp2_with ((with_reducible refine wpList_copy_splice rfl (.tmp 9) (.tmp 10) 25 25 rfl 5 Try.underlying25 hn5 (some ⟨w.heap.size, 0, none⟩) A (bs.length + 3) (bs.length + 3) bs.length c rfl rfl w.heap.size 0 (bcs (List.replicate (bs.length + 3) 0)) 5 (heap_alloc_new w _) (bcs bs) hn1 hn4 hn2 hn3 w.heap.size w (Below.alloc (Below.refl _ w) (Nat.le_refl _) _) (Nat.le_refl _) ?_); intro w1 hb1 hB1)
  have hL0 : LentRel w w.heap.size bs 0 w1 := by
    refine ⟨bs ++ List.replicate 3 0, by simp, by simp [padded], ?_, Nat.le_refl _, chg_of_below hB1⟩
    have := hb1.out
    rw [show splice (bcs (List.replicate (bs.length + 3) 0)) 0 (bcs bs) = bcs (bs ++ List.replicate 3 0) by simp [splice, bcs]] at this
    exact this
  clear hmk hb1 hB1 hr hr1 hn1 hn2 hn3 hn4 hn5
  go_loopg [4] 3 (fun k i wr => ∃ j : Nat, (j + k ≤ 3 ∧ 3 ≤ j + k) ∧ i = .int .i64 ((bs.length : Int) + j) ∧ LentRel w w.heap.size bs j wr)
  case atStart => exact ⟨0, ⟨by omega, by omega⟩, by simp, hL0⟩
  case round =>
    obtain ⟨j, ⟨hj1, hj2⟩, rfl, hL⟩ := hrel
    by_cases hj : j < 3
    · have hN := lentRel_next hj hL
      obtain ⟨L, hl, ht, hb, hg, hc⟩ := hL
      have fz := hb.frozen
      have hN' := Lib.hid hN
      have ce : wr.cell? ⟨w.heap.size, bs.length + j, none⟩ = some (bv (L[bs.length + j]'(by omega))) := by
        rw [hb.cell]
        simp [bcs]
        exact ⟨_, List.getElem?_eq_getElem (by omega), rfl⟩
      have eb : bv (padb (bs.length + j)) = .int .u8 (160 + ((bs.length : Int) + j) % 90) := by
        rw [bv_padb]
        congr 2
      clear ht hb hc hN
      go_wp2_with fail
      go_roundg (gk - 1)
      case measure => omega
      case rel => exact ⟨j + 1, ⟨by omega, by omega⟩, by go_num, by rw [← eb]; exact hN'.out⟩
    · obtain rfl : j = 3 := by omega
      obtain ⟨L, hl, ht, hb, hg, hc⟩ := hL
      have hLp : L = padded bs := by
        rw [List.take_of_length_le (by omega), List.take_of_length_le (by rw [padded_length]; omega)] at ht
        exact ht
      subst hLp
      go_wp2_with fail
      go_ret
      exact ⟨_, rfl, hg, hb, hc⟩

theorem bits_byte (op : BinOp) (x y : Int) : ∃ b : UInt8, bv b = .int .u8 (bits op .u8 x y) := by
  have := bounds_u8 (wf_bits op .u8 x y)
  refine ⟨UInt8.ofNat (bits op .u8 x y).toNat, ?_⟩
  unfold bv
  congr 1
  simp
  omega

/-- Every byte of the block is turned. -/
theorem over_put {w : World} {g i : Nat} {L : List UInt8} (h : Blk w g 5 (bcs L).toArray) (b : UInt8) : Blk (w.setCell ⟨g, i, none⟩ (bv b)) g 5 (bcs (L.set i b)).toArray := by
  have := h.set_ i (bv b)
  rw [show (bcs (L.set i b)).toArray = (bcs L).toArray.setIfInBounds i (bv b) by simp [bcs, List.map_set]]
  exact this

set_option maxHeartbeats 400000 in
theorem over_blk {w : World} {g n : Nat} {L : List UInt8} (h : Blk w g 5 (bcs L).toArray) (hl : L.length ≤ 9223372036854775807) (_hn : n ≤ L.length) :
    Calls Try.prog 24 #[.slice (some ⟨g, 0, none⟩) n L.length] w fun e w' => e = .returned (.tuple #[]) ∧ ∃ L', L'.length = L.length ∧ Blk w' g 5 (bcs L').toArray ∧ Chg (fun k => k = g) w w' := by
  go_enter Try.func24, Try.ntmps24
  go_wp2_with fail
  go_loopg [3] L.length (fun k i wr => ∃ j : Nat, (j + k ≤ L.length ∧ L.length ≤ j + k) ∧ i = .int .i64 (j : Int) ∧ ∃ L', L'.length = L.length ∧ Blk wr g 5 (bcs L').toArray ∧ Chg (fun k => k = g) w wr)
  case atStart => exact ⟨0, ⟨by omega, by omega⟩, rfl, L, rfl, h, Chg.refl _ _⟩
  case round =>
    obtain ⟨j, ⟨hj1, hj2⟩, rfl, L', hl', hb, hc⟩ := hrel
    by_cases hj : j < L.length
    · have fz := hb.frozen
      have ce : wr.cell? ⟨g, j, none⟩ = some (.int .u8 ((L'[j]'(by omega)).toNat : Int)) := by
        rw [hb.cell]
        simp [bcs]
        exact ⟨_, List.getElem?_eq_getElem (by omega), rfl⟩
      have HB := Lib.hid hb
      have HC := Lib.hid hc
      clear hb hc
      go_wp2_with fail
      obtain ⟨b, hbb⟩ := bits_byte .xor (L'[j].toNat : Int) 90
      go_roundg (gk - 1)
      case measure => omega
      case rel => exact ⟨j + 1, ⟨by omega, by omega⟩, by go_num, L'.set j b, by simpa using hl', by rw [← hbb]; exact over_put HB.out b, HC.out.setCell (S := fun k => k = g) (.inr rfl) _⟩
    · go_wp2_with fail
      go_end0
      exact ⟨rfl, L', hl', hb, hc⟩

/-- A row of bytes is written over: only its block turns, and each row of bytes stays one. -/
theorem over_any {w : World} {v : Value} {bs : List UInt8} (h : OwnB 5 w v bs) :
    Calls Try.prog 24 #[v] w fun e w' => e = .returned (.tuple #[]) ∧ Chg (fun k => some k = v.ownBlock) w w' ∧ ∀ u ys, OwnB 5 w u ys → ∃ cs, OwnB 5 w' u cs := by
  rcases h with ⟨rfl, rfl⟩ | ⟨g, c, all, rfl, hb, hl, ht, hm, hc⟩
  · go_enter Try.func24, Try.ntmps24
    go_wp2_with fail
    refine wp_loop_rounds 1 ?_
    rw [rounds_succ]
    go_wp2_with fail
    go_end0
    exact ⟨rfl, Chg.refl _ _, fun u ys h => ⟨ys, h⟩⟩
  · subst hl
    unfold maxLen at hm
    refine (over_blk hb (by omega) hc).mono ?_
    rintro e w' ⟨rfl, L', hl', hb', hc'⟩
    refine ⟨rfl, hc'.mono fun k _ hk => by subst hk; rfl, fun u ys hu => ?_⟩
    rcases hu with ⟨rfl, rfl⟩ | ⟨g2, c2, all2, rfl, hb2, hl2, ht2, hm2, hc2⟩
    · exact ⟨[], .inl ⟨rfl, rfl⟩⟩
    · by_cases hg : g2 = g
      · subst hg
        have hsz : all2.length = all.length := by
          have h1 : some (Obj.cells (bcs all2).toArray 5 (0, 0)) = some (Obj.cells (bcs all).toArray 5 (0, 0)) := hb2.symm.trans hb
          injection h1 with h1
          injection h1 with h1
          have := congrArg Array.size h1
          simpa [bcs] using this
        refine ⟨L'.take ys.length, .inr ⟨g2, c2, L', ?_, hb', by omega, by simp, hm2, by simp; omega⟩⟩
        rw [List.length_take, Nat.min_eq_left (by omega)]
      · exact ⟨ys, .inr ⟨g2, c2, all2, rfl, hc'.heap hb2 hg, hl2, ht2, hm2, hc2⟩⟩

theorem rd_blk {w : World} {g : Nat} {L : List UInt8} (h : Blk w g 5 (bcs L).toArray) : Rd (fun k => k = g) w (some ⟨g, 0, none⟩) L := fun _ =>
  ⟨_, rfl, rfl, fun j u hu => by
    rw [Addr.add_lit, Nat.zero_add, h.cell]
    simpa using hu⟩

set_option maxHeartbeats 400000 in
/-- What was lent and not written reads ys it was lent. -/
theorem kept_any {D : Nat → Prop} {w : World} {A : Option Addr} {bs : List UInt8} {c g : Nat} (hr : Rd D w A bs) (hlen : bs.length ≤ 140737488351232) (hb : Blk w g 5 (bcs (padded bs)).toArray) :
    Calls Try.prog 23 #[.slice (some ⟨g, 0, none⟩) bs.length (bs.length + 3), .slice A bs.length c] w fun e w' => e = .returned (.bool true) ∧ Chg (fun _ => False) w w' := by
  go_enter Try.func23, Try.ntmps23
  go_wp2_with fail
  have hl := padded_length bs
  have i1 : IntKind.i64.wrap ((bs.length : Int) + 3) = (bs.length : Int) + 3 := by rw [IntKind.wrap_i64]; omega
  have i2 : (0 : Int) ≤ (bs.length : Int) + 3 := by omega
  have i3 : ((bs.length : Int) + 3).toNat = bs.length + 3 := by omega
  have i4 : (bs.length : Int) + 3 ≤ ((bs.length + 3 : Nat) : Int) := by omega
  have e1 : ((bs.length : Int) == (bs.length : Int)) = true := by simp
  go_region_held3 (fun w' => True) (first | go_keep | exact trivial)
    ((first | (go_at_call 20; refine (lent_any (c := c) (hr.drewN _) hlen).mono ?_; rintro e w2 ⟨g2, rfl, hg2, hb2, hc2⟩; have hX := rd_blk (hb.chg ((Chg.refl (fun _ => False) w).drewN _ |>.trans hc2 (fun _ _ h => h)) (fun h => h)); have hY := rd_blk hb2; clear hr hb hb2) | (go_at_call 34; rw [show bs.length + 3 = (padded bs).length from hl.symm]; refine (sameBytes hX hY).mono ?_; rintro e w3 ⟨rfl, rfl⟩)))
  go_wp2_with fail
  go_ret
  exact ⟨rfl, ((Chg.refl _ w).drewN 1).trans hc2 (fun _ _ h => h)⟩
end Go.Proofs.Ythgfkepflpdalaa
