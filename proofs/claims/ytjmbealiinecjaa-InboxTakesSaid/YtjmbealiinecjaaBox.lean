import Derived.Test.YtjmbealiinecjaaKit
import Derived.Test.YtjmbealiinecjaaApp
namespace Go.Proofs.Ytjmbealiinecjaa
open Go.RowKit

def ringZ : Nat → List Value
  | 0 => []
  | n + 1 => .slice none 0 0 :: .bool false :: ringZ n
def boxCells (sz nx : Int) : Array Value := (.int .i64 sz :: .int .i64 nx :: .int .i64 0 :: ringZ 64).toArray

set_option maxRecDepth 100000 in
set_option maxHeartbeats 400000 in
theorem new_bad (q : Int) (w : World) (h : q < 1 ∨ 64 < q) :
    Calls Try.prog 10 #[.int .i64 q] w fun e w' => e = .returned (.tuple #[.pointer none, .int .i64 2]) ∧ w = w' := by
  by_cases hq : q < 1
  · go_enter Try.func10, Try.ntmps10
    go_wp2
    go_ret2
    exact ⟨rfl, rfl⟩
  · have h2 : 64 < q := by omega
    clear h
    go_enter Try.func10, Try.ntmps10
    go_wp2
    go_ret2
    exact ⟨rfl, rfl⟩

theorem boxCells_set (q : Int) : (((boxCells 0 0).setIfInBounds 0 (Value.int IntKind.i64 q)).setIfInBounds 1 (Value.int IntKind.i64 1)) = boxCells q 1 := by
  kernel_rfl
theorem zero_box (w : World) : (zeroValue 51).run Try.prog w = .ok (.agg (boxCells 0 0)) w := by kernel_rfl
theorem boxCells_size (q n : Int) : (boxCells q n).size = 131 := by kernel_rfl

set_option maxRecDepth 100000 in
set_option maxHeartbeats 400000 in
theorem new_ok (q : Int) (w : World) (h1 : 1 ≤ q) (h2 : q ≤ 64) :
    Calls Try.prog 10 #[.int .i64 q] w fun e w' => e = .returned (.tuple #[.pointer (some ⟨w.heap.size, 0, none⟩), .int .i64 0]) ∧ w.alloc (.cells (boxCells q 1) 51) = w' := by
  have hz := zero_box
  have hs := boxCells_size 0 0
  have hn : ¬ (boxCells 0 0) = #[] := by intro h; rw [h] at hs; simp at hs
  have hx := boxCells_set q
  go_enter Try.func10, Try.ntmps10
  go_wp2
  go_ret2
  exact ⟨rfl, rfl⟩

def slotV : Option (Value × List UInt8) → Value
  | none => .slice none 0 0
  | some (v, _) => v

/-- The inbox in block X. -/
structure Box (w : World) (X : Nat) (sz nx hd : Int) (f : Nat → Option (Value × List UInt8)) : Prop where
  cells : ∃ cs : Array Value, w.heap[X]? = some (.cells cs 51 (0, 0)) ∧ cs.size = 131 ∧ cs[0]? = some (.int .i64 sz) ∧ cs[1]? = some (.int .i64 nx) ∧ cs[2]? = some (.int .i64 hd) ∧
    ∀ j, j < 64 → cs[3 + j * 2]? = some (slotV (f j)) ∧ cs[3 + j * 2 + 1]? = some (.bool (f j).isSome)
  own : ∀ j, j < 64 → ∀ v bs, f j = some (v, bs) → OwnB 5 w v bs
  apart : ∀ i j, i < 64 → j < 64 → i ≠ j → ∀ v bs v' bs', f i = some (v, bs) → f j = some (v', bs') → v.ownBlock = none ∨ v.ownBlock ≠ v'.ownBlock

theorem Box.sz_ {w : World} {X : Nat} {sz nx hd : Int} {f : Nat → Option (Value × List UInt8)} (h : Box w X sz nx hd f) : w.cell? ⟨X, 0, none⟩ = some (.int .i64 sz) := by
  obtain ⟨cs, hb, hs, h0, h1, h2, hr⟩ := h.cells
  rw [cell_of_row w X 0 cs 51 (0, 0) hb, h0]
theorem Box.nx_ {w : World} {X : Nat} {sz nx hd : Int} {f : Nat → Option (Value × List UInt8)} (h : Box w X sz nx hd f) : w.cell? ⟨X, 1, none⟩ = some (.int .i64 nx) := by
  obtain ⟨cs, hb, hs, h0, h1, h2, hr⟩ := h.cells
  rw [cell_of_row w X 1 cs 51 (0, 0) hb, h1]
theorem Box.hd_ {w : World} {X : Nat} {sz nx hd : Int} {f : Nat → Option (Value × List UInt8)} (h : Box w X sz nx hd f) : w.cell? ⟨X, 2, none⟩ = some (.int .i64 hd) := by
  obtain ⟨cs, hb, hs, h0, h1, h2, hr⟩ := h.cells
  rw [cell_of_row w X 2 cs 51 (0, 0) hb, h2]
theorem Box.free {w : World} {X : Nat} {sz nx hd : Int} {f : Nat → Option (Value × List UInt8)} (h : Box w X sz nx hd f) (i : Nat) : w.frozen? ⟨X, i, none⟩ = false := by
  obtain ⟨cs, hb, hs, h0, h1, h2, hr⟩ := h.cells
  exact frozen_of_row w X i cs 51 hb
theorem Box.slot {w : World} {X : Nat} {sz nx hd : Int} {f : Nat → Option (Value × List UInt8)} (h : Box w X sz nx hd f) (j : Nat) (hj : j < 64) : w.cell? ⟨X, 3 + j * 2, none⟩ = some (slotV (f j)) := by
  obtain ⟨cs, hb, hs, h0, h1, h2, hr⟩ := h.cells
  rw [cell_of_row w X _ cs 51 (0, 0) hb, (hr j hj).1]
theorem Box.is_ {w : World} {X : Nat} {sz nx hd : Int} {f : Nat → Option (Value × List UInt8)} (h : Box w X sz nx hd f) (j : Nat) (hj : j < 64) : w.cell? ⟨X, 3 + j * 2 + 1, none⟩ = some (.bool (f j).isSome) := by
  obtain ⟨cs, hb, hs, h0, h1, h2, hr⟩ := h.cells
  rw [cell_of_row w X _ cs 51 (0, 0) hb, (hr j hj).2]


section
variable {S : Nat → Prop} {w w' : World} {X : Nat} {sz nx hd : Int} {f : Nat → Option (Value × List UInt8)} {v : Value} {bs : List UInt8}

/-- Block k holds cells that are neither the inbox's nor bytes. -/
def Other (w : World) (k : Nat) : Prop := ∃ t cs, w.heap[k]? = some (.cells cs t (0, 0)) ∧ t ≠ 51 ∧ t ≠ 5

theorem OwnB.other (h : OwnB 5 w v bs) {k : Nat} (hk : Other w k) : v.ownBlock ≠ some k := by
  rcases h with ⟨rfl, _⟩ | ⟨g, c, all, rfl, hb, hr⟩
  · simp [Value.ownBlock]
  · intro he
    have : g = k := by simpa [Value.ownBlock] using he
    subst this
    obtain ⟨t, cs, hc, _, h5⟩ := hk
    rw [hb] at hc
    injection hc with hc
    injection hc with _ ht
    exact h5 ht.symm

theorem Box.lt (h : Box w X sz nx hd f) : X < w.heap.size := by
  obtain ⟨cs, hb, _⟩ := h.cells
  exact lt_of_block hb

theorem Box.keep (h : Box w X sz nx hd f) (hX : w'.heap[X]? = w.heap[X]?) (hk : ∀ j, j < 64 → ∀ v bs, f j = some (v, bs) → ∀ g, v.ownBlock = some g → w'.heap[g]? = w.heap[g]?) : Box w' X sz nx hd f := by
  obtain ⟨cs, hb, hr⟩ := h.cells
  exact ⟨⟨cs, hX.trans hb, hr⟩, fun j hj v bs hf => (h.own j hj v bs hf).keep (hk j hj v bs hf), h.apart⟩

theorem Box.drewN (h : Box w X sz nx hd f) (n : Nat) : Box (w.drewN n) X sz nx hd f := h.keep rfl fun _ _ _ _ _ _ _ => rfl

theorem Box.ne_other (h : Box w X sz nx hd f) {k : Nat} (hk : Other w k) : X ≠ k := by
  rintro rfl
  obtain ⟨cs, hb, _⟩ := h.cells
  obtain ⟨t, cs', hc, h5, _⟩ := hk
  rw [hb] at hc
  injection hc with hc
  injection hc with _ ht
  exact h5 ht.symm

/-- What turns blocks of other kinds alone leaves the inbox as it was. -/
theorem Box.chg (h : Box w X sz nx hd f) (hc : Chg S w w') (hs : ∀ k, k < w.heap.size → S k → Other w k) : Box w' X sz nx hd f := by
  refine h.keep (hc.block X h.lt fun hS => h.ne_other (hs X h.lt hS) rfl) fun j hj v bs hf g hg => ?_
  have ho := h.own j hj v bs hf
  have hlt := ho.ownlt hg
  exact hc.block g hlt fun hS => ho.other (hs g hlt hS) hg

/-- What turns none of the inbox's blocks leaves it as it was. -/
theorem Box.chg' (h : Box w X sz nx hd f) (hc : Chg S w w') (hX : ¬ S X) (hs : ∀ j, j < 64 → ∀ v bs, f j = some (v, bs) → ∀ g, v.ownBlock = some g → ¬ S g) : Box w' X sz nx hd f := by
  refine h.keep (hc.block X h.lt hX) fun j hj v bs hf g hg => ?_
  exact hc.block g ((h.own j hj v bs hf).ownlt hg) (hs j hj v bs hf g hg)

theorem Box.own_ne (h : Box w X sz nx hd f) {j : Nat} (hj : j < 64) (hf : f j = some (v, bs)) {g : Nat} (hg : v.ownBlock = some g) : g ≠ X := by
  rintro rfl
  obtain ⟨cs, hb, _⟩ := h.cells
  rcases h.own j hj v bs hf with ⟨rfl, _⟩ | ⟨g', c, all, rfl, hb', hr⟩
  · simp [Value.ownBlock] at hg
  · have : g' = g := by simpa [Value.ownBlock] using hg
    subst this
    rw [hb] at hb'
    injection hb' with hb'
    injection hb' with _ ht
    cases ht

theorem setCell_keep (w : World) (X i : Nat) (u : Value) {g : Nat} (h : g ≠ X) : (w.setCell ⟨X, i, none⟩ u).heap[g]? = w.heap[g]? := Below.heap_setCell w ⟨X, i, none⟩ u g h

theorem Box.setNx (h : Box w X sz nx hd f) (n : Int) : Box (w.setCell ⟨X, 1, none⟩ (.int .i64 n)) X sz n hd f := by
  obtain ⟨cs, hb, hs, h0, h1, h2, hr⟩ := h.cells
  refine ⟨⟨cs.setIfInBounds 1 (.int .i64 n), Blk.set_ hb 1 _, by simpa using hs, ?_, ?_, ?_, fun j hj => ⟨?_, ?_⟩⟩, fun j hj v bs hf => (h.own j hj v bs hf).keep fun g hg => setCell_keep w X 1 _ (h.own_ne hj hf hg), h.apart⟩
  · rw [Array.getElem?_setIfInBounds_ne (by omega)]; exact h0
  · rw [Array.getElem?_setIfInBounds_self_of_lt (by omega)]
  · rw [Array.getElem?_setIfInBounds_ne (by omega)]; exact h2
  · rw [Array.getElem?_setIfInBounds_ne (by omega)]; exact (hr j hj).1
  · rw [Array.getElem?_setIfInBounds_ne (by omega)]; exact (hr j hj).2

theorem Box.setHd (h : Box w X sz nx hd f) (n : Int) : Box (w.setCell ⟨X, 2, none⟩ (.int .i64 n)) X sz nx n f := by
  obtain ⟨cs, hb, hs, h0, h1, h2, hr⟩ := h.cells
  refine ⟨⟨cs.setIfInBounds 2 (.int .i64 n), Blk.set_ hb 2 _, by simpa using hs, ?_, ?_, ?_, fun j hj => ⟨?_, ?_⟩⟩, fun j hj v bs hf => (h.own j hj v bs hf).keep fun g hg => setCell_keep w X 2 _ (h.own_ne hj hf hg), h.apart⟩
  · rw [Array.getElem?_setIfInBounds_ne (by omega)]; exact h0
  · rw [Array.getElem?_setIfInBounds_ne (by omega)]; exact h1
  · rw [Array.getElem?_setIfInBounds_self_of_lt (by omega)]
  · rw [Array.getElem?_setIfInBounds_ne (by omega)]; exact (hr j hj).1
  · rw [Array.getElem?_setIfInBounds_ne (by omega)]; exact (hr j hj).2

/-- Slot j is laid anew. -/
def put (f : Nat → Option (Value × List UInt8)) (j : Nat) (x : Option (Value × List UInt8)) : Nat → Option (Value × List UInt8) := fun i => if i = j then x else f i

theorem Box.setSlot (h : Box w X sz nx hd f) {j : Nat} (hj : j < 64) (x : Option (Value × List UInt8)) (hx : ∀ v bs, x = some (v, bs) → OwnB 5 w v bs ∧ ∀ i, i < 64 → i ≠ j → ∀ v' bs', f i = some (v', bs') → v.ownBlock = none ∨ v.ownBlock ≠ v'.ownBlock) :
    Box ((w.setCell ⟨X, 3 + j * 2, none⟩ (slotV x)).setCell ⟨X, 3 + j * 2 + 1, none⟩ (.bool x.isSome)) X sz nx hd (put f j x) := by
  obtain ⟨cs, hb, hs, h0, h1, h2, hr⟩ := h.cells
  have hk : ∀ g, g ≠ X → ((w.setCell ⟨X, 3 + j * 2, none⟩ (slotV x)).setCell ⟨X, 3 + j * 2 + 1, none⟩ (.bool x.isSome)).heap[g]? = w.heap[g]? := fun g hg =>
    (setCell_keep _ X _ _ hg).trans (setCell_keep _ X _ _ hg)
  refine ⟨⟨(cs.setIfInBounds (3 + j * 2) (slotV x)).setIfInBounds (3 + j * 2 + 1) (.bool x.isSome), Blk.set_ (Blk.set_ hb _ _) _ _, by simpa using hs, ?_, ?_, ?_, fun i hi => ?_⟩, fun i hi v bs hf => ?_, fun i i' hi hi' hne v bs v' bs' hf hf' => ?_⟩
  · rw [Array.getElem?_setIfInBounds_ne (by omega), Array.getElem?_setIfInBounds_ne (by omega)]; exact h0
  · rw [Array.getElem?_setIfInBounds_ne (by omega), Array.getElem?_setIfInBounds_ne (by omega)]; exact h1
  · rw [Array.getElem?_setIfInBounds_ne (by omega), Array.getElem?_setIfInBounds_ne (by omega)]; exact h2
  · by_cases hij : i = j
    · subst hij
      simp only [put, if_true]
      constructor
      · rw [Array.getElem?_setIfInBounds_ne (by omega), Array.getElem?_setIfInBounds_self_of_lt (by omega)]
      · rw [Array.getElem?_setIfInBounds_self_of_lt (by simp; omega)]
    · simp only [put, if_neg hij]
      constructor
      · rw [Array.getElem?_setIfInBounds_ne (by omega), Array.getElem?_setIfInBounds_ne (by omega)]; exact (hr i hi).1
      · rw [Array.getElem?_setIfInBounds_ne (by omega), Array.getElem?_setIfInBounds_ne (by omega)]; exact (hr i hi).2
  · by_cases hij : i = j
    · subst hij
      simp only [put, if_true] at hf
      have ho := (hx v bs hf).1
      exact ho.keep fun g hg => hk g (by
        rintro rfl
        rcases ho with ⟨rfl, _⟩ | ⟨g', c, all, rfl, hb', _⟩
        · simp [Value.ownBlock] at hg
        · have : g' = g := by simpa [Value.ownBlock] using hg
          subst this
          rw [hb] at hb'
          injection hb' with hb'
          injection hb' with _ ht
          cases ht)
    · simp only [put, if_neg hij] at hf
      exact (h.own i hi v bs hf).keep fun g hg => hk g (h.own_ne hi hf hg)
  · by_cases hij : i = j
    · subst hij
      simp only [put, if_true] at hf
      simp only [put, if_neg (Ne.symm hne)] at hf'
      exact (hx v bs hf).2 i' hi' (Ne.symm hne) v' bs' hf'
    · simp only [put, if_neg hij] at hf
      by_cases hij' : i' = j
      · subst hij'
        simp only [put, if_true] at hf'
        rcases (hx v' bs' hf').2 i hi hij v bs hf with h1 | h1
        · by_cases hn : v.ownBlock = none
          · exact .inl hn
          · exact .inr (by rw [h1]; exact hn)
        · exact .inr (Ne.symm h1)
      · simp only [put, if_neg hij'] at hf'
        exact h.apart i i' hi hi' hne v bs v' bs' hf hf'
end

set_option maxHeartbeats 400000 in
theorem none_nil (w : World) :
    Calls Try.prog 26 #[.pointer none] w fun e w' => e = .returned (.bool true) ∧ w = w' := by
  go_enter Try.func26, Try.ntmps26
  go_wp2
  go_ret
  exact ⟨rfl, rfl⟩

set_option maxHeartbeats 400000 in
theorem none_some (b : Nat) (sz : Int) (w : World) (h0 : w.cell? ⟨b, 0, none⟩ = some (.int .i64 sz)) :
    Calls Try.prog 26 #[.pointer (some ⟨b, 0, none⟩)] w fun e w' => e = .returned (.bool (sz == 0)) ∧ w = w' := by
  go_enter Try.func26, Try.ntmps26
  go_wp2
  go_ret
  exact ⟨rfl, rfl⟩

set_option maxHeartbeats 400000 in
theorem ahead_lo (b : Nat) (nx q : Int) (w : World) (h1 : w.cell? ⟨b, 1, none⟩ = some (.int .i64 nx)) (hq : q < nx) :
    Calls Try.prog 27 #[.pointer (some ⟨b, 0, none⟩), .int .i64 q] w fun e w' => e = .returned (.bool false) ∧ ∃ n, w' = w.drewN n := by
  have hd : decide (nx ≤ q) = false := by simp; omega
  go_enter Try.func27, Try.ntmps27
  go_wp2_with fail
  go_quiet (fail)
  go_wp2
  go_ret
  exact ⟨rfl, _, rfl⟩

set_option maxHeartbeats 400000 in
theorem ahead_hi (b : Nat) (nx sz q : Int) (w : World) (h0 : w.cell? ⟨b, 0, none⟩ = some (.int .i64 sz)) (h1 : w.cell? ⟨b, 1, none⟩ = some (.int .i64 nx)) (hq : nx ≤ q) (hn : 0 ≤ nx) (hqm : q ≤ 9223372036854775807) :
    Calls Try.prog 27 #[.pointer (some ⟨b, 0, none⟩), .int .i64 q] w fun e w' => e = .returned (.bool (decide (q - nx < sz))) ∧ ∃ n, w' = w.drewN n := by
  go_enter Try.func27, Try.ntmps27
  go_wp2_with fail
  go_quiet (fail)
  go_wp2
  go_ret
  exact ⟨rfl, _, rfl⟩

def hasB (sz nx : Int) (f : Nat → Option (Value × List UInt8)) (q : Int) : Bool :=
  decide (1 ≤ q) && (decide (q < nx) || (decide (q - nx < sz) && (f (q % 64).toNat).isSome))

set_option maxHeartbeats 400000 in
theorem has_any {w : World} {X : Nat} {sz nx hd : Int} {f : Nat → Option (Value × List UInt8)} (h : Box w X sz nx hd f) (h1 : 1 ≤ sz) (h3 : 1 ≤ nx) (q : Int) (hq : q ≤ 9223372036854775807) :
    Calls Try.prog 19 #[.pointer (some ⟨X, 0, none⟩), .int .i64 q] w fun e w' => e = .returned (.bool (hasB sz nx f q)) ∧ ∃ n, w' = w.drewN n := by
  have c0 := h.sz_
  have c1 := h.nx_
  have hz : (sz == 0) = false := by simp; omega
  by_cases hq1 : q < 1
  · have e1 : hasB sz nx f q = false := by simp [hasB]; omega
    go_enter Try.func19, Try.ntmps19
    go_wp2_with (go_at_call 26; refine (none_some _ _ _ c0).mono ?_; rintro e w' ⟨rfl, rfl⟩)
    go_ret
    exact ⟨ret_bool e1.symm, 0, rfl⟩
  · by_cases hqn : q < nx
    · have e1 : hasB sz nx f q = true := by simp [hasB]; omega
      go_enter Try.func19, Try.ntmps19
      go_wp2_with (go_at_call 26; refine (none_some _ _ _ c0).mono ?_; rintro e w' ⟨rfl, rfl⟩)
      go_ret
      exact ⟨ret_bool e1.symm, 0, rfl⟩
    · by_cases hqs : q - nx < sz
      · have hj : (q % 64).toNat < 64 := by omega
        have ci := h.is_ _ hj
        go_enter Try.func19, Try.ntmps19
        go_wp2_with (first | (go_at_call 26; refine (none_some _ _ _ c0).mono ?_; rintro e w' ⟨rfl, rfl⟩) | (go_at_call 27; refine (ahead_hi _ _ _ _ _ c0 c1 (by omega) (by omega) hq).mono ?_; rintro e w' ⟨rfl, n, rfl⟩))
        go_ret
        exact ⟨ret_bool (by simp [hasB, hqs, show 1 ≤ q by omega]), n, rfl⟩
      · have e1 : hasB sz nx f q = false := by simp [hasB]; omega
        go_enter Try.func19, Try.ntmps19
        go_wp2_with (first | (go_at_call 26; refine (none_some _ _ _ c0).mono ?_; rintro e w' ⟨rfl, rfl⟩) | (go_at_call 27; refine (ahead_hi _ _ _ _ _ c0 c1 (by omega) (by omega) hq).mono ?_; rintro e w' ⟨rfl, n, rfl⟩))
        go_ret
        exact ⟨ret_bool (by simp; omega), n, rfl⟩

set_option maxHeartbeats 400000 in
theorem next_any {w : World} {X : Nat} {sz nx hd : Int} {f : Nat → Option (Value × List UInt8)} (h : Box w X sz nx hd f) (h1 : 1 ≤ sz) :
    Calls Try.prog 17 #[.pointer (some ⟨X, 0, none⟩)] w fun e w' => e = .returned (.int .i64 nx) ∧ w = w' := by
  have c0 := h.sz_
  have c1 := h.nx_
  have hz : (sz == 0) = false := by simp; omega
  go_enter Try.func17, Try.ntmps17
  go_wp2_with (go_at_call 26; refine (none_some _ _ _ c0).mono ?_; rintro e w' ⟨rfl, rfl⟩)
  go_ret
  exact ⟨rfl, rfl⟩

set_option maxHeartbeats 400000 in
theorem held_any {w : World} {X : Nat} {sz nx hd : Int} {f : Nat → Option (Value × List UInt8)} (h : Box w X sz nx hd f) (h1 : 1 ≤ sz) :
    Calls Try.prog 18 #[.pointer (some ⟨X, 0, none⟩)] w fun e w' => e = .returned (.int .i64 hd) ∧ w = w' := by
  have c0 := h.sz_
  have c1 := h.hd_
  have hz : (sz == 0) = false := by simp; omega
  go_enter Try.func18, Try.ntmps18
  go_wp2_with (go_at_call 26; refine (none_some _ _ _ c0).mono ?_; rintro e w' ⟨rfl, rfl⟩)
  go_ret
  exact ⟨rfl, rfl⟩
end Go.Proofs.Ytjmbealiinecjaa
