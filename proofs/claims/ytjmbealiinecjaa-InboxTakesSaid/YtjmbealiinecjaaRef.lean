/- The document's inbox, a list of what is held: satchelref14. -/
import Derived.Test.YtjmbealiinecjaaLent
namespace Go.Proofs.Ytjmbealiinecjaa
open Go.RowKit

abbrev HeldR := Int × Value × List UInt8
def refCells (hs : List HeldR) : List Value := hs.flatMap fun x => [.int .i64 x.1, x.2.1]
theorem refCells_length (hs : List HeldR) : (refCells hs).length = hs.length * 2 := by
  induction hs with
  | nil => rfl
  | cons x hs ih => simp [refCells, List.flatMap_cons] at ih ⊢; omega
theorem refCells_append (hs ks : List HeldR) : refCells (hs ++ ks) = refCells hs ++ refCells ks := by simp [refCells]
theorem refCells_one (x : HeldR) : refCells [x] = [.int .i64 x.1, x.2.1] := rfl
theorem refCells_at : ∀ (hs : List HeldR) (i : Nat) (x : HeldR), hs[i]? = some x → (refCells hs)[i * 2]? = some (.int .i64 x.1) ∧ (refCells hs)[i * 2 + 1]? = some x.2.1
  | y :: hs, 0, x, h => by
    have : y = x := by simpa using h
    subst this
    exact ⟨rfl, rfl⟩
  | y :: hs, i + 1, x, h => by
    have := refCells_at hs i x (by simpa using h)
    rw [show refCells (y :: hs) = Value.int .i64 y.1 :: y.2.1 :: refCells hs from rfl, show (i + 1) * 2 = i * 2 + 2 by omega]
    simpa using this
theorem refCells_take (hs : List HeldR) (i : Nat) : refCells (hs.take i) = (refCells hs).take (i * 2) := by
  induction hs generalizing i with
  | nil => simp [refCells]
  | cons x hs ih =>
    cases i with
    | zero => simp [refCells]
    | succ i =>
      rw [List.take_succ_cons, show refCells (x :: hs.take i) = Value.int .i64 x.1 :: x.2.1 :: refCells (hs.take i) from rfl, show refCells (x :: hs) = Value.int .i64 x.1 :: x.2.1 :: refCells hs from rfl, show (i + 1) * 2 = i * 2 + 2 by omega, ih]
      simp
theorem refCells_drop (hs : List HeldR) (i : Nat) : refCells (hs.drop i) = (refCells hs).drop (i * 2) := by
  induction hs generalizing i with
  | nil => simp [refCells]
  | cons x hs ih =>
    cases i with
    | zero => simp
    | succ i =>
      rw [List.drop_succ_cons, show refCells (x :: hs) = Value.int .i64 x.1 :: x.2.1 :: refCells hs from rfl, show (i + 1) * 2 = i * 2 + 2 by omega, ih]
      simp
theorem refCells_oneCell {w : World} {hs : List HeldR} (h : ∀ x ∈ hs, OwnB 5 w x.2.1 x.2.2) : ∀ u ∈ refCells hs, u.oneCell' = true := by
  intro u hu
  obtain ⟨x, hx, hu⟩ := List.mem_flatMap.1 hu
  rcases List.mem_cons.1 hu with rfl | hu
  · rfl
  · have : u = x.2.1 := by simpa using hu
    subst this
    exact (h x hx).one

theorem own_chg' {S : Nat → Prop} {w w' : World} {base : Nat} {e : TypeId} {size n : Nat} {v : Value} {xs : List Value} (h : w.ownsRow base e size v n xs) (hc : Chg S w w') (hs : ∀ g, v.ownBlock = some g → ¬ S g) : w'.ownsRow base e size v n xs := by
  refine ⟨h.1, ?_⟩
  rcases h.2 with ⟨rfl, h2⟩ | ⟨g, cap, cur, rfl, hb, hh, h1, h2, h3⟩
  · exact .inl ⟨rfl, h2⟩
  · exact .inr ⟨g, cap, cur, rfl, hb, hc.heap hh (hs g rfl), h1, h2, h3⟩
theorem row_blk {w : World} {base : Nat} {e : TypeId} {size n : Nat} {v : Value} {xs : List Value} (h : w.ownsRow base e size v n xs) {g : Nat} (hg : v.ownBlock = some g) : ∃ cs, Blk w g e cs := by
  rcases h.2 with ⟨rfl, _⟩ | ⟨g', cap, cur, rfl, _, hh, _⟩
  · cases hg
  · have : g' = g := by simpa [Value.ownBlock] using hg
    subst this
    exact ⟨_, hh⟩

/-- The document's inbox in memory: its own blocks lie from B on. -/
structure RBox (B : Nat) (w : World) (Y : Nat) (sz nx : Int) (hs : List HeldR) (hv : Value) : Prop where
  blk : Blk w Y 43 #[.int .i64 sz, .int .i64 nx, hv]
  row : w.ownsRow 0 59 2 hv hs.length (refCells hs)
  own : ∀ x ∈ hs, OwnB 5 w x.2.1 x.2.2
  lo : B ≤ Y
  lo' : ∀ g, hv.ownBlock = some g → B ≤ g

section
variable {B : Nat} {w w' : World} {Y : Nat} {sz nx : Int} {hs : List HeldR} {hv : Value} {S : Nat → Prop}
theorem RBox.chg (h : RBox B w Y sz nx hs hv) (hc : Chg S w w') (hs1 : ∀ k t cs, Blk w k t cs → S k → t ≠ 43 ∧ t ≠ 59) (hs2 : ∀ x ∈ hs, ∀ g, x.2.1.ownBlock = some g → ¬ S g) : RBox B w' Y sz nx hs hv := by
  refine ⟨h.blk.chg hc fun hS => (hs1 _ _ _ h.blk hS).1 rfl, ?_, fun x hx => (h.own x hx).chg hc (hs2 x hx), h.lo, h.lo'⟩
  refine own_chg' h.row hc fun g hg hS => ?_
  obtain ⟨cs, hb⟩ := row_blk h.row hg
  exact (hs1 _ _ _ hb hS).2 rfl
theorem RBox.new_ (h : RBox B w Y sz nx hs hv) (hc : Chg (fun _ => False) w w') : RBox B w' Y sz nx hs hv := h.chg hc (fun _ _ _ _ h => h.elim) (fun _ _ _ _ h => h)
theorem RBox.drewN (h : RBox B w Y sz nx hs hv) (n : Nat) : RBox B (w.drewN n) Y sz nx hs hv := ⟨h.blk, h.row, h.own, h.lo, h.lo'⟩
end

/-- Where a number is held: -1: it is not. -/
def atI (hs : List HeldR) (s : Int) : Int := match hs.findIdx? fun x => x.1 == s with
  | some i => i
  | none => -1
theorem atI_some {hs : List HeldR} {s : Int} {j : Nat} {x : HeldR} (hx : hs[j]? = some x) (hs' : x.1 = s) (hn : ∀ (i : Nat) (y : HeldR), i < j → hs[i]? = some y → y.1 ≠ s) : atI hs s = j := by
  obtain ⟨hj, rfl⟩ := List.getElem?_eq_some_iff.1 hx
  have : hs.findIdx? (fun x => x.1 == s) = some j := by
    rw [List.findIdx?_eq_some_iff_getElem]
    refine ⟨hj, by simpa using hs', fun i hi => ?_⟩
    simpa using hn i _ hi (List.getElem?_eq_getElem (by omega))
  simp [atI, this]
theorem atI_none {hs : List HeldR} {s : Int} (hn : ∀ x ∈ hs, x.1 ≠ s) : atI hs s = -1 := by
  have : hs.findIdx? (fun x => x.1 == s) = none := by
    rw [List.findIdx?_eq_none_iff]
    intro x hx
    simpa using hn x hx
  simp [atI, this]
theorem atI_lt (hs : List HeldR) (s : Int) : -1 ≤ atI hs s ∧ atI hs s < hs.length := by
  unfold atI
  split
  · next i h =>
    have := (List.findIdx?_eq_some_iff_getElem.1 h).1
    omega
  · omega

set_option maxHeartbeats 400000 in
theorem at_any {B : Nat} {w : World} {Y : Nat} {sz nx : Int} {hs : List HeldR} {hv : Value} (h : RBox B w Y sz nx hs hv) (hlen : hs.length ≤ 9223372036854775807) (s : Int) :
    Calls Try.prog 29 #[.pointer (some ⟨Y, 0, none⟩), .int .i64 s] w fun e w' => e = .returned (.int .i64 (atI hs s)) ∧ w = w' := by
  have c2 : w.cell? ⟨Y, 2, none⟩ = some hv := by rw [h.blk.cell]; rfl
  have hrow := h.row
  obtain ⟨A, c, rfl, hcl, hcm⟩ := own_shape hrow
  go_enter Try.func29, Try.ntmps29
  go_wp2_with fail
  go_loopg [5] hs.length (fun k i wr => ∃ j : Nat, (j + k ≤ hs.length ∧ hs.length ≤ j + k) ∧ i = .int .i64 (j : Int) ∧ (∀ (i : Nat) (y : HeldR), i < j → hs[i]? = some y → y.1 ≠ s) ∧ wr = w)
  case atStart => exact ⟨0, ⟨by omega, by omega⟩, rfl, fun i y hi => absurd hi (by omega), rfl⟩
  case round =>
    obtain ⟨j, ⟨hj1, hj2⟩, rfl, hn, rfl⟩ := hrel
    by_cases hj : j < hs.length
    · have hg : hs[j]? = some hs[j] := List.getElem?_eq_getElem hj
      obtain ⟨g, cap, he, _, _⟩ := hrow.form (by omega)
      injection he with he1 he2 he3
      subst he1 he3
      have cc := hrow.cells (g := g) rfl (j * 2) _ (refCells_at hs j _ hg).1
      rw [Addr.add_lit, Nat.zero_add] at cc
      by_cases hx : hs[j].1 = s
      · have e1 : (hs[j].1 == s) = true := by simpa using hx
        have hat := atI_some hg hx hn
        have HA := Lib.hid hat
        clear hx hat hn
        go_wp2_with fail
        go_ret
        exact ⟨by rw [HA.out]; rfl, rfl⟩
      · have e1 : (hs[j].1 == s) = false := by simpa using hx
        have hn' : ∀ (i : Nat) (y : HeldR), i < j + 1 → hs[i]? = some y → y.1 ≠ s := by
          intro i y hi hy
          by_cases h1 : i = j
          · subst h1
            rw [hg] at hy
            injection hy with hy
            subst hy
            exact hx
          · exact hn i y (by omega) hy
        have HN := Lib.hid hn'
        clear hx hn' hn
        go_wp2_with fail
        go_roundg (gk - 1)
        case measure => omega
        case rel => exact ⟨j + 1, ⟨by omega, by omega⟩, by go_num, HN.out, rfl⟩
    · have hat := atI_none (hs := hs) (s := s) fun x hx => by
        obtain ⟨i, hi⟩ := List.getElem?_of_mem hx
        have := (List.getElem?_eq_some_iff.1 hi).1
        exact hn i x (by omega) hi
      have HA := Lib.hid hat
      clear hn hat
      go_wp2_with fail
      go_ret
      exact ⟨by rw [HA.out]; rfl, rfl⟩

/-- Whether the document's inbox has a number. -/
def refHas (nx : Int) (hs : List HeldR) (s : Int) : Bool := (decide (1 ≤ s) && decide (s < nx)) || decide (0 ≤ atI hs s)

set_option maxHeartbeats 400000 in
theorem rhas_any {B : Nat} {w : World} {Y : Nat} {sz nx : Int} {hs : List HeldR} {hv : Value} (h : RBox B w Y sz nx hs hv) (hlen : hs.length ≤ 9223372036854775807) (s : Int) :
    Calls Try.prog 20 #[.pointer (some ⟨Y, 0, none⟩), .int .i64 s] w fun e w' => e = .returned (.bool (refHas nx hs s)) ∧ w = w' := by
  have c1 : w.cell? ⟨Y, 1, none⟩ = some (.int .i64 nx) := by rw [h.blk.cell]; rfl
  by_cases h1 : 1 ≤ s
  · by_cases h2 : s < nx
    · have : refHas nx hs s = true := by simp [refHas, h1, h2]
      rw [this]
      go_enter Try.func20, Try.ntmps20
      go_wp2_with (go_at_call 29; refine (at_any h hlen s).mono ?_; rintro e w' ⟨rfl, rfl⟩)
      go_ret
      exact ⟨rfl, rfl⟩
    · have : refHas nx hs s = decide (0 ≤ atI hs s) := by simp [refHas, h2]
      rw [this]
      go_enter Try.func20, Try.ntmps20
      go_wp2_with (go_at_call 29; refine (at_any h hlen s).mono ?_; rintro e w' ⟨rfl, rfl⟩)
      go_ret
      exact ⟨rfl, rfl⟩
  · have : refHas nx hs s = decide (0 ≤ atI hs s) := by simp [refHas, h1]
    rw [this]
    go_enter Try.func20, Try.ntmps20
    go_wp2_with (go_at_call 29; refine (at_any h hlen s).mono ?_; rintro e w' ⟨rfl, rfl⟩)
    go_ret
    exact ⟨rfl, rfl⟩

theorem rnew_ok (sz : Int) (w : World) (h1 : 1 ≤ sz) (h2 : sz ≤ 64) : Calls Try.prog 11 #[.int .i64 sz] w fun e w' => e = .returned (.tuple #[.pointer (some ⟨w.heap.size, 0, none⟩), .int .i64 0]) ∧ w' = w.alloc (.cells #[.int .i64 sz, .int .i64 1, .slice none 0 0] 43) := by
  go_enter Try.func11, Try.ntmps11
  go_wp2_with fail
  go_ret2
  exact ⟨rfl, rfl⟩
theorem rnew_bad (sz : Int) (w : World) (h : sz < 1 ∨ 64 < sz) : Calls Try.prog 11 #[.int .i64 sz] w fun e w' => e = .returned (.tuple #[.pointer none, .int .i64 2]) ∧ w' = w := by
  by_cases h1 : sz < 1
  · go_enter Try.func11, Try.ntmps11
    go_wp2_with fail
    go_ret2
    exact ⟨rfl, rfl⟩
  · have h2 : 64 < sz := by omega
    clear h
    go_enter Try.func11, Try.ntmps11
    go_wp2_with fail
    go_ret2
    exact ⟨rfl, rfl⟩
theorem new_rbox (w : World) (sz : Int) {B : Nat} (hB : B ≤ w.heap.size) : RBox B (w.alloc (.cells #[.int .i64 sz, .int .i64 1, .slice none 0 0] 43)) w.heap.size sz 1 [] (.slice none 0 0) :=
  ⟨Blk.new _ _ _, World.ownsRow_nil _ _ _ _, (fun x hx => by cases hx), hB, fun g hg => by simp [Value.ownBlock] at hg⟩
end Go.Proofs.Ytjmbealiinecjaa
