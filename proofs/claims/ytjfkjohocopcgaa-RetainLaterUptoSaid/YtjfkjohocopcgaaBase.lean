/- Snapshots and policies: what the small functions of the chapter answer. -/
import Derived.Test.YtjfkjohocopcgaaRows
import Derived.Test.YtjfkjohocopcgaaApp
namespace Go.Proofs.Ytjfkjohocopcgaa
open Go.RowKit

abbrev Snp := Int × Int
def snapCells (l : List Snp) : List Value := l.flatMap fun x => [.int .i64 x.1, .int .i64 x.2]
theorem snapCells_length (l : List Snp) : (snapCells l).length = l.length * 2 := by
  induction l with
  | nil => rfl
  | cons x l ih => simp [snapCells, List.flatMap_cons] at ih ⊢; omega
theorem snapCells_append (l m : List Snp) : snapCells (l ++ m) = snapCells l ++ snapCells m := by simp [snapCells]
theorem snapCells_at : ∀ (l : List Snp) (i : Nat) (x : Snp), l[i]? = some x → (snapCells l)[i * 2]? = some (.int .i64 x.1) ∧ (snapCells l)[i * 2 + 1]? = some (.int .i64 x.2)
  | y :: l, 0, x, h => by
    have : y = x := by simpa using h
    subst this
    exact ⟨rfl, rfl⟩
  | y :: l, i + 1, x, h => by
    have := snapCells_at l i x (by simpa using h)
    rw [show snapCells (y :: l) = Value.int .i64 y.1 :: Value.int .i64 y.2 :: snapCells l from rfl, show (i + 1) * 2 = i * 2 + 2 by omega]
    simpa using this
theorem snapCells_one (l : List Snp) : ∀ u ∈ snapCells l, u.oneCell' = true := by
  intro u hu
  obtain ⟨x, hx, hu⟩ := List.mem_flatMap.1 hu
  simp at hu
  rcases hu with rfl | rfl <;> rfl

/-- Snapshots that are read. -/
def Snaps (D : Nat → Prop) (w : World) (A : Option Addr) (l : List Snp) : Prop := RdC D w A (snapCells l)
theorem addr_next (a : Addr) (k : Nat) : a.add (k + 1) = ⟨(a.add k).block, (a.add k).off + 1, none⟩ := by
  unfold Addr.add
  by_cases h : k = 0
  · simp [h]
  · simp [h, Nat.add_assoc]
theorem Snaps.at_ {D : Nat → Prop} {w : World} {A : Option Addr} {l : List Snp} (h : Snaps D w A l) {k : Nat} (hk : k < l.length) :
    ∃ ad, A = some ad ∧ D ad.block ∧ w.cell? (ad.add (k * 2)) = some (.int .i64 l[k].1) ∧ w.cell? ⟨(ad.add (k * 2)).block, (ad.add (k * 2)).off + 1, none⟩ = some (.int .i64 l[k].2) := by
  obtain ⟨ad, e, hd, hc⟩ := h (by rw [snapCells_length]; omega)
  obtain ⟨h1, h2⟩ := snapCells_at l k l[k] (List.getElem?_eq_getElem hk)
  exact ⟨ad, e, hd, hc _ _ h1, by rw [← addr_next]; exact hc _ _ h2⟩

/-- Numbers that are read. -/
def intCells (l : List Int) : List Value := l.map (Value.int .i64)
def Nums (D : Nat → Prop) (w : World) (A : Option Addr) (l : List Int) : Prop := RdC D w A (intCells l)

structure Pol where
  last : Int
  span : Int
  spans : Int
def Pol.v (p : Pol) : Value := .agg #[.int .i64 p.last, .int .i64 p.span, .int .i64 p.spans]

/-- Why a policy may not be. -/
def Pol.ok (p : Pol) : Bool := decide (0 ≤ p.last) && decide (p.last ≤ 64) && (decide (0 ≤ p.spans) && decide (p.spans ≤ 64)) && (decide (0 ≤ p.span) && decide (p.span ≤ 2147483647))
def Pol.code (p : Pol) : Int := if p.ok then 0 else 5

theorem within_any (n lo hi : Int) (w : World) : Calls Try.prog 24 #[.int .i64 n, .int .i64 lo, .int .i64 hi] w fun e w' => e = .returned (.bool (decide (lo ≤ n) && decide (n ≤ hi))) ∧ w = w' := by
  by_cases h : lo ≤ n
  · go_enter Try.func24, Try.ntmps24
    go_wp2
    go_ret
    exact ⟨by simp [h], rfl⟩
  · go_enter Try.func24, Try.ntmps24
    go_wp2
    go_ret
    exact ⟨by simp; omega, rfl⟩
theorem rwithin_any (n lo hi : Int) (w : World) : Calls Try.prog 27 #[.int .i64 n, .int .i64 lo, .int .i64 hi] w fun e w' => e = .returned (.bool (decide (lo ≤ n) && decide (n ≤ hi))) ∧ w = w' := by
  by_cases h : lo ≤ n
  · go_enter Try.func27, Try.ntmps27
    go_wp2
    go_ret
    exact ⟨by simp [h], rfl⟩
  · go_enter Try.func27, Try.ntmps27
    go_wp2
    go_ret
    exact ⟨by simp; omega, rfl⟩

theorem pol_cells (w : World) (p : Pol) : Blk (w.alloc (.cells #[.int .i64 p.last, .int .i64 p.span, .int .i64 p.spans] 24)) w.heap.size 24 #[.int .i64 p.last, .int .i64 p.span, .int .i64 p.spans] := Blk.new _ _ _

theorem check_any (p : Pol) (w : World) : Calls Try.prog 12 #[p.v] w fun e w' => e = .returned (.int .i64 p.code) ∧ Chg (fun _ => False) w w' := by
  obtain ⟨a, b, c⟩ := p
  have hb := pol_cells w ⟨a, b, c⟩
  simp only at hb
  have c0 := hb.cell 0
  have c1 := hb.cell 1
  have c2 := hb.cell 2
  simp only [List.getElem?_toArray] at c0 c1 c2
  unfold Pol.v
  rcases h1 : (decide (0 ≤ a) && decide (a ≤ 64)) with _ | _
  · have : (Pol.code ⟨a, b, c⟩) = 5 := by simp [Pol.code, Pol.ok, h1]
    rw [this]
    go_enter Try.func12, Try.ntmps12
    go_wp2_with (go_at_call 24; refine (within_any _ _ _ _).mono ?_; rintro e w' ⟨rfl, rfl⟩; rw [h1])
    go_ret
    exact ⟨rfl, (Chg.refl _ _).alloc _⟩
  · rcases h2 : (decide (0 ≤ c) && decide (c ≤ 64)) with _ | _
    · have : (Pol.code ⟨a, b, c⟩) = 5 := by simp [Pol.code, Pol.ok, h1, h2]
      rw [this]
      go_enter Try.func12, Try.ntmps12
      go_wp2_with (go_at_call 24; refine (within_any _ _ _ _).mono ?_; rintro e w' ⟨rfl, rfl⟩; first | rw [h1] | rw [h2])
      go_ret
      exact ⟨rfl, (Chg.refl _ _).alloc _⟩
    · rcases h3 : (decide (0 ≤ b) && decide (b ≤ 2147483647)) with _ | _
      · have : (Pol.code ⟨a, b, c⟩) = 5 := by simp [Pol.code, Pol.ok, h1, h2, h3]
        rw [this]
        go_enter Try.func12, Try.ntmps12
        go_wp2_with (go_at_call 24; refine (within_any _ _ _ _).mono ?_; rintro e w' ⟨rfl, rfl⟩; first | rw [h1] | rw [h2] | rw [h3])
        go_ret
        exact ⟨rfl, (Chg.refl _ _).alloc _⟩
      · have : (Pol.code ⟨a, b, c⟩) = 0 := by simp [Pol.code, Pol.ok, h1, h2, h3]
        rw [this]
        go_enter Try.func12, Try.ntmps12
        go_wp2_with (go_at_call 24; refine (within_any _ _ _ _).mono ?_; rintro e w' ⟨rfl, rfl⟩; first | rw [h1] | rw [h2] | rw [h3])
        go_ret
        exact ⟨rfl, (Chg.refl _ _).alloc _⟩
theorem rcheck_any (p : Pol) (w : World) : Calls Try.prog 20 #[p.v] w fun e w' => e = .returned (.int .i64 p.code) ∧ Chg (fun _ => False) w w' := by
  obtain ⟨a, b, c⟩ := p
  have hb := pol_cells w ⟨a, b, c⟩
  simp only at hb
  have c0 := hb.cell 0
  have c1 := hb.cell 1
  have c2 := hb.cell 2
  simp only [List.getElem?_toArray] at c0 c1 c2
  unfold Pol.v
  rcases h1 : (decide (0 ≤ a) && decide (a ≤ 64)) with _ | _
  · have : (Pol.code ⟨a, b, c⟩) = 5 := by simp [Pol.code, Pol.ok, h1]
    rw [this]
    go_enter Try.func20, Try.ntmps20
    go_wp2_with (go_at_call 27; refine (rwithin_any _ _ _ _).mono ?_; rintro e w' ⟨rfl, rfl⟩; rw [h1])
    go_ret
    exact ⟨rfl, (Chg.refl _ _).alloc _⟩
  · rcases h2 : (decide (0 ≤ c) && decide (c ≤ 64)) with _ | _
    · have : (Pol.code ⟨a, b, c⟩) = 5 := by simp [Pol.code, Pol.ok, h1, h2]
      rw [this]
      go_enter Try.func20, Try.ntmps20
      go_wp2_with (go_at_call 27; refine (rwithin_any _ _ _ _).mono ?_; rintro e w' ⟨rfl, rfl⟩; first | rw [h1] | rw [h2])
      go_ret
      exact ⟨rfl, (Chg.refl _ _).alloc _⟩
    · rcases h3 : (decide (0 ≤ b) && decide (b ≤ 2147483647)) with _ | _
      · have : (Pol.code ⟨a, b, c⟩) = 5 := by simp [Pol.code, Pol.ok, h1, h2, h3]
        rw [this]
        go_enter Try.func20, Try.ntmps20
        go_wp2_with (go_at_call 27; refine (rwithin_any _ _ _ _).mono ?_; rintro e w' ⟨rfl, rfl⟩; first | rw [h1] | rw [h2] | rw [h3])
        go_ret
        exact ⟨rfl, (Chg.refl _ _).alloc _⟩
      · have : (Pol.code ⟨a, b, c⟩) = 0 := by simp [Pol.code, Pol.ok, h1, h2, h3]
        rw [this]
        go_enter Try.func20, Try.ntmps20
        go_wp2_with (go_at_call 27; refine (rwithin_any _ _ _ _).mono ?_; rintro e w' ⟨rfl, rfl⟩; first | rw [h1] | rw [h2] | rw [h3])
        go_ret
        exact ⟨rfl, (Chg.refl _ _).alloc _⟩

/-- Whether snapshots may be, behind a number. -/
def soundB (prev : Int) : List Snp → Bool
  | [] => true
  | x :: l => decide (prev < x.1) && decide (x.1 ≤ 2147483647) && (decide (0 ≤ x.2) && decide (x.2 ≤ 2147483647)) && soundB x.1 l

set_option maxHeartbeats 400000 in
theorem sound_any {D : Nat → Prop} {w : World} {A : Option Addr} {l : List Snp} {c : Nat} (h : Snaps D w A l) (hl : l.length ≤ 9223372036854775807) :
    Calls Try.prog 11 #[.slice A l.length c] w fun e w' => e = .returned (.bool (soundB 0 l)) ∧ Chg (fun _ => False) w w' := by
  go_enter Try.func11, Try.ntmps11
  go_wp2_with fail
  go_loopg [3, 8] l.length (fun k v i wr => ∃ (j : Nat) (prev : Int), (j + k ≤ l.length ∧ l.length ≤ j + k) ∧ i = .int .i64 (j : Int) ∧ v = .int .i64 prev ∧ soundB 0 l = soundB prev (l.drop j) ∧ Chg (fun _ => False) w wr)
  case atStart => exact ⟨0, 0, ⟨by omega, by omega⟩, rfl, rfl, rfl, Chg.refl _ _⟩
  case round =>
    obtain ⟨j, prev, ⟨hj1, hj2⟩, rfl, rfl, hs, hc⟩ := hrel
    by_cases hj : j < l.length
    · obtain ⟨ad, rfl, had, c1, c2⟩ := Snaps.at_ (D := D) (w := wr) (A := A) (l := l) (h.chg hc (fun _ _ h => h)) hj
      rw [List.drop_eq_getElem_cons hj] at hs
      generalize l[j] = x at hs c1 c2
      obtain ⟨n, t⟩ := x
      simp only [soundB] at hs c1 c2
      have hb : Blk (wr.alloc (.cells #[.int .i64 n, .int .i64 t] 37)) wr.heap.size 37 #[.int .i64 n, .int .i64 t] := Blk.new _ _ _
      have b0 := hb.cell 0
      have b1 := hb.cell 1
      simp only [List.getElem?_toArray] at b0 b1
      have HS := Lib.hid hs
      clear hs
      by_cases h1 : prev < n
      · by_cases h2 : n ≤ 2147483647
        · rcases h3 : (decide (0 ≤ t) && decide (t ≤ 2147483647)) with _ | _
          · have hf : soundB 0 l = false := by rw [HS.out]; simp [h1, h2, h3]
            go_wp2_with (go_at_call 24; refine (within_any _ _ _ _).mono ?_; rintro e w' ⟨rfl, rfl⟩; rw [h3])
            go_ret
            exact ⟨by first | rfl | (rw [hf]; rfl), (hc.alloc _)⟩
          · have hf : soundB 0 l = soundB n (l.drop (j + 1)) := by rw [HS.out]; simp [h1, h2, h3]
            have HF := Lib.hid hf
            clear hf
            go_wp2_with (go_at_call 24; refine (within_any _ _ _ _).mono ?_; rintro e w' ⟨rfl, rfl⟩; rw [h3])
            go_roundg (gk - 1)
            case measure => omega
            case rel => exact ⟨j + 1, n, ⟨by omega, by omega⟩, by go_num, rfl, HF.out, hc.alloc _⟩
        · have hf : soundB 0 l = false := by rw [HS.out]; simp [h2]
          go_wp2_with fail
          go_ret
          exact ⟨by first | rfl | (rw [hf]; rfl), (hc.alloc _)⟩
      · have hf : soundB 0 l = false := by rw [HS.out]; simp [h1]
        go_wp2_with fail
        go_ret
        exact ⟨by first | rfl | (rw [hf]; rfl), (hc.alloc _)⟩
    · rw [List.drop_of_length_le (by omega)] at hs
      have HS := Lib.hid hs
      clear hs
      go_wp2_with fail
      go_ret
      exact ⟨by rw [HS.out]; rfl, hc⟩

theorem soundB_drop (l : List Snp) (j : Nat) (hj : j < l.length) (prev : Int) : soundB prev (l.drop j) = (decide (prev < l[j].1) && decide (l[j].1 ≤ 2147483647) && (decide (0 ≤ l[j].2) && decide (l[j].2 ≤ 2147483647)) && soundB l[j].1 (l.drop (j + 1))) := by
  rw [List.drop_eq_getElem_cons hj]
  rfl

/-- Numbers that are alike. -/
theorem nums_at {D : Nat → Prop} {w : World} {A : Option Addr} {l : List Int} (h : Nums D w A l) {k : Nat} (hk : k < l.length) : ∃ ad, A = some ad ∧ D ad.block ∧ w.cell? (ad.add k) = some (.int .i64 l[k]) := by
  obtain ⟨ad, e, hd, hc⟩ := RdC.at_ h (k := k) (by simpa [intCells] using hk)
  exact ⟨ad, e, hd, by rw [hc]; simp [intCells]⟩

theorem beq_drop (xs ys : List Int) (j : Nat) (h1 : j < xs.length) (h2 : j < ys.length) : (xs.drop j == ys.drop j) = (xs[j] == ys[j] && xs.drop (j + 1) == ys.drop (j + 1)) := by
  rw [List.drop_eq_getElem_cons h1, List.drop_eq_getElem_cons h2]
  rfl

set_option maxHeartbeats 400000 in
theorem sameInts_any {D D' : Nat → Prop} {w : World} {A A' : Option Addr} {xs ys : List Int} {c c' : Nat} (ha : Nums D w A xs) (hb : Nums D' w A' ys) (hl : xs.length ≤ 9223372036854775807) :
    Calls Try.prog 19 #[.slice A xs.length c, .slice A' ys.length c'] w fun e w' => e = .returned (.bool (xs == ys)) ∧ ∃ n, w' = w.drewN n := by
  by_cases hn : xs.length = ys.length
  · have e1 : (((xs.length : Nat) : Int) != ((ys.length : Nat) : Int)) = false := by simp [hn]
    have HN := Lib.hid hn
    clear hn
    go_enter Try.func19, Try.ntmps19
    go_wp2_with fail
    go_loopg [5] xs.length (fun k i wr => ∃ (j n : Nat), (j + k ≤ xs.length ∧ xs.length ≤ j + k) ∧ i = .int .i64 (j : Int) ∧ (xs == ys) = (xs.drop j == ys.drop j) ∧ wr = w.drewN n)
    case atStart => exact ⟨0, 0, ⟨by omega, by omega⟩, rfl, rfl, rfl⟩
    case round =>
      obtain ⟨j, n, ⟨hj1, hj2⟩, rfl, hs, rfl⟩ := hrel
      have hyl := HN.out
      by_cases hj : j < xs.length
      · have hj' : j < ys.length := by omega
        rw [beq_drop xs ys j hj hj'] at hs
        obtain ⟨ad, rfl, _, c1⟩ := nums_at ha hj
        obtain ⟨ad', rfl, _, c2⟩ := nums_at hb hj'
        generalize xs[j] = x at hs c1
        generalize ys[j] = y at hs c2
        have hji : (j : Int) < (ys.length : Int) := by omega
        have hjx : (j : Int) < (xs.length : Int) := by omega
        by_cases hxy : x = y
        · subst hxy
          have hf : (xs == ys) = (xs.drop (j + 1) == ys.drop (j + 1)) := by rw [hs]; simp
          have HF := Lib.hid hf
          clear hs hf hyl
          go_wp2_with fail
          go_quiet (fail)
          go_wp2_with fail
          go_roundg (gk - 1)
          case measure => omega
          case rel => exact ⟨j + 1, _, ⟨by omega, by omega⟩, by go_num, HF.out, rfl⟩
        · have hf : (xs == ys) = false := by rw [hs]; simp [hxy]
          have e2 : (x != y) = true := by simpa using hxy
          have HF := Lib.hid hf
          clear hs hf hxy hyl
          go_wp2_with fail
          go_quiet (fail)
          go_wp2_with fail
          go_ret
          exact ⟨by rw [HF.out]; rfl, n + nq, by rw [World.drewN_drewN]⟩
      · rw [List.drop_of_length_le (by omega), List.drop_of_length_le (by omega)] at hs
        have HF := Lib.hid hs
        clear hs hyl
        go_wp2_with fail
        go_ret
        exact ⟨by rw [HF.out]; rfl, _, rfl⟩
  · have e1 : (((xs.length : Nat) : Int) != ((ys.length : Nat) : Int)) = true := by simp; omega
    have hf : (xs == ys) = false := by
      rw [beq_eq_false_iff_ne]
      intro h
      exact hn (by rw [h])
    have HF := Lib.hid hf
    clear hf
    go_enter Try.func19, Try.ntmps19
    go_wp2_with fail
    go_ret
    exact ⟨by rw [HF.out]; rfl, 0, rfl⟩

set_option maxHeartbeats 400000 in
theorem among_any {D : Nat → Prop} {w : World} {A : Option Addr} {xs : List Int} {c : Nat} (ha : Nums D w A xs) (hl : xs.length ≤ 9223372036854775807) (n : Int) :
    Calls Try.prog 14 #[.slice A xs.length c, .int .i64 n] w fun e w' => e = .returned (.bool (xs.contains n)) ∧ w = w' := by
  go_enter Try.func14, Try.ntmps14
  go_wp2_with fail
  go_loopg [5] xs.length (fun k i wr => ∃ (j : Nat), (j + k ≤ xs.length ∧ xs.length ≤ j + k) ∧ i = .int .i64 (j : Int) ∧ xs.contains n = (xs.drop j).contains n ∧ wr = w)
  case atStart => exact ⟨0, ⟨by omega, by omega⟩, rfl, rfl, rfl⟩
  case round =>
    obtain ⟨j, ⟨hj1, hj2⟩, rfl, hs, rfl⟩ := hrel
    by_cases hj : j < xs.length
    · obtain ⟨ad, rfl, _, c1⟩ := nums_at ha hj
      rw [List.drop_eq_getElem_cons hj] at hs
      generalize xs[j] = x at hs c1
      by_cases hxy : x = n
      · subst hxy
        have hf : xs.contains x = true := by rw [hs]; simp
        have HF := Lib.hid hf
        clear hs hf
        go_wp2_with fail
        go_ret
        exact ⟨by rw [HF.out]; rfl, rfl⟩
      · have hf : xs.contains n = (xs.drop (j + 1)).contains n := by rw [hs]; simp [Ne.symm hxy]
        have e2 : (x == n) = false := by simpa using hxy
        have HF := Lib.hid hf
        clear hs hf hxy
        go_wp2_with fail
        go_roundg (gk - 1)
        case measure => omega
        case rel => exact ⟨j + 1, ⟨by omega, by omega⟩, by go_num, HF.out, rfl⟩
    · rw [List.drop_of_length_le (by omega)] at hs
      have HF := Lib.hid hs
      clear hs
      go_wp2_with fail
      go_ret
      exact ⟨by rw [HF.out]; rfl, rfl⟩
end Go.Proofs.Ytjfkjohocopcgaa
