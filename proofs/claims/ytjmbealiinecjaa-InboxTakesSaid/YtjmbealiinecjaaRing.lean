/- The ring by the numbers that it holds: plain facts on lists and numbers. -/
import Derived.Test.YtjmbealiinecjaaTake
namespace Go.Proofs.Ytjmbealiinecjaa
open Go.RowKit

/-- What is held of number s. -/
def held (nx : Int) (f : Ring) (s : Int) : Option (Value × List UInt8) := if nx ≤ s ∧ s < nx + 64 then f (s % 64).toNat else none

theorem held_in {nx s : Int} {f : Ring} (h1 : nx ≤ s) (h2 : s < nx + 64) : held nx f s = f (s % 64).toNat := if_pos ⟨h1, h2⟩
theorem held_out {nx s : Int} {f : Ring} (h : s < nx ∨ nx + 64 ≤ s) : held nx f s = none := if_neg (by omega)

theorem held_put {nx q s : Int} {f : Ring} (h1 : nx ≤ q) (h2 : q < nx + 64) (x : Option (Value × List UInt8)) : held nx (put f (q % 64).toNat x) s = if s = q then x else held nx f s := by
  unfold held
  by_cases hs : nx ≤ s ∧ s < nx + 64
  · rw [if_pos hs, if_pos hs]
    unfold put
    by_cases e : s = q
    · subst e; simp
    · rw [if_neg e, if_neg (by omega)]
  · rw [if_neg hs, if_neg hs, if_neg (by omega)]

/-- One number on: what is awaited next, its slot cleared. -/
theorem held_next {nx s : Int} {f : Ring} : held (nx + 1) (put f (nx % 64).toNat none) s = if nx + 1 ≤ s then held nx f s else none := by
  unfold held
  by_cases h1 : nx + 1 ≤ s
  · rw [if_pos h1]
    by_cases h2 : s < nx + 64
    · rw [if_pos (by omega), if_pos (by omega)]
      unfold put
      rw [if_neg (by omega)]
    · by_cases h3 : s < nx + 1 + 64
      · rw [if_pos (by omega), if_neg (by omega)]
        unfold put
        rw [if_pos (by omega)]
      · rw [if_neg (by omega), if_neg (by omega)]
  · rw [if_neg (by omega), if_neg h1]

theorem run_spec (n : Nat) : ∀ (nx : Int) (f : Ring), 0 ≤ nx →
    (run n nx f).2.1 = nx + (run n nx f).1.length ∧
    (∀ (k : Nat) (x : Value × List UInt8), (run n nx f).1[k]? = some x → held nx f (nx + k) = some x) ∧
    (∀ s, held (run n nx f).2.1 (run n nx f).2.2 s = if (run n nx f).2.1 ≤ s then held nx f s else none) ∧
    cnt (run n nx f).2.2 + (run n nx f).1.length = cnt f ∧
    (cnt f ≤ n → (run n nx f).2.2 ((run n nx f).2.1 % 64).toNat = none) := by
  induction n with
  | zero =>
    intro nx f h0
    rw [show run 0 nx f = ([], nx, f) from rfl]
    refine ⟨by simp, fun k x h => by simp at h, fun s => ?_, by simp, fun h => ?_⟩
    · show held nx f s = if nx ≤ s then held nx f s else none
      by_cases h1 : nx ≤ s
      · rw [if_pos h1]
      · rw [if_neg h1, held_out (by omega)]
    · show f (nx % 64).toNat = none
      rcases hf : f (nx % 64).toNat with _ | x
      · rfl
      · have := cnt_pos (f := f) (j := (nx % 64).toNat) (by omega) (by rw [hf]; rfl)
        omega
  | succ n ih =>
    intro nx f h0
    rcases hf : f (nx % 64).toNat with _ | x
    · rw [run_none _ hf]
      refine ⟨by simp, fun k x h => by simp at h, fun s => ?_, by simp, fun h => hf⟩
      show held nx f s = if nx ≤ s then held nx f s else none
      by_cases h1 : nx ≤ s
      · rw [if_pos h1]
      · rw [if_neg h1, held_out (by omega)]
    · rw [run_some _ hf]
      obtain ⟨i1, i2, i3, i4, i5⟩ := ih (nx + 1) (put f (nx % 64).toNat none) (by omega)
      have hc := cnt_put (f := f) (j := (nx % 64).toNat) (by omega) none
      rw [hf] at hc
      simp only [Option.isSome_some, if_true, Option.isSome_none] at hc
      have hc2 : cnt (put f (nx % 64).toNat none) + 1 = cnt f := by simpa using hc
      refine ⟨by simp only [List.length_cons]; omega, fun k y h => ?_, fun s => ?_, by simp only [List.length_cons]; omega, fun h => i5 (by omega)⟩
      · rcases k with _ | k
        · simp only [List.getElem?_cons_zero, Option.some.injEq] at h
          subst h
          rw [held_in (by omega) (by omega)]
          simpa using hf
        · simp only [List.getElem?_cons_succ] at h
          have := i2 k y h
          rw [held_next, if_pos (by omega)] at this
          rw [← this]
          congr 1
          omega
      · simp only
        rw [i3 s]
        by_cases h1 : (run n (nx + 1) (put f (nx % 64).toNat none)).2.1 ≤ s
        · rw [if_pos h1, if_pos h1, held_next, if_pos (by rw [i1] at h1; omega)]
        · rw [if_neg h1, if_neg h1]

/-- The numbers held are a window's; the awaited one is not held. -/
structure Win (sz nx : Int) (f : Ring) : Prop where
  lo : 1 ≤ sz
  hi : sz ≤ 64
  nx1 : 1 ≤ nx
  win : ∀ s, (held nx f s).isSome = true → s < nx + sz
  aw : f (nx % 64).toNat = none

theorem Win.has {sz nx q : Int} {f : Ring} (h : Win sz nx f) (hq : 1 ≤ q) : hasB sz nx f q = (decide (q < nx) || (held nx f q).isSome) := by
  have := h.hi
  unfold hasB
  by_cases h1 : q < nx
  · simp [h1, hq]
  · by_cases h2 : q - nx < sz
    · rw [held_in (by omega) (by omega)]
      simp [h1, h2, hq]
    · have : (held nx f q).isSome = false := by
        rcases hx : held nx f q with _ | x
        · rfl
        · have := h.win q (by rw [hx]; rfl)
          omega
      rw [this]
      simp [h1, h2]

theorem nodup_length_le : ∀ (l l' : List Nat), l.Nodup → (∀ x ∈ l, x ∈ l') → l.length ≤ l'.length
  | [], _, _, _ => Nat.zero_le _
  | a :: l, l', hn, h => by
    have hn' := List.nodup_cons.1 hn
    have ha : a ∈ l' := h a (List.mem_cons_self ..)
    have ih := nodup_length_le l (l'.erase a) hn'.2 fun x hx => (List.mem_erase_of_ne (fun e : x = a => hn'.1 (by rw [← e]; exact hx))).2 (h x (List.mem_cons_of_mem _ hx))
    rw [List.length_erase_of_mem ha] at ih
    have := List.length_pos_of_mem ha
    simp only [List.length_cons]
    omega

theorem Win.cnt_lt {sz nx : Int} {f : Ring} (h : Win sz nx f) : (cnt f : Int) < sz := by
  have h1 := h.lo
  have h2 := h.hi
  have h3 := h.nx1
  -- the slots held are those of the numbers behind the awaited one
  have key : ∀ j ∈ (List.range 64).filter (fun j => (f j).isSome), j ∈ (List.range (sz.toNat - 1)).map fun i : Nat => ((nx + 1 + (i : Int)) % 64).toNat := by
    intro j hj
    simp only [List.mem_filter, List.mem_range] at hj
    obtain ⟨hj, hs⟩ := hj
    -- the number of that slot in the window
    have hd : ∃ s, nx ≤ s ∧ s < nx + 64 ∧ (s % 64).toNat = j := ⟨nx + ((j : Int) - nx) % 64, by omega, by omega, by omega⟩
    obtain ⟨s, a, b, c⟩ := hd
    have hh : held nx f s = f j := by rw [held_in a b, c]
    have hw := h.win s (by rw [hh]; exact hs)
    have hne : s ≠ nx := by
      rintro rfl
      rw [← c, h.aw] at hs
      simp at hs
    refine List.mem_map.2 ⟨(s - nx - 1).toNat, List.mem_range.2 (by omega), ?_⟩
    rw [← c]
    congr 2
    omega
  have hlen := nodup_length_le _ _ (List.nodup_range.filter (fun j => (f j).isSome)) key
  unfold cnt
  simp only [List.length_map, List.length_range] at hlen
  omega

end Go.Proofs.Ytjmbealiinecjaa
