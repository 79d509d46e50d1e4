/- The ring and the document's list hold the same, and tell the same: plain lists. -/
import Derived.Test.YtjmbealiinecjaaRefTake
namespace Go.Proofs.Ytjmbealiinecjaa
open Go.RowKit

/-- The ring and the list hold the same bodies under the same numbers. -/
structure Same (nx : Int) (f : Ring) (hs : List HeldR) : Prop where
  nodup : (hs.map (·.1)).Nodup
  win : ∀ x ∈ hs, nx ≤ x.1 ∧ x.1 < nx + 64
  here : ∀ x ∈ hs, ∃ v, f (x.1 % 64).toNat = some (v, x.2.2)
  count : cnt f = hs.length
  slot : ∀ (s : Int) (y : Value × List UInt8), nx ≤ s → s < nx + 64 → f (s % 64).toNat = some y → ∃ v, (s, v, y.2) ∈ hs

theorem Same.nil (nx : Int) : Same nx (fun _ => none) [] :=
  ⟨List.nodup_nil, (fun _ h => by cases h), (fun _ h => by cases h), by kernel_rfl, fun _ _ _ _ h => by cases h⟩

theorem atI_mem {hs : List HeldR} {s : Int} : (0 ≤ atI hs s) ↔ ∃ x ∈ hs, x.1 = s := by
  unfold atI
  split
  · next i h =>
    obtain ⟨hi, h1, _⟩ := List.findIdx?_eq_some_iff_getElem.1 h
    constructor
    · intro _
      exact ⟨hs[i], List.getElem_mem hi, by simpa using h1⟩
    · intro _
      exact Int.natCast_nonneg i
  · next h =>
    rw [List.findIdx?_eq_none_iff] at h
    constructor
    · intro h0; exact absurd h0 (by omega)
    · rintro ⟨x, hx, rfl⟩
      have := h x hx
      simp at this

/-- Both have the same numbers. -/
theorem Same.has {nx sz : Int} {f : Ring} {hs : List HeldR} (h : Same nx f hs) (hw : Win sz nx f) (q : Int) : hasB sz nx f q = refHas nx hs q := by
  have hn1 := hw.nx1
  by_cases h1 : 1 ≤ q
  · rw [hw.has h1]
    unfold refHas
    by_cases h2 : q < nx
    · simp [h1, h2]
    · have e : (held nx f q).isSome = decide (0 ≤ atI hs q) := by
        rw [Bool.eq_iff_iff, decide_eq_true_iff, atI_mem]
        constructor
        · intro hx
          obtain ⟨y, hy⟩ := Option.isSome_iff_exists.1 hx
          have hlt : q < nx + 64 := by
            rcases Int.lt_or_le q (nx + 64) with h3 | h3
            · exact h3
            · rw [held_out (.inr h3)] at hy; cases hy
          rw [held_in (by omega) hlt] at hy
          obtain ⟨v, hv⟩ := h.slot q y (by omega) hlt hy
          exact ⟨_, hv, rfl⟩
        · rintro ⟨x, hx, rfl⟩
          obtain ⟨a, b⟩ := h.win x hx
          obtain ⟨v, hv⟩ := h.here x hx
          rw [held_in a b, hv]
          rfl
      rw [e]
      simp [h2]
  · have e1 : hasB sz nx f q = false := by simp [hasB, h1]
    have e2 : ¬ 0 ≤ atI hs q := by
      rw [atI_mem]
      rintro ⟨x, hx, rfl⟩
      have := h.win x hx
      omega
    rw [e1]
    simp [refHas, h1, e2]

theorem mod_eq {a b nx : Int} (ha : nx ≤ a) (ha' : a < nx + 64) (hb : nx ≤ b) (hb' : b < nx + 64) (_h0 : 0 ≤ nx) (h : (a % 64).toNat = (b % 64).toNat) : a = b := by omega

/-- A body more in both. -/
theorem Same.put_ {nx q : Int} {f : Ring} {hs : List HeldR} (h : Same nx f hs) (h0 : 0 ≤ nx) (hq : nx ≤ q) (hq' : q < nx + 64) (hf : f (q % 64).toNat = none) (v v' : Value) (bs : List UInt8) : Same nx (put f (q % 64).toNat (some (v, bs))) (hs ++ [(q, v', bs)]) := by
  have hne : ∀ x ∈ hs, x.1 ≠ q := fun x hx he => by
    obtain ⟨u, hu⟩ := h.here x hx
    rw [he, hf] at hu
    cases hu
  have hcp := cnt_put (f := f) (j := (q % 64).toNat) (by omega) (some (v, bs))
  rw [hf] at hcp
  simp only [Option.isSome_some, if_true, Option.isSome_none] at hcp
  refine ⟨?_, fun x hx => ?_, fun x hx => ?_, ?_, fun s y hs1 hs2 hy => ?_⟩
  · rw [List.map_append, List.nodup_append]
    refine ⟨h.nodup, by simp, fun a ha b hb he => ?_⟩
    obtain ⟨x, hx, rfl⟩ := List.mem_map.1 ha
    have : b = q := by simpa using hb
    exact hne x hx (he.trans this)
  · rcases List.mem_append.1 hx with hx | hx
    · exact h.win x hx
    · obtain rfl : x = (q, v', bs) := by simpa using hx
      exact ⟨hq, hq'⟩
  · rcases List.mem_append.1 hx with hx | hx
    · obtain ⟨a, b⟩ := h.win x hx
      obtain ⟨u, hu⟩ := h.here x hx
      refine ⟨u, ?_⟩
      unfold put
      rw [if_neg fun he => hne x hx (mod_eq a b hq hq' h0 he)]
      exact hu
    · obtain rfl : x = (q, v', bs) := by simpa using hx
      exact ⟨v, by simp [put]⟩
  · have := h.count
    simp
    simp at hcp
    omega
  · unfold put at hy
    by_cases he : (s % 64).toNat = (q % 64).toNat
    · rw [if_pos he] at hy
      injection hy with hy
      subst hy
      have := mod_eq hs1 hs2 hq hq' h0 he
      subst this
      exact ⟨v', by simp⟩
    · rw [if_neg he] at hy
      obtain ⟨u, hu⟩ := h.slot s y hs1 hs2 hy
      exact ⟨u, List.mem_append_left _ hu⟩

theorem nodup_inj {α : Type} {l : List α} (h : l.Nodup) {i j : Nat} (hi : i < l.length) (hj : j < l.length) (he : l[i] = l[j]) : i = j := by
  have hp := List.pairwise_iff_getElem.1 h
  rcases Nat.lt_trichotomy i j with h1 | h1 | h1
  · exact absurd he (hp i j hi hj h1)
  · exact h1
  · exact absurd he.symm (hp j i hj hi h1)
theorem nodup_eq {hs : List HeldR} (h : (hs.map (·.1)).Nodup) {x y : HeldR} (hx : x ∈ hs) (hy : y ∈ hs) (he : x.1 = y.1) : x = y := by
  obtain ⟨i, hi, rfl⟩ := List.mem_iff_getElem.1 hx
  obtain ⟨j, hj, rfl⟩ := List.mem_iff_getElem.1 hy
  have := nodup_inj h (i := i) (j := j) (by simpa using hi) (by simpa using hj) (by simpa using he)
  subst this
  rfl

/-- The awaited number goes from both. -/
theorem Same.pop {nx : Int} {f : Ring} {hs : List HeldR} (h : Same nx f hs) (h0 : 0 ≤ nx) {i : Nat} {x : HeldR} (hi : hs[i]? = some x) (hx : x.1 = nx) : Same (nx + 1) (put f (nx % 64).toNat none) (hs.eraseIdx i) := by
  obtain ⟨hil, he⟩ := List.getElem?_eq_some_iff.1 hi
  have hxm : x ∈ hs := he ▸ List.getElem_mem hil
  have hmem : ∀ y, y ∈ hs.eraseIdx i ↔ y ∈ hs ∧ y.1 ≠ nx := by
    intro y
    have hnd := h.nodup
    rw [List.mem_eraseIdx_iff_getElem]
    constructor
    · rintro ⟨j, hj, hne, rfl⟩
      refine ⟨List.getElem_mem hj, fun hy => hne ?_⟩
      exact nodup_inj hnd (by simpa using hj) (by simpa using hil) (by simp [he, hx, hy])
    · rintro ⟨hy, hne⟩
      obtain ⟨j, hj, rfl⟩ := List.mem_iff_getElem.1 hy
      refine ⟨j, hj, ?_, rfl⟩
      rintro rfl
      exact hne (by rw [he, hx])
  obtain ⟨v, hv⟩ := h.here x hxm
  rw [hx] at hv
  have hcp := cnt_put (f := f) (j := (nx % 64).toNat) (by omega) none
  rw [hv] at hcp
  simp only [Option.isSome_some, if_true, Option.isSome_none] at hcp
  refine ⟨?_, fun y hy => ?_, fun y hy => ?_, ?_, fun s y hs1 hs2 hy => ?_⟩
  · exact h.nodup.sublist ((List.eraseIdx_sublist hs i).map _)
  · obtain ⟨a, b⟩ := (hmem y).1 hy
    obtain ⟨c, d⟩ := h.win y a
    omega
  · obtain ⟨a, b⟩ := (hmem y).1 hy
    obtain ⟨c, d⟩ := h.win y a
    obtain ⟨u, hu⟩ := h.here y a
    refine ⟨u, ?_⟩
    unfold put
    rw [if_neg fun he => b (mod_eq c d (Int.le_refl _) (by omega) h0 he)]
    exact hu
  · have := h.count
    rw [List.length_eraseIdx_of_lt hil]
    simp at hcp
    omega
  · unfold put at hy
    by_cases he : (s % 64).toNat = (nx % 64).toNat
    · rw [if_pos he] at hy
      cases hy
    · rw [if_neg he] at hy
      have hlt : s < nx + 64 := by
        rcases Int.lt_or_le s (nx + 64) with h1 | h1
        · exact h1
        · exact absurd (by omega) he
      obtain ⟨u, hu⟩ := h.slot s y (by omega) hlt hy
      exact ⟨u, (hmem _).2 ⟨hu, by show s ≠ nx; omega⟩⟩

/-- Both tell the same bodies. -/
theorem Same.run_ : ∀ (n : Nat) {nx : Int} {f : Ring} {hs : List HeldR}, Same nx f hs → 0 ≤ nx → hs.length = n →
    (run n nx f).1.map (·.2) = (refRun n nx hs).1.map (·.2) ∧ (run n nx f).2.1 = (refRun n nx hs).2.1 ∧ Same (run n nx f).2.1 (run n nx f).2.2 (refRun n nx hs).2.2
  | 0, nx, f, hs, h, _, _ => ⟨rfl, rfl, h⟩
  | n + 1, nx, f, hs, h, h0, hl => by
    rcases hi : hs.findIdx? (fun x => x.1 == nx) with _ | i
    · have hf : f (nx % 64).toNat = none := by
        rcases hy : f (nx % 64).toNat with _ | y
        · rfl
        · obtain ⟨v, hv⟩ := h.slot nx y (Int.le_refl _) (by omega) hy
          have := (List.findIdx?_eq_none_iff.1 hi) _ hv
          simp at this
      rw [run_none _ hf, refRun_none hi]
      exact ⟨rfl, rfl, h⟩
    · obtain ⟨hil, h1, _⟩ := List.findIdx?_eq_some_iff_getElem.1 hi
      have hx : hs[i].1 = nx := by simpa using h1
      obtain ⟨v, hv⟩ := h.here _ (List.getElem_mem hil)
      rw [hx] at hv
      rw [run_some _ hv, refRun_some hi (List.getElem?_eq_getElem hil)]
      obtain ⟨a, b, c⟩ := Same.run_ n (h.pop h0 (List.getElem?_eq_getElem hil) hx) (by omega) (by rw [List.length_eraseIdx_of_lt hil]; omega)
      exact ⟨by simp only [List.map_cons, a], b, c⟩

/-- What is told comes out of the ring; what stays stays where it was; they share no slot. -/
theorem run_slots : ∀ (n : Nat) (nx : Int) (f : Ring),
    (∀ (k : Nat) (x : Value × List UInt8), (run n nx f).1[k]? = some x → f ((nx + k) % 64).toNat = some x) ∧
    ∀ (j : Nat) (y : Value × List UInt8), (run n nx f).2.2 j = some y → f j = some y ∧ ∀ k, k < (run n nx f).1.length → j ≠ ((nx + k) % 64).toNat
  | 0, nx, f => ⟨fun k x h => by simp [run] at h, fun j y h => ⟨h, fun k hk => by simp [run] at hk⟩⟩
  | n + 1, nx, f => by
    rcases hf : f (nx % 64).toNat with _ | x
    · rw [run_none _ hf]
      exact ⟨fun k x h => by simp at h, fun j y h => ⟨h, fun k hk => by simp at hk⟩⟩
    · rw [run_some _ hf]
      obtain ⟨a, b⟩ := run_slots n (nx + 1) (put f (nx % 64).toNat none)
      have hpn : ∀ (j : Nat) (y : Value × List UInt8), put f (nx % 64).toNat none j = some y → j ≠ (nx % 64).toNat ∧ f j = some y := fun j y h => by
        unfold put at h
        by_cases he : j = (nx % 64).toNat
        · rw [if_pos he] at h; cases h
        · rw [if_neg he] at h; exact ⟨he, h⟩
      refine ⟨fun k y h => ?_, fun j y h => ?_⟩
      · rcases k with _ | k
        · have : x = y := by simpa using h
          subst this
          simpa using hf
        · have := (hpn _ _ (a k y (by simpa using h))).2
          rw [show nx + ((k + 1 : Nat) : Int) = nx + 1 + k by omega]
          exact this
      · obtain ⟨c, d⟩ := b j y h
        obtain ⟨e1, e2⟩ := hpn _ _ c
        refine ⟨e2, fun k hk => ?_⟩
        rcases k with _ | k
        · simpa using e1
        · have := d k (by simpa using hk)
          rw [show nx + ((k + 1 : Nat) : Int) = nx + 1 + k by omega]
          exact this

theorem refRun_mem : ∀ (n : Nat) (nx : Int) (hs : List HeldR) (x : HeldR), x ∈ (refRun n nx hs).2.2 → x ∈ hs
  | 0, _, _, _, h => h
  | n + 1, nx, hs, x, h => by
    rcases hi : hs.findIdx? (fun x => x.1 == nx) with _ | i
    · rw [refRun_none hi] at h
      exact h
    · obtain ⟨hil, _⟩ := List.findIdx?_eq_some_iff_getElem.1 hi
      rw [refRun_some hi (List.getElem?_eq_getElem hil)] at h
      exact List.mem_of_mem_eraseIdx (refRun_mem n (nx + 1) _ x h)
end Go.Proofs.Ytjmbealiinecjaa
