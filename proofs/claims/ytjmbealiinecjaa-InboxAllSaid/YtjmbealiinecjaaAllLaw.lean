/- Bodies that come in any order, those that were refused again and again: plain facts on lists and numbers. -/
import Derived.Test.YtjmbealiinecjaaAgainWalk
namespace Go.Proofs.Ytjmbealiinecjaa
open Go.RowKit

/-- In m numbers one behind the other each rest comes up. -/
theorem rest_in {m p i0 i : Nat} (hp : p < m) (h : i0 + m ≤ i) : ∃ j, i0 ≤ j ∧ j < i ∧ j % m = p := by
  have hm : i0 % m < m := Nat.mod_lt _ (by omega)
  have hd := Nat.div_add_mod i0 m
  by_cases hc : i0 % m ≤ p
  · refine ⟨i0 + (p - i0 % m), by omega, by omega, ?_⟩
    rw [show i0 + (p - i0 % m) = m * (i0 / m) + p by omega, Nat.mul_add_mod, Nat.mod_eq_of_lt hp]
  · refine ⟨i0 + (m - i0 % m + p), by omega, by omega, ?_⟩
    rw [show i0 + (m - i0 % m + p) = m * (i0 / m) + (m + p) by omega, Nat.mul_add_mod, Nat.add_mod_left, Nat.mod_eq_of_lt hp]

/-- What stands between the list of those that are left, the inbox and what was told. -/
structure AllInv (n : Nat) (l : List (List UInt8)) (sz nx : Int) (f : Ring) (L : List Nat) (got : List (List UInt8)) : Prop where
  nodup : L.Nodup
  left : ∀ s : Nat, s ∈ L ↔ 1 ≤ s ∧ s ≤ n ∧ nx ≤ s ∧ held nx f s = none
  lo : 1 ≤ nx
  hi : nx ≤ n + 1
  bodies : ∀ (s : Int) (x : Value × List UInt8), held nx f s = some x → s ≤ n ∧ l[(s - 1).toNat]? = some x.2
  got : got = l.take (nx - 1).toNat
  len : l.length = n
  count : nx + cnt f + L.length = 1 + n

theorem AllInv.next {n : Nat} {l : List (List UInt8)} {sz nx : Int} {f : Ring} {L : List Nat} {got : List (List UInt8)} (h : AllInv n l sz nx f L got) (hw : Win sz nx f) (hL : L ≠ []) : nx.toNat ∈ L := by
  rw [h.left]
  have h1 := h.lo
  have hle : nx ≤ n := by
    obtain ⟨s, t, rfl⟩ := List.exists_cons_of_ne_nil hL
    have := (h.left s).1 (List.mem_cons_self ..)
    omega
  refine ⟨by omega, by omega, by omega, ?_⟩
  rw [show (nx.toNat : Int) = nx by omega, held_in (by omega) (by omega)]
  exact hw.aw

theorem AllInv.done {n : Nat} {l : List (List UInt8)} {sz nx : Int} {f : Ring} {got : List (List UInt8)} (h : AllInv n l sz nx f [] got) (hw : Win sz nx f) : nx = n + 1 ∧ cnt f = 0 ∧ got = l := by
  have h1 := h.lo
  have h2 := h.hi
  have h3 := h.count
  have h4 : nx = n + 1 := by
    by_cases hn : nx = n + 1
    · exact hn
    · exfalso
      have : nx.toNat ∈ ([] : List Nat) := by
        rw [h.left]
        refine ⟨by omega, by omega, by omega, ?_⟩
        rw [show (nx.toNat : Int) = nx by omega, held_in (by omega) (by omega)]
        exact hw.aw
      simp at this
  simp at h3
  refine ⟨h4, by omega, ?_⟩
  rw [h.got, List.take_of_length_le]
  have := h.len
  omega

theorem AllInv.took {n : Nat} {l : List (List UInt8)} {sz nx nx' q : Int} {f f' : Ring} {L : List Nat} {got : List (List UInt8)} {w w' : World} {X : Nat} {bs : List UInt8} {vo : Value} {told : List (Value × List UInt8)} {k : Nat}
    (h : AllInv n l sz nx f L got) (hk : k < L.length) (hq : q = L[k]) (hb : l[(q - 1).toNat]? = some bs) (T : Took w X sz nx f q bs w' vo told nx' f') :
    AllInv n l sz nx' f' (L.take k ++ L.drop (k + 1)) (got ++ told.map (·.2)) := by
  have hmem : L[k] ∈ L := List.getElem_mem hk
  obtain ⟨q1, q2, q3, q4⟩ := (h.left L[k]).1 hmem
  have hlo := h.lo
  have hlen := h.len
  have hcount := h.count
  have hnxt := T.nxt
  have hc := T.count
  have herase : L.take k ++ L.drop (k + 1) = L.eraseIdx k := (List.eraseIdx_eq_take_drop_succ L k).symm
  have hel : (L.take k ++ L.drop (k + 1)).length + 1 = L.length := by simp; omega
  -- who has come
  have hhas : ∀ s : Nat, (s ∈ L.take k ++ L.drop (k + 1)) ↔ s ∈ L ∧ s ≠ L[k] := by
    intro s
    have hsp : L = L.take k ++ L[k] :: L.drop (k + 1) := by
      rw [← List.drop_eq_getElem_cons hk, List.take_append_drop]
    have hnd := h.nodup
    rw [hsp] at hnd
    have hn1 := (List.nodup_append.1 hnd).2.2
    have hn2 := (List.nodup_cons.1 (List.nodup_append.1 hnd).2.1).1
    constructor
    · intro hs
      rcases List.mem_append.1 hs with h1 | h1
      · refine ⟨List.mem_of_mem_take h1, ?_⟩
        rintro rfl
        exact hn1 _ h1 _ (List.mem_cons_self ..) rfl
      · refine ⟨List.mem_of_mem_drop h1, ?_⟩
        rintro rfl
        exact hn2 h1
    · rintro ⟨hs, hne⟩
      rw [hsp] at hs
      rcases List.mem_append.1 hs with h1 | h1
      · exact List.mem_append.2 (.inl h1)
      · rcases List.mem_cons.1 h1 with h1 | h1
        · exact absurd h1 hne
        · exact List.mem_append.2 (.inr h1)
  -- the bodies that are held
  have hbod : ∀ (s : Int) (x : Value × List UInt8), held nx' f' s = some x → s ≤ n ∧ l[(s - 1).toNat]? = some x.2 := by
    intro s x hx
    rcases (T.kept s x hx).2 with ⟨h1, h2⟩ | ⟨_, h2⟩
    · subst h1
      exact ⟨by omega, by rw [hb, h2]⟩
    · exact h.bodies s x h2
  have htold : ∀ (m : Nat) (x : Value × List UInt8), told[m]? = some x → nx + m ≤ n ∧ l[(nx + m - 1).toNat]? = some x.2 := by
    intro m x hx
    rcases T.tell m x hx with ⟨h1, h2⟩ | ⟨_, h2⟩
    · exact ⟨by omega, by rw [h1, hb, h2]⟩
    · exact h.bodies _ x h2
  have hhi : nx' ≤ n + 1 := by
    rcases Nat.eq_zero_or_pos told.length with h0 | h0
    · have := h.hi; omega
    · have := htold (told.length - 1) _ (List.getElem?_eq_getElem (by omega))
      omega
  refine ⟨?_, fun s => ?_, T.ibox.win.nx1, hhi, hbod, ?_, hlen, by omega⟩
  · rw [herase]; exact h.nodup.eraseIdx k
  · rw [hhas, h.left]
    have hT := T.has (s : Int)
    constructor
    · rintro ⟨⟨a, b, c, d⟩, e⟩
      have hne : ¬ ((s : Int) = q ∨ (s : Int) < nx ∨ (held nx f s).isSome = true) := by
        rw [d]
        rintro (h1 | h1 | h1)
        · rw [hq] at h1; exact e (by omega)
        · omega
        · cases h1
      rw [← hT] at hne
      refine ⟨a, b, ?_, ?_⟩
      · rcases Int.lt_or_le (s : Int) nx' with h1 | h1
        · exact absurd (.inl h1) hne
        · exact h1
      · rcases hx : held nx' f' s with _ | x
        · rfl
        · exact absurd (.inr (by rw [hx]; rfl)) hne
    · rintro ⟨a, b, c, d⟩
      have hne : ¬ ((s : Int) < nx' ∨ (held nx' f' s).isSome = true) := by
        rw [d]
        rintro (h1 | h1)
        · omega
        · cases h1
      rw [hT] at hne
      refine ⟨⟨a, b, ?_, ?_⟩, ?_⟩
      · rcases Int.lt_or_le (s : Int) nx with h1 | h1
        · exact absurd (.inr (.inl h1)) hne
        · exact h1
      · rcases hx : held nx f s with _ | x
        · rfl
        · exact absurd (.inr (.inr (by rw [hx]; rfl))) hne
      · rintro rfl
        exact hne (.inl hq.symm)
  · rw [h.got]
    apply List.ext_getElem?
    intro i
    have hlt : (l.take (nx - 1).toNat).length = (nx - 1).toNat := by
      have := h.hi
      simp; omega
    by_cases hi : i < (nx - 1).toNat
    · rw [List.getElem?_append_left (by omega), List.getElem?_take, List.getElem?_take, if_pos hi, if_pos (by omega)]
    · rw [List.getElem?_append_right (by omega), hlt, List.getElem?_take]
      by_cases hi2 : i < (nx' - 1).toNat
      · rw [if_pos hi2]
        have hm : i - (nx - 1).toNat < told.length := by omega
        have := (htold (i - (nx - 1).toNat) _ (List.getElem?_eq_getElem hm)).2
        rw [List.getElem?_map, List.getElem?_eq_getElem hm]
        simp only [Option.map_some]
        rw [← this]
        congr 1
        omega
      · rw [if_neg hi2, List.getElem?_eq_none (by simp; omega)]

end Go.Proofs.Ytjmbealiinecjaa
