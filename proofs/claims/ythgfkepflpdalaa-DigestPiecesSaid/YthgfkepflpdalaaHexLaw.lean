/- Plain: what Parse and Text tell. -/
import Derived.Test.YthgfkepflpdalaaParse
namespace Go.Proofs.Ythgfkepflpdalaa

theorem pout_get (s : List UInt8) : ∀ j, j ≤ 32 → ∀ i, i < 16 → (pout s j).getD i 0 = if 2 * i + 1 < j then dg (s.getD (2 * i) 0) <<< 4 ||| dg (s.getD (2 * i + 1) 0) else if 2 * i < j then dg (s.getD (2 * i) 0) else 0
  | 0, _, i, hi => by
    rw [if_neg (by omega), if_neg (by omega)]
    simp only [pout, List.getD_eq_getElem?_getD, List.getElem?_replicate, if_pos hi, Option.getD_some]
  | j + 1, hj, i, hi => by
    have ih := pout_get s j (by omega)
    have hl := pout_length s j
    rw [pout, if_pos (by omega)]
    rw [List.getD_eq_getElem?_getD, List.getElem?_set]
    by_cases h : j / 2 = i
    · rw [if_pos h, if_pos (by omega), Option.getD_some, h, ih i hi]
      rcases (by omega : j = 2 * i ∨ j = 2 * i + 1) with h2 | h2
      · subst h2
        rw [if_neg (by omega), if_neg (by omega), if_neg (by omega), if_pos (by omega)]
        simp
      · subst h2
        rw [if_neg (by omega), if_pos (by omega), if_pos (by omega)]
    · rw [if_neg h, ← List.getD_eq_getElem?_getD, ih i hi]
      have e1 : (2 * i + 1 < j + 1) = (2 * i + 1 < j) := by apply propext; omega
      have e2 : (2 * i < j + 1) = (2 * i < j) := by apply propext; omega
      simp only [e1, e2]

theorem hexT_get : ∀ (l : List UInt8) (i : Nat) (h : i < l.length), (hexT l)[2 * i]? = some (hexD.getD (l[i].toNat / 16) 0) ∧ (hexT l)[2 * i + 1]? = some (hexD.getD (l[i].toNat % 16) 0)
  | a :: r, 0, _ => ⟨rfl, rfl⟩
  | a :: r, i + 1, h => by
    have ih := hexT_get r i (by simpa using h)
    have e : hexT (a :: r) = hexD.getD (a.toNat / 16) 0 :: hexD.getD (a.toNat % 16) 0 :: hexT r := rfl
    rw [e, show 2 * (i + 1) = 2 * i + 1 + 1 by omega]
    simpa using ih

theorem good_hex (c : UInt8) (h : ¬ dgI c < 0) : ∃ m : Fin 16, c = hexD.getD m.val 0 := by
  have k : ∀ n : Fin 256, dgI (UInt8.ofNat n.val) < 0 ∨ ∃ m : Fin 16, UInt8.ofNat n.val = hexD.getD m.val 0 := by decide +kernel
  have := k ⟨c.toNat, UInt8.toNat_lt c⟩
  simp only [UInt8.ofNat_toNat] at this
  exact this.resolve_left h
theorem pair_hex : ∀ m n : Fin 16, hexD.getD ((dg (hexD.getD m.val 0) <<< 4 ||| dg (hexD.getD n.val 0)).toNat / 16) 0 = hexD.getD m.val 0 ∧ hexD.getD ((dg (hexD.getD m.val 0) <<< 4 ||| dg (hexD.getD n.val 0)).toNat % 16) 0 = hexD.getD n.val 0 := by decide +kernel
theorem byte_hex (b : UInt8) : dg (hexD.getD (b.toNat / 16) 0) <<< 4 ||| dg (hexD.getD (b.toNat % 16) 0) = b ∧ ¬ dgI (hexD.getD (b.toNat / 16) 0) < 0 ∧ ¬ dgI (hexD.getD (b.toNat % 16) 0) < 0 := by
  have k : ∀ n : Fin 256, dg (hexD.getD ((UInt8.ofNat n.val).toNat / 16) 0) <<< 4 ||| dg (hexD.getD ((UInt8.ofNat n.val).toNat % 16) 0) = UInt8.ofNat n.val ∧ ¬ dgI (hexD.getD ((UInt8.ofNat n.val).toNat / 16) 0) < 0 ∧ ¬ dgI (hexD.getD ((UInt8.ofNat n.val).toNat % 16) 0) < 0 := by decide +kernel
  have h := k ⟨b.toNat, UInt8.toNat_lt b⟩
  simp only [UInt8.ofNat_toNat] at h
  exact h

theorem getD_some {l : List UInt8} {k : Nat} {v : UInt8} (h : l[k]? = some v) : l.getD k 0 = v := by
  rw [List.getD_eq_getElem?_getD, h]; rfl

theorem hex_half (k : Nat) : ∃ i, k = 2 * i ∨ k = 2 * i + 1 := ⟨k / 2, by omega⟩

theorem least (P : Nat → Prop) : ∀ n, P n → ∃ k, k ≤ n ∧ P k ∧ ∀ l, l < k → ¬ P l := by
  intro n
  induction n using Nat.strongRecOn with
  | ind n ih =>
    intro h
    by_cases hx : ∃ l, l < n ∧ P l
    · obtain ⟨l, hl, hp⟩ := hx
      obtain ⟨k, h1, h2, h3⟩ := ih l hl hp
      exact ⟨k, by omega, h2, h3⟩
    · exact ⟨n, Nat.le_refl _, h, fun l hl hp => hx ⟨l, hl, hp⟩⟩

/-- What Text tells, Parse reads. -/
theorem parse_text (bs : List UInt8) (hl : bs.length = 16) : parseR (hexT bs) = (bs, 0, 0) := by
  have hL : (hexT bs).length = 32 := by rw [hexT_length, hl]
  have hgood : ∀ l, l < (hexT bs).length → ¬ dgI ((hexT bs).getD l 0) < 0 := by
    intro l h
    obtain ⟨i, rfl | rfl⟩ := hex_half l
    · rw [getD_some (hexT_get bs i (by omega)).1]; exact (byte_hex _).2.1
    · rw [getD_some (hexT_get bs i (by omega)).2]; exact (byte_hex _).2.2
  rw [parse_ok hgood hL, hL]
  have hp : pout (hexT bs) 32 = bs := ?_
  · rw [hp]
  refine List.ext_getElem (by rw [pout_length, hl]) fun i h1 h2 => ?_
  have h := pout_get (hexT bs) 32 (by omega) i (by omega)
  rw [if_pos (by omega), getD_some (hexT_get bs i (by omega)).1, getD_some (hexT_get bs i (by omega)).2, (byte_hex _).1] at h
  rw [← h, List.getD_eq_getElem?_getD, List.getElem?_eq_getElem h1]
  rfl

/-- What Parse tells of any text. -/
theorem parse_all (t : List UInt8) : (∃ p : Int, parseR t = (List.replicate 16 0, 4, p) ∧ 0 ≤ p ∧ p ≤ t.length) ∨ ∃ l, parseR t = (l, 0, 0) ∧ l.length = 16 ∧ hexT l = t := by
  by_cases hg : ∀ l, l < t.length → ¬ dgI (t.getD l 0) < 0
  · by_cases h32 : t.length = 32
    · refine .inr ⟨pout t t.length, parse_ok hg h32, pout_length _ _, ?_⟩
      have hL : (hexT (pout t t.length)).length = 32 := by rw [hexT_length, pout_length]
      refine List.ext_getElem (by omega) fun k h1 h2 => ?_
      have hv : ∀ i, i < 16 → ∃ m n : Fin 16, t.getD (2 * i) 0 = hexD.getD m.val 0 ∧ t.getD (2 * i + 1) 0 = hexD.getD n.val 0 ∧ (pout t t.length).getD i 0 = dg (hexD.getD m.val 0) <<< 4 ||| dg (hexD.getD n.val 0) := by
        intro i hi
        obtain ⟨m, hm⟩ := good_hex _ (hg (2 * i) (by omega))
        obtain ⟨n, hn⟩ := good_hex _ (hg (2 * i + 1) (by omega))
        refine ⟨m, n, hm, hn, ?_⟩
        rw [h32, pout_get t 32 (by omega) i hi, if_pos (by omega), hm, hn]
      have hk : t[k] = t.getD k 0 := by rw [List.getD_eq_getElem?_getD, List.getElem?_eq_getElem h2]; rfl
      have hk2 : (hexT (pout t t.length))[k] = (hexT (pout t t.length)).getD k 0 := by rw [List.getD_eq_getElem?_getD, List.getElem?_eq_getElem h1]; rfl
      rw [hk, hk2]
      obtain ⟨i, hi⟩ := hex_half k
      have hi16 : i < 16 := by omega
      obtain ⟨m, n, hm, hn, hp⟩ := hv i hi16
      have hil : i < (pout t t.length).length := by rw [pout_length]; exact hi16
      have hpi : (pout t t.length)[i] = dg (hexD.getD m.val 0) <<< 4 ||| dg (hexD.getD n.val 0) := by
        rw [← hp, List.getD_eq_getElem?_getD, List.getElem?_eq_getElem hil]; rfl
      have hget := hexT_get (pout t t.length) i hil
      rw [hpi] at hget
      rcases hi with rfl | rfl
      · rw [getD_some hget.1, hm]; exact (pair_hex m n).1
      · rw [getD_some hget.2, hn]; exact (pair_hex m n).2
    · exact .inl ⟨_, parse_len hg h32, by omega, by omega⟩
  · obtain ⟨j, hj⟩ : ∃ j, j < t.length ∧ dgI (t.getD j 0) < 0 := by
      rcases Classical.not_forall.1 hg with ⟨j, hj⟩
      rcases Classical.not_imp.1 hj with ⟨h1, h2⟩
      exact ⟨j, h1, Classical.not_not.1 h2⟩
    obtain ⟨k, hle, hs, hm⟩ := least (fun k => dgI (t.getD k 0) < 0) j hj.2
    exact .inl ⟨_, parse_bad (by omega) hm hs, by omega, by omega⟩
end Go.Proofs.Ythgfkepflpdalaa
