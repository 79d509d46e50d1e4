/- The walk of DigestRuns (6). -/
import Derived.Test.YthgfkepflpdalaaSumsWalk
import Derived.Test.YthgfkepflpdalaaOpenL
namespace Go.Proofs.Ythgfkepflpdalaa
open Go.RowKit

/-- How many bytes the first j have. -/
def sumL (l : List (List UInt8)) (j : Nat) : Nat := (l.take j).flatten.length
theorem sumL_succ {l : List (List UInt8)} {j : Nat} (h : j < l.length) : sumL l (j + 1) = sumL l j + l[j].length := by
  unfold sumL
  rw [List.take_succ_eq_append_getElem h]
  simp only [List.flatten_append, List.flatten_cons, List.flatten_nil, List.append_nil, List.length_append]
theorem flat_succ {l : List (List UInt8)} {j : Nat} (h : j < l.length) : (l.take (j + 1)).flatten = (l.take j).flatten ++ l[j] := by
  rw [List.take_succ_eq_append_getElem h]
  simp only [List.flatten_append, List.flatten_cons, List.flatten_nil, List.append_nil]
theorem sumL_mono {l : List (List UInt8)} {i : Nat} : ∀ n, sumL l i ≤ sumL l (i + n)
  | 0 => Nat.le_refl _
  | n + 1 => by
    refine Nat.le_trans (sumL_mono n) ?_
    by_cases h : i + n < l.length
    · rw [← Nat.add_assoc, sumL_succ h]; exact Nat.le_add_right _ _
    · unfold sumL
      rw [List.take_of_length_le (by omega : l.length ≤ i + n), List.take_of_length_le (by omega : l.length ≤ i + (n + 1))]
      exact Nat.le_refl _
theorem sumL_le {l : List (List UInt8)} (h : ∀ (k : Nat) (hk : k < l.length), l[k].length ≤ 140737488351232) : ∀ j, j ≤ l.length → sumL l j ≤ j * 140737488351232
  | 0, _ => by simp [sumL]
  | j + 1, hj => by
    have := sumL_le h j (by omega)
    rw [sumL_succ (by omega)]
    have := h j (by omega)
    omega

theorem over_lent {w : World} {g : Nat} {ys : List UInt8} (h : Blk w g 5 (bcs (padded ys)).toArray) (hl : ys.length ≤ 140737488351232) :
    Calls Try.prog 24 #[.slice (some ⟨g, 0, none⟩) ys.length (ys.length + 3)] w fun e w' => e = .returned (.tuple #[]) ∧ Chg (fun k => k = g) w w' := by
  have := over_blk (n := ys.length) h (by rw [padded_length]; omega) (by rw [padded_length]; omega)
  rw [padded_length] at this
  exact this.mono fun _ _ ⟨h1, _, _, _, h2⟩ => ⟨h1, h2⟩
theorem len_chg {w : World} {g : Nat} {xs : List UInt8} (hD : Dig w g xs) : Calls Try.prog 19 #[.pointer (some ⟨g, 0, none⟩)] w fun e w' => e = .returned (.int .i64 (xs.length : Int)) ∧ Chg (fun _ => False) w w' :=
  (len_any hD).mono fun _ _ ⟨h, k⟩ => ⟨h, by subst k; exact Chg.refl _ _⟩
theorem own_dig {w : World} {g : Nat} {v : Value} {xs ys : List UInt8} (hD : Dig w g xs) (hO : OwnB 5 w v ys) : ∀ k, v.ownBlock = some k → ¬ k = g := by
  intro k hk he
  subst he
  obtain ⟨cs, hb⟩ := hO.blk hk
  obtain ⟨wt, _, _, hd⟩ := hD
  exact hb.ne_ hd (by decide) rfl
theorem own_ge {w w4 : World} {u v : Value} (hu : ∀ k, u.ownBlock = some k → w.heap.size ≤ k) (h4 : Chg (fun _ => False) w w4) (ha : v.ownBlock = u.ownBlock ∨ v.ownBlock = some w4.heap.size) : ∀ k, v.ownBlock = some k → w.heap.size ≤ k := by
  intro k hk
  rcases ha with ha | ha
  · exact hu k (ha ▸ hk)
  · rw [hk] at ha
    have := Option.some.inj ha
    have := h4.size
    omega

set_option maxRecDepth 100000 in
set_option maxHeartbeats 1600000 in
theorem digestRuns_any {w : World} {A : Option Addr} {l : List (List UInt8)} {c : Nat} (hr : RdL (fun k => k < w.heap.size) w A l) (hlm : l.length ≤ 9223372036854775807) (hlb : ∀ (k : Nat) (hk : k < l.length), l[k].length ≤ 140737488351232) :
    Calls Try.prog 6 #[.slice A l.length c] w fun e w' => e = .returned (.bool true) ∧ Chg (fun _ => False) w w' := by
  have hsl := sumL_le hlb
  have HSL := Lib.hid hsl
  clear hsl
  go_enter Try.func6, Try.ntmps6
  go_wp2_with (first
    | (go_at_call 15; refine (new_any _).mono ?_; rintro e w2 ⟨g, rfl, hg, hD, k2⟩))
  go_loopg [4, 5] l.length (fun k n i wr => ∃ j : Nat, j + k = l.length ∧ j ≤ 21 ∧ n = .int .i64 (sumL l j : Nat) ∧ i = .int .i64 j ∧ wr = w2)
  case atStart => exact ⟨0, by omega, by omega, rfl, rfl, rfl⟩
  case round =>
    obtain ⟨j, hj, hj21, rfl, rfl, rfl⟩ := hrel
    by_cases h : j < l.length ∧ j < 21
    · obtain ⟨ad, B, cB, rfl, hcell, hcB, hRB⟩ := hr.at_ h.1
      have hcell := k2.cell hcell (fun h => h)
      have h1 := HSL.out (j + 1) h.1
      have hss := sumL_succ h.1
      have hji : (j : Int) < (l.length : Int) := by omega
      have hj21i : (j : Int) < 21 := by omega
      generalize hys : l[j]'h.1 = ys at *
      have hsum : (sumL l j : Int) + (ys.length : Int) ≤ 9223372036854775807 := by omega
      have hsum2 : ((sumL l (j + 1) : Nat) : Int) = (sumL l j : Int) + (ys.length : Int) := by omega
      have HS2 := Lib.hid hsum2
      clear hsum2 hss h1
      go_wp2_with fail
      go_roundg (l.length - (j + 1))
      case measure => omega
      case rel => exact ⟨j + 1, by omega, by omega, by rw [HS2.out], by simp, rfl⟩
    · by_cases h20 : 20 < l.length
      · have h20i : (20 : Int) < (l.length : Int) := by omega
        by_cases hjl : j < l.length
        · have hj21 : j = 21 := by omega
          subst hj21
          have hji : (21 : Int) < (l.length : Int) := by omega
          go_wp2_with (go_at_call 14; refine (awake_any _).mono ?_; rintro e w1 ⟨rfl, k1⟩)
          go_ret
          exact ⟨rfl, nochg k2 k1⟩
        · have hji : (l.length : Int) ≤ (j : Int) := by omega
          go_wp2_with (go_at_call 14; refine (awake_any _).mono ?_; rintro e w1 ⟨rfl, k1⟩)
          go_ret
          exact ⟨rfl, nochg k2 k1⟩
      · have hjl : j = l.length := by omega
        subst hjl
        have h20i : (l.length : Int) ≤ 20 := by omega
        by_cases hbig : 1000 < sumL l l.length
        · have hbi : (1000 : Int) < (sumL l l.length : Int) := by omega
          go_wp2_with (go_at_call 14; refine (awake_any _).mono ?_; rintro e w1 ⟨rfl, k1⟩)
          go_ret
          exact ⟨rfl, nochg k2 k1⟩
        · have hbi : (sumL l l.length : Int) ≤ 1000 := by omega
          have hall : ∀ j, j ≤ l.length → sumL l j ≤ 1000 := fun j hj => by
            have := sumL_mono (l := l) (i := j) (l.length - j)
            rw [show j + (l.length - j) = l.length by omega] at this
            omega
          go_wp2_with fail
          obtain ⟨i5, hi5, hz5, hs5, hb5⟩ := info_parts info5'
          go_loopg [6, 7, 8] l.length (fun k v i _ wq => ∃ j : Nat, j + k = l.length ∧ i = .int .i64 j ∧ Dig wq g (l.take j).flatten ∧ OwnB 5 wq v (l.take j).flatten ∧ (∀ k, v.ownBlock = some k → w.heap.size ≤ k) ∧ Chg (fun _ => False) w wq)
          case atStart => exact ⟨0, by omega, rfl, by simpa using hD, .inl ⟨rfl, by simp⟩, (fun k h => by simp [Value.ownBlock] at h), k2⟩
          case round =>
            obtain ⟨j, hj, rfl, hD, hO, hv, K⟩ := hrel
            by_cases hjl : j < l.length
            · obtain ⟨ad, B, cB, rfl, hcell, hcB, hRB⟩ := hr.at_ hjl
              have hysl := hlb j hjl
              have hXl := hall (j + 1) hjl
              unfold sumL at hXl
              rw [flat_succ hjl] at hXl
              have hFL := Lib.hid (flat_succ hjl)
              generalize (l.take j).flatten = xs at *
              generalize l[j] = ys at *
              obtain ⟨X, hX⟩ : ∃ X, xs ++ ys = X := ⟨_, rfl⟩
              have hxy : xs.length + ys.length = X.length := by rw [← hX, List.length_append]
              rw [hX] at hXl hFL
              have HX := Lib.hid hX
              clear hX
              have hcw := fun w' (k : Chg (fun _ => False) w w') => k.cell hcell (fun h => h)
              have hlent := fun w' (k : Chg (fun _ => False) w w') => lent_any (w := w') (c := cB) (hRB.chg k (fun _ _ h => h)) hysl
              have hkept := fun w' g' (h : Blk w' g' 5 (bcs (padded ys)).toArray) (k : Chg (fun _ => False) w w') => kept_any (w := w') (c := cB) (hRB.chg k (fun _ _ h => h)) hysl h
              have h17 := fun w' (h : Dig w' g X) => sum_any h (Nat.le_trans hXl (by decide))
              have h19 := fun w' (h : Dig w' g X) => len_chg h
              have h21 := fun w' D A' c' (h : Rd D w' A' X) => rsum_any (c := c') h (Nat.le_trans hXl (by decide))
              have hE := fun w' => eqB (w := w') 39 32 Try.underlying39 (sumB X) (sumB X) (sumB_length X) (sumB_length X)
              simp only [beq_self_eq_true] at hE
              generalize (bcs (sumB X)).toArray = S at *
              have hvg := own_dig hD hO
              have hvl := fun k h => hO.ownlt (g := k) h
              have hDlt : g < wr.heap.size := by obtain ⟨_, _, _, hb⟩ := hD; exact hb.lt
              have hji : (j : Int) < (l.length : Int) := by omega
              have hq : xs.length + ys.length ≤ 140737488355328 := by omega
              have hq2 : xs.length + ys.length ≤ 4611686018427387904 := by omega
              have c0 := hcw _ K
              go_wp2_with (first
                | (go_at_call 20; (with_reducible refine (hlent _ K).mono ?_); rintro e w1 ⟨g1, rfl, hg1, hb, k1⟩; have hg1' : g < g1 := Nat.lt_of_lt_of_le hDlt hg1; have hgw1 : w.heap.size ≤ g1 := Nat.le_trans K.size hg1; have hv1 := (fun k h => Nat.ne_of_lt (Nat.lt_of_lt_of_le (hvl k h) hg1)); have hD := hD.chg k1 (fun h => h); have hO := hO.chg k1 (fun _ _ h => h); have K := nochg K k1; have c1 := hcw _ K)
                | (go_at_call 16; (with_reducible refine (write_any hD (rd_lent hb) (fun k hk he => by omega) hq2 (Nat.le_add_right _ _)).mono ?_); rw [HX.out]; rintro e w2 ⟨rfl, hD, k2⟩; have hO := hO.chg k2 hvg; have hb := hb.chg k2 (by omega); have K := K.trans k2 (fun k hk he => by omega); have c2 := hcw _ K)
                | (go_at_call 23; (with_reducible refine (hkept _ g1 hb K).mono ?_); rintro e w3 ⟨rfl, k3⟩; have hD := hD.chg k3 (fun h => h); have hO := hO.chg k3 (fun _ _ h => h); have hb := hb.chg k3 (fun h => h); have K := nochg K k3)
                | (go_at_call 24; (with_reducible refine (over_lent hb hysl).mono ?_); rintro e w4 ⟨rfl, k4⟩; have hD := hD.chg k4 (by omega); have hO := hO.chg k4 hv1; have K := K.trans k4 (fun k hk he => by have := hgw1; omega); have c4 := hcw _ K)
                | ((with_reducible refine wpList_append_bytes _ rfl (.tmp 60) (.tmp 64) 25 rfl 5 i5 Try.underlying25 hi5 hz5 hs5 hb5 u6 xs rfl hO B cB ys rfl (hRB.chg K (fun _ _ h => h)) hq ?_); rw [HX.out]; intro v5 w5 hO5 k5 ha5; have hv5 := own_ge hv K ha5; have hD := hD.chg k5 (fun h => hvg _ h.symm rfl); have K := K.trans k5 (fun k hk he => by have := hv _ he.symm; omega); obtain ⟨A5, c5, hv5e, hc5, hR5⟩ := hO5.rd; subst hv5e; have c5' := hcw _ K)
                | (go_at_call 17; (with_reducible refine (h17 _ hD).mono ?_); rintro e w6 ⟨rfl, k6⟩; have hD := hD.chg k6 (fun h => h); have hO5 := hO5.chg k6 (fun _ _ h => h); have hR5 := hR5.chg k6 (fun _ _ h => h); have K := nochg K k6)
                | (go_at_call 21; (with_reducible refine (h21 _ _ _ _ hR5).mono ?_); rintro e w6 ⟨rfl, k6⟩; have hD := hD.chg k6 (fun h => h); have hO5 := hO5.chg k6 (fun _ _ h => h); have hR5 := hR5.chg k6 (fun _ _ h => h); have K := nochg K k6)
                | (go_at_call 19; (with_reducible refine (h19 _ hD).mono ?_); rintro e w6 ⟨rfl, k6⟩; have hD := hD.chg k6 (fun h => h); have hO5 := hO5.chg k6 (fun _ _ h => h); have hR5 := hR5.chg k6 (fun _ _ h => h); have K := nochg K k6))
              go_roundg (l.length - (j + 1))
              case measure => omega
              case rel => exact ⟨j + 1, by omega, by simp, by rw [hFL.out]; exact hD, by rw [hFL.out]; exact hO5, hv5, K⟩
            · go_wp2_with (go_at_call 14; refine (awake_any _).mono ?_; rintro e w1 ⟨rfl, k1⟩)
              go_ret
              exact ⟨rfl, nochg K k1⟩
end Go.Proofs.Ythgfkepflpdalaa
