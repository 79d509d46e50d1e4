/- The walk of DigestSums (5). -/
import Derived.Test.YthgfkepflpdalaaRefId
import Derived.Test.YthgfkepflpdalaaIdw
import Derived.Test.YthgfkepflpdalaaLent
namespace Go.Proofs.Ythgfkepflpdalaa
open Go.RowKit

/-- What was lent reads as the bytes. -/
theorem rd_lent {w : World} {g : Nat} {bs : List UInt8} (h : Blk w g 5 (bcs (padded bs)).toArray) : Rd (fun k => k = g) w (some ⟨g, 0, none⟩) bs := fun _ =>
  ⟨_, rfl, rfl, fun j u hu => by
    have hj : j < bs.length := by have := (List.getElem?_eq_some_iff.1 hu).1; rwa [bcs_length] at this
    rw [Addr.add_lit, Nat.zero_add, h.cell, List.getElem?_toArray, ← hu]
    unfold padded bcs
    rw [List.map_append, List.getElem?_append_left (by rw [List.length_map]; exact hj)]⟩

set_option maxRecDepth 100000 in
set_option maxHeartbeats 1600000 in
theorem digestSums_any {w : World} {A : Option Addr} {bs : List UInt8} {c : Nat} (hr : Rd (fun k => k < w.heap.size) w A bs) :
    Calls Try.prog 5 #[.slice A bs.length c] w fun e w' => e = .returned (.bool true) ∧ Chg (fun _ => False) w w' := by
  by_cases hbig : 2000 < bs.length
  · go_enter Try.func5, Try.ntmps5
    go_wp2_with (go_at_call 14; refine (awake_any _).mono ?_; rintro e w1 ⟨rfl, k1⟩)
    go_ret
    exact ⟨rfl, k1⟩
  have hl : bs.length ≤ 2000 := by omega
  have hrs := fun w' k => rsum_any (w := w') (c := c) (hr.chg (w' := w') (S := fun _ => False) k (fun _ _ h => h)) (Nat.le_trans hl (by decide))
  have hri := fun w' k => rid_any (w := w') (c := c) (hr.chg (w' := w') (S := fun _ => False) k (fun _ _ h => h)) (Nat.le_trans hl (by decide))
  have hs := fun w' g (h : Blk w' g 5 (bcs (padded bs)).toArray) => digSum_any (w := w') (c := bs.length + 3) (rd_lent h) (fun k hk => by subst hk; exact h.lt) (Nat.le_add_right _ _) (Nat.le_trans hl (by decide))
  have hi := fun w' g (h : Blk w' g 5 (bcs (padded bs)).toArray) => id_any (w := w') (c := bs.length + 3) (rd_lent h) (fun k hk => by subst hk; exact h.lt) (Nat.le_add_right _ _) (Nat.le_trans hl (by decide))
  have hkp := fun w' g (h : Blk w' g 5 (bcs (padded bs)).toArray) k => kept_any (w := w') (c := c) (hr.chg (w' := w') (S := fun _ => False) k (fun _ _ h => h)) (Nat.le_trans hl (by decide)) h
  have hE := fun w' => eqB (w := w') 39 32 Try.underlying39 (sumB bs) (sumB bs) (sumB_length bs) (sumB_length bs)
  have hT : ((sumB bs).take 16).length = 16 := by simp [sumB_length]
  have hF := fun w' => eqB (w := w') 23 16 Try.underlying23 ((sumB bs).take 16) ((sumB bs).take 16) hT hT
  simp only [beq_self_eq_true] at hE hF
  have hle := lent_any (c := c) hr (Nat.le_trans hl (by decide))
  generalize hS : (bcs (sumB bs)).toArray = S at *
  generalize hI : (bcs ((sumB bs).take 16)).toArray = I at *
  clear hS hI hT
  go_enter Try.func5, Try.ntmps5
  go_wp2_with (first
    | (go_at_call 20; (with_reducible refine hle.mono ?_); rintro e w1 ⟨g, rfl, hg, hb, k1⟩)
    | (go_at_call 18; (with_reducible refine (hs _ g hb).mono ?_); rintro e w2 ⟨rfl, k2⟩; have K2 := nochg k1 k2; have hb := hb.chg k2 (fun h => h))
    | (go_at_call 21; (with_reducible refine (hrs _ K2).mono ?_); rintro e w3 ⟨rfl, k3⟩; have K3 := nochg K2 k3; have hb := hb.chg k3 (fun h => h))
    | (go_at_call 10; (with_reducible refine (hi _ g hb).mono ?_); rintro e w4 ⟨rfl, k4⟩; have K4 := nochg K3 k4; have hb := hb.chg k4 (fun h => h))
    | (go_at_call 22; (with_reducible refine (hri _ K4).mono ?_); rintro e w5 ⟨rfl, k5⟩; have K5 := nochg K4 k5; have hb := hb.chg k5 (fun h => h))
    | (go_at_call 23; (with_reducible refine (hkp _ g hb K5).mono ?_); rintro e w6 ⟨rfl, k6⟩; have K6 := nochg K5 k6)
    | (go_at_call 14; (with_reducible refine (awake_any _).mono ?_); rintro e w7 ⟨rfl, k7⟩; have K7 := nochg K6 k7))
  go_ret
  exact ⟨rfl, K7⟩
end Go.Proofs.Ythgfkepflpdalaa
