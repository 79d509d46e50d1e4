/- The document's answer: Sound (21), spans (32), stays (30). -/
import Derived.Test.YtjfkjohocopcgaaKeep
import Derived.Test.YtjfkjohocopcgaaMoreWalk
namespace Go.Proofs.Ytjfkjohocopcgaa
open Go.RowKit Go.Maps

theorem rwithin_is {n lo hi : Int} {b : Bool} (h : (decide (lo ≤ n) && decide (n ≤ hi)) = b) (w : World) : Calls Try.prog 27 #[.int .i64 n, .int .i64 lo, .int .i64 hi] w fun e w' => e = .returned (.bool b) ∧ w = w' := h ▸ rwithin_any n lo hi w

/-- The number ahead of j. -/
def prevN (l : List Snp) (j : Nat) : Int := if j = 0 then 0 else (l.getD (j - 1) (0, 0)).1
theorem prevN_succ {l : List Snp} {j : Nat} (hj : j < l.length) : prevN l (j + 1) = l[j].1 := by
  unfold prevN
  rw [if_neg (by omega), Nat.add_sub_cancel, List.getD_eq_getElem?_getD, List.getElem?_eq_getElem hj]
  rfl

set_option maxHeartbeats 800000 in
theorem rsound_any {D : Nat → Prop} {w : World} {A : Option Addr} {l : List Snp} {c : Nat} (h : Snaps D w A l) (hl : l.length ≤ 9223372036854775807) :
    Calls Try.prog 21 #[.slice A l.length c] w fun e w' => e = .returned (.bool (soundB 0 l)) ∧ ∃ n, w' = w.drewN n := by
  go_enter Try.func21, Try.ntmps21
  go_wp2_with fail
  go_loopg [3] l.length (fun k i wr => ∃ (j n : Nat), (j + k ≤ l.length ∧ l.length ≤ j + k) ∧ i = .int .i64 (j : Int) ∧ soundB 0 l = soundB (prevN l j) (l.drop j) ∧ (0 < j → 1 ≤ prevN l j) ∧ wr = w.drewN n)
  case atStart => exact ⟨0, 0, ⟨by omega, by omega⟩, rfl, rfl, fun h => absurd h (by omega), rfl⟩
  case round =>
    obtain ⟨j, n, ⟨hj1, hj2⟩, rfl, hs, hpv, rfl⟩ := hrel
    by_cases hj : j < l.length
    · obtain ⟨ad, rfl, had, c1, c2⟩ := Snaps.at_ (D := D) (w := w) (A := A) (l := l) h hj
      have hpn := prevN_succ hj
      rw [List.drop_eq_getElem_cons hj] at hs
      have hji : (j : Int) < (l.length : Int) := by omega
      have cp : 0 < j → w.cell? (ad.add ((j - 1) * 2)) = some (.int .i64 (prevN l j)) := by
        intro h0
        obtain ⟨ad', e, _, d1, _⟩ := Snaps.at_ (D := D) (w := w) (A := some ad) (l := l) h (k := j - 1) (by omega)
        injection e with e
        subst e
        rw [d1]
        unfold prevN
        rw [if_neg (by omega), List.getD_eq_getElem?_getD, List.getElem?_eq_getElem (show j - 1 < l.length by omega)]
        rfl
      generalize l[j] = x at hs c1 c2 hpn
      obtain ⟨m, t⟩ := x
      simp only [soundB] at hs c1 c2 hpn
      generalize hpr : prevN l j = prev at *
      rcases h1 : (decide (1 ≤ m) && decide (m ≤ 2147483647)) with _ | _
      · have hf : soundB 0 l = false := by
          rw [hs]
          have : ¬ (prev < m ∧ m ≤ 2147483647) := by
            simp at h1
            rintro ⟨a, b⟩
            by_cases h0 : j = 0
            · have : prev = 0 := by rw [← hpr, h0]; rfl
              omega
            · have := hpv (by omega); omega
          rw [show (decide (prev < m) && decide (m ≤ 2147483647)) = false by simpa using this]
          rfl
        have HF := Lib.hid hf
        have H1 := Lib.hid h1
        clear hs hf hpv cp hpn hpr h1
        go_wp2_with fail
        go_quiet ((go_at_call 27; exact quiet_add_left (rwithin_is H1.out _)))
        go_wp2_with fail
        go_ret
        exact ⟨by rw [HF.out]; rfl, n + nq, by first | rfl | rw [World.drewN_drewN]⟩
      · have H1 := Lib.hid h1
        rcases h2 : (decide (0 ≤ t) && decide (t ≤ 2147483647)) with _ | _
        · have hf : soundB 0 l = false := by rw [hs, h2]; simp
          have HF := Lib.hid hf
          have H2 := Lib.hid h2
          clear hs hf hpv cp hpn hpr h1 h2
          go_wp2_with fail
          go_quiet ((first | (go_at_call 27; with_reducible exact quiet_add_left (rwithin_is H1.out _)) | (go_at_call 27; with_reducible exact quiet_add_left (rwithin_is H2.out _))))
          go_wp2_with fail
          go_ret
          exact ⟨by rw [HF.out]; rfl, n + nq, by first | rfl | rw [World.drewN_drewN]⟩
        · have H2 := Lib.hid h2
          have hm1 : 1 ≤ m ∧ m ≤ 2147483647 := by simpa using h1
          by_cases h0 : j = 0
          · have hp0 : prev = 0 := by rw [← hpr, h0]; rfl
            have hd1 : decide (0 < j) = false := by simpa using h0
            have hd2 : decide ((0 : Int) < (j : Int)) = false := by simpa using h0
            have hf : soundB 0 l = soundB m (l.drop (j + 1)) := by
              rw [hs, h2, hp0, show decide (0 < m) = true by simp; omega, show decide (m ≤ 2147483647) = true by simp; omega]; rfl
            have HF := Lib.hid hf
            have HP := Lib.hid hpn
            clear hs hf hpv cp hpn hpr h1 h2 hp0 h0
            go_wp2_with fail
            go_quiet ((first | (go_at_call 27; with_reducible exact quiet_add_left (rwithin_is H1.out _)) | (go_at_call 27; with_reducible exact quiet_add_left (rwithin_is H2.out _))))
            go_wp2_with fail
            go_roundg (gk - 1)
            case measure => omega
            case rel => exact ⟨j + 1, n + nq, ⟨by omega, by omega⟩, by go_num, by rw [HP.out, HF.out], fun _ => by rw [HP.out]; omega, by first | rfl | rw [World.drewN_drewN]⟩
          · obtain ⟨r, rfl⟩ : ∃ r, j = r + 1 := ⟨j - 1, by omega⟩
            have cq := cp (by omega)
            rw [Nat.add_sub_cancel] at cq
            have hr1 : ((r : Int) + 1).toNat = r + 1 := by omega
            have hr2 : (r : Int) < (l.length : Int) := by omega
            have hr3 : (r : Int) + 1 < (l.length : Int) := by omega
            by_cases hlt : prev < m
            · have hf : soundB 0 l = soundB m (l.drop (r + 1 + 1)) := by
                rw [hs, h2, show decide (prev < m) = true by simpa using hlt, show decide (m ≤ 2147483647) = true by simp; omega]; rfl
              have HF := Lib.hid hf
              have HP := Lib.hid hpn
              clear hs hf hpv cp hpn hpr h1 h2
              go_wp2_with fail
              go_quiet ((first | (go_at_call 27; with_reducible exact quiet_add_left (rwithin_is H1.out _)) | (go_at_call 27; with_reducible exact quiet_add_left (rwithin_is H2.out _))))
              clear hr1
              go_wp2_with fail
              go_roundg (gk - 1)
              case measure => omega
              case rel => exact ⟨r + 1 + 1, n + nq, ⟨by omega, by omega⟩, by go_num, by rw [HP.out, HF.out], fun _ => by rw [HP.out]; omega, by first | rfl | rw [World.drewN_drewN]⟩
            · have hf : soundB 0 l = false := by rw [hs, show decide (prev < m) = false by simpa using hlt]; rfl
              have HF := Lib.hid hf
              clear hs hf hpv cp hpn hpr h1 h2
              go_wp2_with fail
              go_quiet ((first | (go_at_call 27; with_reducible exact quiet_add_left (rwithin_is H1.out _)) | (go_at_call 27; with_reducible exact quiet_add_left (rwithin_is H2.out _))))
              clear hr1
              go_wp2_with fail
              go_ret
              exact ⟨by rw [HF.out]; rfl, n + nq, by first | rfl | rw [World.drewN_drewN]⟩
    · rw [List.drop_of_length_le (by omega)] at hs
      have HF := Lib.hid hs
      clear hs hpv
      go_wp2_with fail
      go_ret
      exact ⟨by rw [HF.out]; rfl, _, rfl⟩

/-- The spans of the first j ones: who is the first of its own. -/
theorem later_add (S : List Int) (x a : Int) : laterN (addS S x) a = laterN S a + (if a < x ∧ S.contains x = false then 1 else 0) := by
  unfold addS laterN
  rcases h : S.contains x with _ | _
  · rw [if_neg (by simp), List.filter_append, List.length_append]
    by_cases ha : a < x <;> simp [ha]
  · rw [if_pos rfl, if_neg (by simp)]
    rfl
theorem spanS_has (p : Pol) (l : List Snp) (x : Int) : (spanS p l).contains x = !(l.all fun y => decide (tq p y ≠ x)) := by
  rw [Bool.eq_iff_iff]
  simp only [List.contains_iff_mem, spanS_mem, Bool.not_eq_true', ← Bool.not_eq_true, List.all_eq_true, decide_eq_true_iff]
  constructor
  · rintro ⟨y, hy, e⟩ hh
    exact hh y hy e
  · intro hh
    false_or_by_contra
    rename_i hn
    exact hh fun y hy e => hn ⟨y, hy, e⟩
theorem allTake (l : List Snp) (f : Snp → Bool) (j : Nat) (hj : j < l.length) : (l.take (j + 1)).all f = ((l.take j).all f && f l[j]) := by
  rw [List.take_succ_eq_append_getElem hj, List.all_append]
  simp
theorem spanLater (p : Pol) (l : List Snp) (j : Nat) (hj : j < l.length) (a : Int) : laterN (spanS p (l.take (j + 1))) a = laterN (spanS p (l.take j)) a + (if a < tq p l[j] ∧ ((l.take j).all fun y => decide (tq p y ≠ tq p l[j])) = true then 1 else 0) := by
  rw [spanS_take p l j hj, later_add, spanS_has]
  simp only [Bool.not_eq_false']
theorem laterN_le (S : List Int) (a : Int) : laterN S a ≤ S.length := List.length_filter_le _ _
theorem tq_wrap {p : Pol} {x : Snp} (h1 : 0 ≤ x.2) (h2 : x.2 ≤ 2147483647) (hp : 1 ≤ p.span) : 0 ≤ tq p x ∧ tq p x ≤ 2147483647 ∧ IntKind.i64.wrap (x.2 / p.span) = tq p x ∧ x.2.tdiv p.span = tq p x := by
  unfold tq
  have hq1 : 0 ≤ x.2 / p.span := Int.ediv_nonneg h1 (by omega)
  have hq2 : x.2 / p.span ≤ x.2 := Int.ediv_le_self _ h1
  exact ⟨hq1, by omega, by rw [IntKind.wrap_i64]; omega, Int.tdiv_eq_ediv_of_nonneg h1⟩

set_option maxRecDepth 100000 in
set_option maxHeartbeats 800000 in
theorem rspans_any {D : Nat → Prop} {w : World} {A : Option Addr} {l : List Snp} {c : Nat} (h : Snaps D w A l) (hl : l.length ≤ 1000) (ht : Tame l) (p : Pol) (hp1 : 1 ≤ p.span) (a : Int) :
    Calls Try.prog 32 #[.slice A l.length c, .int .i64 p.span, .int .i64 a] w fun e w' => e = .returned (.int .i64 (laterN (spanS p l) a : Int)) ∧ w = w' := by
  generalize hsp : p.span = sp at *
  go_enter Try.func32, Try.ntmps32
  go_wp2_with fail
  go_loopg [7, 8, 9, 10, 11] l.length (fun k s i _ _ _ wr => ∃ (j : Nat), (j + k ≤ l.length ∧ l.length ≤ j + k) ∧ i = .int .i64 (j : Int) ∧ s = .int .i64 (laterN (spanS p (l.take j)) a : Int) ∧ wr = w)
  case atStart => exact ⟨0, ⟨by omega, by omega⟩, rfl, rfl, rfl⟩
  case round =>
    obtain ⟨j, ⟨hj1, hj2⟩, rfl, rfl, rfl⟩ := hrel
    by_cases hj : j < l.length
    · obtain ⟨ad, rfl, had, c1, c2⟩ := Snaps.at_ (D := D) (w := wr) (A := A) (l := l) h hj
      have htj := ht l[j] (List.getElem_mem hj)
      have hsl := Lib.hid (spanLater p l j hj a)
      have htw := tq_wrap (p := p) htj.2.2.1 htj.2.2.2 (by omega)
      have hle := laterN_le (spanS p (l.take j)) a
      have hle2 := spanS_length p (l.take j)
      have hle3 : (l.take j).length ≤ j := List.length_take_le _ _
      rw [hsp] at htw
      generalize hx : l[j] = x at c1 c2 htj hsl htw
      obtain ⟨n, t⟩ := x
      simp only at c1 c2 htj htw
      obtain ⟨t1, t2, t3, t4⟩ := htw
      generalize hq : tq p (n, t) = q at *
      have hqe : t / sp = q := by rw [← hq, ← hsp]; rfl
      have HQ := Lib.hid hqe
      have hji : (j : Int) < (l.length : Int) := by omega
      have e0 : (sp == 0) = false := by simp; omega
      have hw2 : IntKind.i64.wrap q = q := by rw [IntKind.wrap_i64]; omega
      clear hq hqe
      go_wp2_with fail
      clear t3 t4
      obtain ⟨gj, rfl⟩ : ∃ g : Nat, g = gk := ⟨_, rfl⟩
      obtain ⟨wo, rfl⟩ : ∃ wo : World, wo = wr := ⟨_, rfl⟩
      go_loopg [10, 11] j (fun k f i wr => ∃ (m : Nat), (m + k ≤ j ∧ j ≤ m + k) ∧ i = .int .i64 (m : Int) ∧ f = .bool ((l.take m).all fun y => decide (tq p y ≠ q)) ∧ wr = wo)
      case atStart => exact ⟨0, ⟨by omega, by omega⟩, rfl, rfl, rfl⟩
      case round =>
        obtain ⟨m, ⟨hm1, hm2⟩, rfl, rfl, rfl⟩ := hrel
        by_cases hm : m < j
        · have hml : m < l.length := by omega
          obtain ⟨ad2, e, _, d1, d2⟩ := Snaps.at_ (D := D) (w := wr) (A := some ad) (l := l) h hml
          injection e with e
          subst e
          have htm := ht l[m] (List.getElem_mem hml)
          have hal := allTake l (fun y => decide (tq p y ≠ q)) m hml
          have htw2 := tq_wrap (p := p) htm.2.2.1 htm.2.2.2 (by omega)
          rw [hsp] at htw2
          generalize l[m] = y at d1 d2 htm hal htw2
          obtain ⟨ny, ty⟩ := y
          simp only at d1 d2 htm htw2
          obtain ⟨s1, s2, s3, s4⟩ := htw2
          generalize hqy : tq p (ny, ty) = qy at *
          have hmi : (m : Int) < (l.length : Int) := by omega
          rcases hb : ((l.take m).all fun y => decide (tq p y ≠ q)) with _ | _
          · rw [hb] at hal
            have HAL := Lib.hid hal
            clear hal hb hqy
            go_wp2_with fail
            go_roundg (gk - 1)
            case measure => omega
            case rel => exact ⟨m + 1, ⟨by omega, by omega⟩, by go_num, by rw [HAL.out]; rfl, rfl⟩
          · rw [hb] at hal
            by_cases hqq : qy = q
            · subst hqq
              have HAL := Lib.hid (hal.trans (show (true && decide (qy ≠ qy)) = false by simp))
              have e1 : (qy != qy) = false := by simp
              clear hal hb hqy
              go_wp2_with fail
              go_roundg (gk - 1)
              case measure => omega
              case rel => exact ⟨m + 1, ⟨by omega, by omega⟩, by go_num, by rw [HAL.out], rfl⟩
            · have HAL := Lib.hid (hal.trans (show (true && decide (qy ≠ q)) = true by simp [hqq]))
              have e1 : (qy != q) = true := by simpa using hqq
              clear hal hb hqy
              go_wp2_with fail
              go_roundg (gk - 1)
              case measure => omega
              case rel => exact ⟨m + 1, ⟨by omega, by omega⟩, by go_num, by rw [HAL.out], rfl⟩
        · obtain rfl : m = j := by omega
          rcases hb : ((l.take m).all fun y => decide (tq p y ≠ q)) with _ | _
          · have HSL := Lib.hid (show laterN (spanS p (l.take (m + 1))) a = laterN (spanS p (l.take m)) a by rw [hsl.out, hb]; simp)
            clear hb
            go_wp2_with fail
            all_goals
              go_roundg (gj - 1)
              case measure => omega
              case rel => exact ⟨m + 1, ⟨by omega, by omega⟩, by go_num, by rw [HSL.out], rfl⟩
          · by_cases haq : a < q
            · have HSL := Lib.hid (show laterN (spanS p (l.take (m + 1))) a = laterN (spanS p (l.take m)) a + 1 by rw [hsl.out, hb]; simp [haq])
              clear hb
              go_wp2_with fail
              go_roundg (gj - 1)
              case measure => omega
              case rel => exact ⟨m + 1, ⟨by omega, by omega⟩, by go_num, by rw [HSL.out]; go_num, rfl⟩
            · have HSL := Lib.hid (show laterN (spanS p (l.take (m + 1))) a = laterN (spanS p (l.take m)) a by rw [hsl.out, hb]; simp [haq])
              clear hb
              go_wp2_with fail
              go_roundg (gj - 1)
              case measure => omega
              case rel => exact ⟨m + 1, ⟨by omega, by omega⟩, by go_num, by rw [HSL.out], rfl⟩
    · obtain rfl : j = l.length := by omega
      rw [List.take_length]
      go_wp2_with fail
      go_ret
      exact ⟨rfl, rfl⟩
end Go.Proofs.Ytjfkjohocopcgaa
