/- The document's answer: stays (30), told (26), Stay (17), Go (18). -/
import Derived.Test.YtjfkjohocopcgaaRef
namespace Go.Proofs.Ytjfkjohocopcgaa
open Go.RowKit Go.Maps

set_option maxRecDepth 100000 in
set_option maxHeartbeats 1600000 in
theorem rstays_any {D : Nat → Prop} {w : World} {A : Option Addr} {l : List Snp} {c : Nat} (h : Snaps D w A l) (hl : l.length ≤ 1000) (hs : soundB 0 l = true) (p : Pol) (hp : p.ok = true) (i : Nat) (hi : i < l.length) :
    Calls Try.prog 30 #[.slice A l.length c, p.v, .int .i64 (i : Int)] w fun e w' => e = .returned (.bool (stB p l i)) ∧ Chg (fun _ => False) w w' := by
  have hst := stB_iff (p := p) hs hi
  have ht := tame_of (prev := 0) (by omega) hs
  have hpo := hp
  simp only [Pol.ok, Bool.and_eq_true, decide_eq_true_iff] at hpo
  have hsa := Lib.hid (fun (w : World) (h : Snaps D w A l) hp1 a => rspans_any (c := c) h hl ht p hp1 a)
  have hHT := Lib.hid ht
  have htw := fun (x : Snp) h1 h2 hp => tq_wrap (p := p) (x := x) h1 h2 hp
  have HTW := Lib.hid htw
  generalize stB p l i = b at *
  obtain ⟨pl, ps, pss⟩ := p
  unfold Pol.v
  simp only at hpo hst
  obtain ⟨⟨⟨p1, p2⟩, p3, p4⟩, p5, p6⟩ := hpo
  clear hp hs ht htw
  have hB := Blk.new w 24 #[.int .i64 pl, .int .i64 ps, .int .i64 pss]
  have k0 : Chg (fun _ => False) w (w.alloc (.cells #[.int .i64 pl, .int .i64 ps, .int .i64 pss] 24)) := (Chg.refl _ w).alloc _
  by_cases h1 : i + 1 = l.length
  · have hb : b = true := hst.2 (.inr (.inl h1))
    subst hb
    have e1 : ((l.length : Int) - 1 - (i : Int) == 0) = true := by simp; omega
    clear hst
    go_enter Try.func30, Try.ntmps30
    go_wp2_with fail
    go_ret
    exact ⟨rfl, k0⟩
  · have e1 : ((l.length : Int) - 1 - (i : Int) == 0) = false := beq_eq_false_iff_ne.2 (by omega)
    by_cases h2 : (l.length : Int) - pl ≤ i
    · have hb : b = true := hst.2 (.inr (.inr h2))
      subst hb
      have e2 : (l.length : Int) - 1 - (i : Int) < pl := by omega
      clear hst
      go_enter Try.func30, Try.ntmps30
      go_wp2_with fail
      go_ret
      exact ⟨rfl, k0⟩
    · have e2 : pl ≤ (l.length : Int) - 1 - (i : Int) := by omega
      by_cases h3 : ps = 0
      · have hb : b = false := by
          rcases b with _ | _
          · rfl
          · rcases hst.1 rfl with ⟨a, _⟩ | a | a
            · exact absurd h3 a
            · exact absurd a h1
            · exact absurd a h2
        subst hb
        have e3 : (ps == 0) = true := by simpa using h3
        clear hst h3
        go_enter Try.func30, Try.ntmps30
        go_wp2_with fail
        go_ret
        exact ⟨rfl, k0⟩
      · have e3 : (ps == 0) = false := by simpa using h3
        have hps : 1 ≤ ps := by omega
        obtain ⟨ad, rfl, had, c1w, c2w⟩ := Snaps.at_ (D := D) (w := w) (A := A) (l := l) h hi
        have hti := hHT.out l[i] (List.getElem_mem hi)
        have htq := HTW.out l[i] hti.2.2.1 hti.2.2.2 hps
        generalize hx : l[i] = x at c1w c2w hti htq hst
        obtain ⟨n, t⟩ := x
        simp only at c1w c2w hti htq
        obtain ⟨t1, t2, t3, t4⟩ := htq
        generalize hq : tq ⟨pl, ps, pss⟩ (n, t) = q at *
        have hqe := Lib.hid (show t / ps = q by rw [← hq]; rfl)
        have hii : (i : Int) < (l.length : Int) := by omega
        have hwq : IntKind.i64.wrap q = q := by rw [IntKind.wrap_i64]; omega
        have c1 := k0.cell c1w (fun h => h)
        have c2 := k0.cell c2w (fun h => h)
        have hst' : b = true ↔ (∀ y ∈ l.drop (i + 1), tq ⟨pl, ps, pss⟩ y ≠ q) ∧ (laterN (spanS ⟨pl, ps, pss⟩ l) q : Int) < pss := by
          rw [hst]
          constructor
          · rintro (⟨_, a, b⟩ | a | a)
            · exact ⟨a, b⟩
            · exact absurd a h1
            · exact absurd a h2
          · rintro ⟨a, b⟩
            exact .inl ⟨h3, a, b⟩
        have HST := Lib.hid hst'
        clear hst hst' hx hq h3 c1w c2w
        go_enter Try.func30, Try.ntmps30
        go_wp2_with fail
        go_quiet (fail)
        clear t3 t4 c1 c2
        go_wp2_with fail
        go_loopg [9] (l.length - (i + 1)) (fun k s wr => ∃ (m n : Nat), (m + k ≤ l.length ∧ l.length ≤ m + k) ∧ i < m ∧ s = .int .i64 (m : Int) ∧ Hid (∀ y ∈ (l.drop (i + 1)).take (m - (i + 1)), tq ⟨pl, ps, pss⟩ y ≠ q) ∧ wr = (w.alloc (.cells #[.int .i64 pl, .int .i64 ps, .int .i64 pss] 24)).drewN n)
        case atStart => exact ⟨i + 1, nq, ⟨by omega, by omega⟩, by omega, by go_num, Lib.hid (by intro y hy; rw [Nat.sub_self, List.take_zero] at hy; cases hy), rfl⟩
        case round =>
          obtain ⟨m, n', ⟨hm1, hm2⟩, him, rfl, hno, rfl⟩ := hrel
          by_cases hm : m < l.length
          · obtain ⟨ad2, e, _, d1w, d2w⟩ := Snaps.at_ (D := D) (w := w) (A := some ad) (l := l) h hm
            injection e with e
            subst e
            have htm := hHT.out l[m] (List.getElem_mem hm)
            have htw2 := HTW.out l[m] htm.2.2.1 htm.2.2.2 hps
            have hdl : m - (i + 1) < (l.drop (i + 1)).length := by rw [List.length_drop]; omega
            have hdm : (l.drop (i + 1))[m - (i + 1)] = l[m] := by rw [List.getElem_drop]; congr 1; omega
            have hstep : (∀ y ∈ (l.drop (i + 1)).take (m + 1 - (i + 1)), tq ⟨pl, ps, pss⟩ y ≠ q) ↔ tq ⟨pl, ps, pss⟩ l[m] ≠ q := by
              rw [show m + 1 - (i + 1) = m - (i + 1) + 1 by omega, List.take_succ_eq_append_getElem hdl, hdm]
              constructor
              · intro hh; exact hh _ (by simp)
              · intro hh y hy
                rcases List.mem_append.1 hy with hy | hy
                · exact hno.out y hy
                · have : y = l[m] := by simpa using hy
                  rw [this]; exact hh
            have hmem : l[m] ∈ l.drop (i + 1) := by rw [← hdm]; exact List.getElem_mem _
            have HSTEP := Lib.hid hstep
            have HNE := Lib.hid (fun hb => (HST.out.1 hb).1 l[m] hmem)
            clear hstep hmem hdm hdl
            generalize l[m] = y at d1w d2w htm htw2 HSTEP HNE
            obtain ⟨ny, ty⟩ := y
            simp only at d1w d2w htm htw2
            obtain ⟨s1, s2, s3, s4⟩ := htw2
            have d1 := k0.cell d1w (fun h => h)
            have d2 := k0.cell d2w (fun h => h)
            clear d1w d2w
            generalize tq ⟨pl, ps, pss⟩ (ny, ty) = qy at *
            have hmi : (m : Int) < (l.length : Int) := by omega
            by_cases hqq : qy = q
            · have hb : b = false := by
                rcases b with _ | _
                · rfl
                · exact absurd hqq (HNE.out rfl)
              subst hb
              subst hqq
              have e5 : (qy == qy) = true := by simp
              clear HNE HSTEP HST
              go_wp2_with fail
              go_quiet (fail)
              clear s3 s4
              go_wp2_with fail
              go_ret
              exact ⟨rfl, (k0.drewN n').drewN nq⟩
            · have e5 : (qy == q) = false := by simpa using hqq
              have HS := Lib.hid (HSTEP.out.2 hqq)
              clear HNE HSTEP hqq
              go_wp2_with fail
              go_quiet (fail)
              clear s3 s4
              go_wp2_with fail
              go_roundg (gk - 1)
              case measure => omega
              case rel => exact ⟨m + 1, n' + nq, ⟨by omega, by omega⟩, by omega, by go_num, HS, by first | rfl | rw [World.drewN_drewN]⟩
          · obtain rfl : m = l.length := by omega
            have hall : ∀ y ∈ l.drop (i + 1), tq ⟨pl, ps, pss⟩ y ≠ q := by
              have := hno.out
              rwa [List.take_of_length_le (by rw [List.length_drop]; omega)] at this
            have hb : b = decide ((laterN (spanS ⟨pl, ps, pss⟩ l) q : Int) < pss) := by
              rw [Bool.eq_iff_iff, HST.out, decide_eq_true_iff]
              exact ⟨fun hh => hh.2, fun hh => ⟨hall, hh⟩⟩
            have HB := Lib.hid hb
            have h0 := h.chg k0 (fun _ _ h => h)
            clear hb hall hno HST
            go_wp2_with fail
            go_quiet ((go_at_call 32; exact quiet_add_left (hsa.out _ (RdC.drewN h0 _) hps q)))
            go_wp2_with fail
            go_ret
            exact ⟨by rw [HB.out]; first | rfl | simp, (k0.drewN n').drewN nq⟩
end Go.Proofs.Ytjfkjohocopcgaa
