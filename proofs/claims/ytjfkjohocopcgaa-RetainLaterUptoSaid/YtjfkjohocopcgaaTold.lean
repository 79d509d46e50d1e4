/- Who stays, and what is told: retain.told, Stay, Go. -/
import Derived.Test.YtjfkjohocopcgaaEnds
namespace Go.Proofs.Ytjfkjohocopcgaa
open Go.RowKit Go.Maps

/-- Does the i-th one stay? -/
def stB (p : Pol) (l : List Snp) (i : Nat) : Bool := ((endsS p l).contains (l.getD i (0, 0)).1 || decide (i + 1 = l.length)) || decide ((l.length : Int) - p.last ≤ i)

set_option maxRecDepth 100000 in
set_option maxHeartbeats 400000 in
theorem stays_any {D : Nat → Prop} {w : World} {A : Option Addr} {l : List Snp} {c L LB PB b m : Nat} {p : Pol} (h : Snaps D w A l) (hl : l.length ≤ 1000) (ht : Tame l) (hp1 : 0 ≤ p.last) (hp2 : p.last ≤ 64) (hL : Blk w L 46 #[.map (some b)]) (hS : SetI w b m (endsS p l))
    (hLB : Blk w LB 22 #[.slice A l.length c]) (hPB : Blk w PB 24 #[.int .i64 p.last, .int .i64 p.span, .int .i64 p.spans]) (i : Nat) (hi : i < l.length) :
    Calls Try.prog 29 #[.int .i64 (i : Int), .pointer (some ⟨L, 0, none⟩), .pointer (some ⟨LB, 0, none⟩), .pointer (some ⟨PB, 0, none⟩)] w fun e w' => e = .returned (.bool (stB p l i)) ∧ Chg (fun _ => False) w w' := by
  obtain ⟨ad, rfl, had, c1, c2⟩ := Snaps.at_ (D := D) (w := w) (A := A) (l := l) h hi
  have htj := ht l[i] (List.getElem_mem hi)
  have hst : stB p l i = (((endsS p l).contains l[i].1 || decide (i + 1 = l.length)) || decide ((l.length : Int) - p.last ≤ i)) := by
    unfold stB
    rw [List.getD_eq_getElem?_getD, List.getElem?_eq_getElem hi]
    rfl
  have HST := Lib.hid hst
  clear hst c2
  generalize l[i] = x at c1 htj HST
  obtain ⟨n, t⟩ := x
  simp only at c1 htj
  obtain ⟨la, sp, ss⟩ := p
  simp only at hp1 hp2 hPB
  generalize hE : endsS ⟨la, sp, ss⟩ l = E at *
  have hn1 : -9223372036854775808 ≤ n := by omega
  have hn2 : n ≤ 9223372036854775807 := by omega
  have hii : (i : Int) < (l.length : Int) := by omega
  have run1 : (Instr.lookup 46 (.map (some b)) (.int .i64 n) true).run Try.prog w.drew = .ok (.tuple #[.agg #[], .bool (E.contains n)]) w.drew := set_look_run (hS.drewN 1) hn1 hn2
  have run2 : (Instr.lookup 46 (.map (some b)) (.int .i64 n) true).run Try.prog (w.alloc (.cells #[] 48)).drew = .ok (.tuple #[.agg #[], .bool (E.contains n)]) (w.alloc (.cells #[] 48)).drew := set_look_run ((hS.chg (T := fun _ => False) ((Chg.refl _ w).alloc (.cells #[] 48)) (fun h => h)).drewN 1) hn1 hn2
  have v0 := hL.cell 0
  have v1 := hLB.cell 0
  have v2 := hPB.cell 0
  simp only [List.getElem?_toArray] at v0 v1 v2
  have a1 : ∀ o, (w.alloc o).cell? ⟨L, 0, none⟩ = some (.map (some b)) := fun o => by rw [(hL.alloc o).cell]; rfl
  have a2 : ∀ o, (w.alloc o).cell? ⟨LB, 0, none⟩ = some (.slice (some ad) l.length c) := fun o => by rw [(hLB.alloc o).cell]; rfl
  have a3 : ∀ o, (w.alloc o).cell? (ad.add (i * 2)) = some (.int .i64 n) := fun o => ((Chg.refl (fun _ => False) w).alloc o).cell c1 (fun h => h)
  generalize hE2 : E.contains n = e2 at *
  go_enter Try.func29, Try.ntmps29
  go_wp2_with fail
  go_cut [7] (fun v w2 => v = .bool e2 ∧ Chg (fun _ => False) w w2)
  case first =>
    go_region_law (fail)
    all_goals (clear run1 run2)
    all_goals (go_wp2_with fail)
    all_goals (go_meet; first | exact ⟨rfl, ((Chg.refl _ w).alloc _).drew⟩ | exact ⟨rfl, ((Chg.refl _ w).drew).alloc _⟩)
  case rest =>
    obtain ⟨rfl, k⟩ := hcut
    have hLB2 := (hLB.chg k (fun h => h)).cell 0
    have hPB2 := (hPB.chg k (fun h => h)).cell 0
    simp only [List.getElem?_toArray] at hLB2 hPB2
    clear run1 run2 v0 v1 v2 a1 a2 a3 hE
    rcases e2 with _ | _
    · by_cases h1 : i + 1 = l.length
      · have g1 : ((i : Int) == (l.length : Int) - 1) = true := by simp; omega
        go_wp2_with fail
        go_ret
        exact ⟨by rw [HST.out]; simp [h1], k⟩
      · have g1 : ((i : Int) == (l.length : Int) - 1) = false := by simp; omega
        go_wp2_with fail
        go_ret
        exact ⟨by rw [HST.out]; simp [h1], k⟩
    · go_wp2_with fail
      go_ret
      exact ⟨by rw [HST.out]; simp, k⟩
end Go.Proofs.Ytjfkjohocopcgaa
