/- The last ones of their spans: retain.ends. -/
import Derived.Test.YtjfkjohocopcgaaLater
import Derived.Deep.CutBlock
namespace Go.Proofs.Ytjfkjohocopcgaa
open Go.RowKit Go.Maps

/-- A snapshot's span. -/
def tq (p : Pol) (x : Snp) : Int := x.2 / p.span
def spanS (p : Pol) (l : List Snp) : List Int := l.foldl (fun S x => addS S (tq p x)) []
/-- From behind: the spans that were seen, the numbers of those that are told. -/
def scan (p : Pol) (Sp : List Int) : List Snp → List Int × List Int
  | [] => ([], [])
  | x :: l => if (scan p Sp l).1.contains (tq p x) then scan p Sp l else
      (addS (scan p Sp l).1 (tq p x), if (laterN Sp (tq p x) : Int) < p.spans then addS (scan p Sp l).2 x.1 else (scan p Sp l).2)
def endsS (p : Pol) (l : List Snp) : List Int := if p.span = 0 then [] else (scan p (spanS p l) l).2

theorem scanSeen {p : Pol} {Sp : List Int} {x : Snp} {l : List Snp} (h : (scan p Sp l).1.contains (tq p x) = true) : scan p Sp (x :: l) = scan p Sp l := by rw [scan, if_pos h]
theorem scanIn {p : Pol} {Sp : List Int} {x : Snp} {l : List Snp} (h : (scan p Sp l).1.contains (tq p x) = false) (hl : (laterN Sp (tq p x) : Int) < p.spans) : scan p Sp (x :: l) = (addS (scan p Sp l).1 (tq p x), addS (scan p Sp l).2 x.1) := by
  rw [scan, if_neg (by rw [h]; simp), if_pos hl]
theorem scanOut {p : Pol} {Sp : List Int} {x : Snp} {l : List Snp} (h : (scan p Sp l).1.contains (tq p x) = false) (hl : ¬ (laterN Sp (tq p x) : Int) < p.spans) : scan p Sp (x :: l) = (addS (scan p Sp l).1 (tq p x), (scan p Sp l).2) := by
  rw [scan, if_neg (by rw [h]; simp), if_neg hl]

/-- Bounds: what a list of snapshots that may be has. -/
def Tame (l : List Snp) : Prop := ∀ x ∈ l, 0 ≤ x.1 ∧ x.1 ≤ 2147483647 ∧ 0 ≤ x.2 ∧ x.2 ≤ 2147483647
theorem tame_of : ∀ {l : List Snp} {prev : Int}, 0 ≤ prev → soundB prev l = true → Tame l
  | [], _, _, _ => fun x hx => by cases hx
  | y :: l, prev, h0, h => by
    simp only [soundB, Bool.and_eq_true, decide_eq_true_iff] at h
    intro x hx
    rcases List.mem_cons.1 hx with rfl | hx
    · omega
    · exact tame_of (by omega) h.2 x hx

theorem spanS_take (p : Pol) (l : List Snp) (j : Nat) (hj : j < l.length) : spanS p (l.take (j + 1)) = addS (spanS p (l.take j)) (tq p l[j]) := by
  unfold spanS
  rw [List.take_succ_eq_append_getElem hj, List.foldl_append]
  rfl
theorem addS_length (S : List Int) (x : Int) : (addS S x).length ≤ S.length + 1 := by
  unfold addS
  split
  · omega
  · simp
theorem spanS_length (p : Pol) (l : List Snp) : (spanS p l).length ≤ l.length := by
  have h : ∀ (l : List Snp) (S : List Int), (l.foldl (fun S x => addS S (tq p x)) S).length ≤ S.length + l.length := by
    intro l
    induction l with
    | nil => intro S; simp
    | cons x l ih =>
      intro S
      have := ih (addS S (tq p x))
      have := addS_length S (tq p x)
      simp only [List.foldl_cons, List.length_cons]
      omega
  simpa [spanS] using h l []

theorem drew_chg {S : Nat → Prop} {w w' : World} (h : Chg S w.drew w') : Chg S w w' := ⟨h.os, h.tape, h.output, h.size, h.block⟩

/-- The blocks of a running 'ends'. -/
structure EnvE (w wr : World) (la sp ss : Int) (m : Nat) (Sp seen out : List Int) : Prop where
  hP : Blk wr w.heap.size 24 #[.int .i64 la, .int .i64 sp, .int .i64 ss]
  hV : Blk wr (w.heap.size + 1 + 1 + 1 + 1) 46 #[.map (some (w.heap.size + 1 + 1 + 1))]
  s7 : SetI wr (w.heap.size + 1 + 1 + 1) m Sp
  s6 : SetI wr (w.heap.size + 1 + 1) m seen
  s5 : SetI wr (w.heap.size + 1) m out
  chg : Chg (fun _ => False) w wr

section
variable {w wr w' : World} {la sp ss : Int} {m : Nat} {Sp seen out : List Int}
theorem EnvE.new_ (h : EnvE w wr la sp ss m Sp seen out) (k : Chg (fun _ => False) wr w') : EnvE w w' la sp ss m Sp seen out :=
  ⟨h.hP.chg k (fun h => h), h.hV.chg k (fun h => h), h.s7.chg k (fun h => h), h.s6.chg k (fun h => h), h.s5.chg k (fun h => h), h.chg.trans k (fun _ _ h => h)⟩
theorem EnvE.mono (h : EnvE w wr la sp ss m Sp seen out) {m' : Nat} (hm : m ≤ m') : EnvE w wr la sp ss m' Sp seen out :=
  ⟨h.hP, h.hV, h.s7.mono hm, h.s6.mono hm, h.s5.mono hm, h.chg⟩
theorem EnvE.put7 (h : EnvE w wr la sp ss m Sp seen out) {x : Int} (hs : SetI w' (w.heap.size + 1 + 1 + 1) (m + 1) (addS Sp x)) (k : Chg (fun k => k = w.heap.size + 1 + 1 + 1) wr w') : EnvE w w' la sp ss (m + 1) (addS Sp x) seen out :=
  ⟨h.hP.chg k (by omega), h.hV.chg k (by omega), hs, (h.s6.chg k (by omega)).mono (Nat.le_succ _), (h.s5.chg k (by omega)).mono (Nat.le_succ _), h.chg.trans k (fun k hk he => by omega)⟩
theorem EnvE.put6 (h : EnvE w wr la sp ss m Sp seen out) {x : Int} (hs : SetI w' (w.heap.size + 1 + 1) (m + 1) (addS seen x)) (k : Chg (fun k => k = w.heap.size + 1 + 1) wr w') : EnvE w w' la sp ss (m + 1) Sp (addS seen x) out :=
  ⟨h.hP.chg k (by omega), h.hV.chg k (by omega), (h.s7.chg k (by omega)).mono (Nat.le_succ _), hs, (h.s5.chg k (by omega)).mono (Nat.le_succ _), h.chg.trans k (fun k hk he => by omega)⟩
theorem EnvE.put5 (h : EnvE w wr la sp ss m Sp seen out) {x : Int} (hs : SetI w' (w.heap.size + 1) (m + 1) (addS out x)) (k : Chg (fun k => k = w.heap.size + 1) wr w') : EnvE w w' la sp ss (m + 1) Sp seen (addS out x) :=
  ⟨h.hP.chg k (by omega), h.hV.chg k (by omega), (h.s7.chg k (by omega)).mono (Nat.le_succ _), (h.s6.chg k (by omega)).mono (Nat.le_succ _), hs, h.chg.trans k (fun k hk he => by omega)⟩
theorem EnvE.start (w : World) (la sp ss : Int) : EnvE w (((((w.alloc (.cells #[.int .i64 la, .int .i64 sp, .int .i64 ss] 24)).alloc (.map #[] 0)).alloc (.map #[] 0)).alloc (.map #[] 0)).alloc (.cells #[.map (some (w.heap.size + 1 + 1 + 1))] 46)) la sp ss 0 [] [] [] := by
  have e1 : ∀ o : Obj, (w.alloc o).heap.size = w.heap.size + 1 := fun o => by simp
  have e2 : ∀ o o' : Obj, ((w.alloc o).alloc o').heap.size = w.heap.size + 1 + 1 := fun o o' => by simp
  have e3 : ∀ o o' o'' : Obj, (((w.alloc o).alloc o').alloc o'').heap.size = w.heap.size + 1 + 1 + 1 := fun o o' o'' => by simp
  have e4 : ∀ o o' o'' o3 : Obj, ((((w.alloc o).alloc o').alloc o'').alloc o3).heap.size = w.heap.size + 1 + 1 + 1 + 1 := fun o o' o'' o3 => by simp
  have c : ∀ (a : World) (o : Obj), Chg (fun _ => False) a (a.alloc o) := fun a o => (Chg.refl _ a).alloc o
  refine ⟨((((Blk.new w 24 _).alloc _).alloc _).alloc _).alloc _, ?_, ?_, ?_, ?_, ((((Chg.refl _ w).alloc _).alloc _).alloc _).alloc _ |>.alloc _⟩
  · have := Blk.new ((((w.alloc (.cells #[.int .i64 la, .int .i64 sp, .int .i64 ss] 24)).alloc (.map #[] 0)).alloc (.map #[] 0)).alloc (.map #[] 0)) 46 #[.map (some (w.heap.size + 1 + 1 + 1))]
    rwa [e4] at this
  · have := SetI.made (((w.alloc (.cells #[.int .i64 la, .int .i64 sp, .int .i64 ss] 24)).alloc (.map #[] 0)).alloc (.map #[] 0))
    rw [e3] at this
    exact this.chg (c _ _) (fun h => h)
  · have := SetI.made ((w.alloc (.cells #[.int .i64 la, .int .i64 sp, .int .i64 ss] 24)).alloc (.map #[] 0))
    rw [e2] at this
    exact (this.chg (c _ _) (fun h => h)).chg (c _ _) (fun h => h)
  · have := SetI.made (w.alloc (.cells #[.int .i64 la, .int .i64 sp, .int .i64 ss] 24))
    rw [e1] at this
    exact ((this.chg (c _ _) (fun h => h)).chg (c _ _) (fun h => h)).chg (c _ _) (fun h => h)
end

set_option maxRecDepth 100000 in
set_option maxHeartbeats 800000 in
theorem ends_any {D : Nat → Prop} {w : World} {A : Option Addr} {l : List Snp} {c : Nat} (h : Snaps D w A l) (hl : l.length ≤ 1000) (ht : Tame l) (p : Pol) (hp : p.ok = true) :
    Calls Try.prog 28 #[.slice A l.length c, p.v] w fun e w' => ∃ b m, e = .returned (.map (some b)) ∧ SetI w' b m (endsS p l) ∧ w.heap.size ≤ b ∧ Chg (fun _ => False) w w' := by
  obtain ⟨la, sp, ss⟩ := p
  simp only [Pol.ok, Bool.and_eq_true, decide_eq_true_iff] at hp
  obtain ⟨⟨⟨p1, p2⟩, p3, p4⟩, p5, p6⟩ := hp
  have hmm := @run_makeMap Try.prog
  have hb := pol_cells w ⟨la, sp, ss⟩
  simp only at hb
  have cal : ∀ o1 o2, (((w.alloc (.cells #[.int .i64 la, .int .i64 sp, .int .i64 ss] 24)).alloc o1).alloc o2).cell? ⟨w.heap.size, 1, none⟩ = some (.int .i64 sp) := fun o1 o2 => by
    rw [((hb.alloc o1).alloc o2).cell]; rfl
  unfold Pol.v
  by_cases h0 : sp = 0
  · subst h0
    go_enter Try.func28, Try.ntmps28
    go_wp2_with fail
    go_ret
    refine ⟨_, 0, rfl, ?_, ?_, ((Chg.refl _ w).alloc _).alloc _ |>.alloc _⟩
    · show SetI _ _ 0 []
      have := (SetI.made (w.alloc (.cells #[.int .i64 la, .int .i64 0, .int .i64 ss] 24))).chg ((Chg.refl (fun _ => False) _).alloc (.map #[] 0)) (fun h => h)
      simpa using this
    · simp
  · have e0 : (sp == 0) = false := by simpa using h0
    go_enter Try.func28, Try.ntmps28
    go_wp2_with fail
    have hE0 := EnvE.start w la sp ss
    clear hb cal hmm
    go_loopg [24] l.length (fun k i wr => ∃ j : Nat, (j + k ≤ l.length ∧ l.length ≤ j + k) ∧ i = .int .i64 (j : Int) ∧ EnvE w wr la sp ss j (spanS ⟨la, sp, ss⟩ (l.take j)) [] [])
    case atStart => exact ⟨0, ⟨by omega, by omega⟩, rfl, hE0⟩
    case round =>
      obtain ⟨j, ⟨hj1, hj2⟩, rfl, hE⟩ := hrel
      by_cases hj : j < l.length
      · obtain ⟨ad, rfl, had, c1, c2⟩ := Snaps.at_ (D := D) (w := wr) (A := A) (l := l) (h.chg hE.chg (fun _ _ h => h)) hj
        have htj := ht l[j] (List.getElem_mem hj)
        have hst := Lib.hid (spanS_take ⟨la, sp, ss⟩ l j hj)
        generalize l[j] = x at c1 c2 htj hst
        obtain ⟨n, t⟩ := x
        simp only at c1 c2 htj
        go_wp2_with fail
        have hE1 := hE.new_ ((Chg.refl (fun _ => False) wr).alloc (.cells #[.int .i64 n, .int .i64 t] 37))
        have hB := Blk.new wr 37 #[.int .i64 n, .int .i64 t]
        have v0 := hE1.hV.cell 0
        have v1 := hB.cell 1
        have v2 := hE1.hP.cell 1
        simp only [List.getElem?_toArray] at v0 v1 v2
        have hq1 : 0 ≤ t / sp := Int.ediv_nonneg (by omega) (by omega)
        have hq2 : t / sp ≤ t := Int.ediv_le_self _ (by omega)
        have hqe : t.tdiv sp = t / sp := Int.tdiv_eq_ediv_of_nonneg (by omega)
        have hjm : j < maxLen := by unfold maxLen; omega
        have hq3 : -9223372036854775808 ≤ t / sp := by omega
        have hq4 : t / sp ≤ 9223372036854775807 := by omega
        have hw1 : IntKind.i64.wrap (t / sp) = t / sp := by rw [IntKind.wrap_i64]; omega
        obtain ⟨w2, hrun, hs2, k2⟩ := set_put_run (hE1.s7.chg (T := fun _ => False) ((Chg.refl _ _).drew) (fun h => h)) hjm hq3 hq4
        have hE2 := Lib.hid (hE1.put7 hs2 (drew_chg k2))
        clear hs2 k2 hq3 hq4
        go_region_law (fail)
        all_goals (clear hw1 hrun; go_wp2_with fail)
        all_goals
          go_roundg (gk - 1)
          case measure => omega
          case rel => exact ⟨j + 1, ⟨by omega, by omega⟩, by go_num, by rw [hst.out]; exact hE2.out⟩
      · obtain rfl : j = l.length := by omega
        rw [List.take_length] at hE
        go_wp2_with fail
        have hsl := spanS_length ⟨la, sp, ss⟩ l
        generalize hSp : spanS ⟨la, sp, ss⟩ l = Sp at *
        have hgoal : endsS ⟨la, sp, ss⟩ l = (scan ⟨la, sp, ss⟩ Sp l).2 := by unfold endsS; rw [if_neg (by exact h0), hSp]
        have hG := Lib.hid hgoal
        clear hgoal hSp
        go_loopg [11] l.length (fun k i wr => k ≤ l.length ∧ ((∃ r : Nat, k = r + 1 ∧ i = .int .i64 (r : Int)) ∨ (k = 0 ∧ i = .int .i64 (-1))) ∧ EnvE w wr la sp ss (l.length + 2 * (l.length - k)) Sp (scan ⟨la, sp, ss⟩ Sp (l.drop k)).1 (scan ⟨la, sp, ss⟩ Sp (l.drop k)).2)
        case atStart =>
          refine ⟨Nat.le_refl _, ?_, by rw [List.drop_length, Nat.sub_self]; exact hE⟩
          rcases Nat.eq_zero_or_pos l.length with h1 | h1
          · exact .inr ⟨h1, by rw [h1]; rfl⟩
          · exact .inl ⟨l.length - 1, by omega, by congr 1; omega⟩
        case round =>
          obtain ⟨hk, hi, hE⟩ := hrel
          rcases hi with ⟨r, rfl, rfl⟩ | ⟨rfl, rfl⟩
          · have hr : r < l.length := by omega
            obtain ⟨ad, rfl, had, c1w, c2w⟩ := Snaps.at_ (D := D) (w := w) (A := A) (l := l) h hr
            have htj := ht l[r] (List.getElem_mem hr)
            have hsc : scan ⟨la, sp, ss⟩ Sp (l.drop r) = scan ⟨la, sp, ss⟩ Sp (l[r] :: l.drop (r + 1)) := by rw [List.drop_eq_getElem_cons hr]
            generalize l[r] = x at c1w c2w htj hsc
            obtain ⟨n, t⟩ := x
            simp only at c1w c2w htj
            have c1 := hE.chg.cell c1w (fun h => h)
            have c2 := hE.chg.cell c2w (fun h => h)
            have HC := Lib.hid c1w
            clear c1w c2w
            have v1 := hE.hP.cell 1
            have v2 := hE.hP.cell 2
            simp only [List.getElem?_toArray] at v1 v2
            have hq1 : 0 ≤ t / sp := Int.ediv_nonneg (by omega) (by omega)
            have hq2 : t / sp ≤ t := Int.ediv_le_self _ (by omega)
            have hq3 : -9223372036854775808 ≤ t / sp := by omega
            have hq4 : t / sp ≤ 9223372036854775807 := by omega
            have hw1 : IntKind.i64.wrap (t / sp) = t / sp := by rw [IntKind.wrap_i64]; omega
            have hri : (r : Int) < (l.length : Int) := by omega
            have HS := Lib.hid hsc
            clear hsc
            go_wp2_with fail
            go_quiet (fail)
            clear hw1
            have hE1 := hE.new_ (((Chg.refl (fun _ => False) wr).drewN nq).alloc (.cells #[] 48))
            have hml : l.length + 2 * (l.length - (r + 1)) < maxLen := by unfold maxLen; omega
            have hml2 : l.length + 2 * (l.length - (r + 1)) + 1 < maxLen := by unfold maxLen; omega
            have hix : (∃ r' : Nat, r = r' + 1 ∧ Value.int .i64 ((r : Int) - 1) = Value.int .i64 (r' : Int)) ∨ (r = 0 ∧ Value.int .i64 ((r : Int) - 1) = Value.int .i64 (-1)) := by
              rcases r with _ | r'
              · exact .inr ⟨rfl, rfl⟩
              · exact .inl ⟨r', rfl, by congr 1; omega⟩
            have HI := Lib.hid hix
            clear hix
            have hle : r ≤ l.length := by omega
            rcases hcn : (scan ⟨la, sp, ss⟩ Sp (l.drop (r + 1))).1.contains (t / sp) with _ | _
            · have HN := Lib.hid hcn
              clear hcn
              go_wp2_with (first | (at_lookup; refine wpList_look rfl (.tmp 53) (.tmp 54) rfl rfl (x := t / sp) rfl (hE.s6.drewN _) hq3 hq4 ?_; rw [HN.out]) | (at_mapUpdate; refine wpList_put rfl (.tmp 59) (.tmp 60) (.tmp 61) rfl rfl (x := t / sp) rfl rfl hE1.s6 hml hq3 hq4 ?_; intro w2 hs2 k2; have hE2 := hE1.put6 hs2 k2))
              have c2' := hE2.hP.cell 2
              simp only [List.getElem?_toArray] at c2'
              go_region_held3 (fun w' => w'.cell? ⟨w.heap.size, 2, none⟩ = some (.int .i64 ss)) (first | go_keep | exact c3') (first | (go_at_call 31; refine (later_any (hE2.hV.drewN _) (hE2.s7.drewN _) (by omega) (t / sp)).mono ?_; rintro e w3 ⟨rfl, k3⟩; have hE3 := hE2.new_ (((Chg.refl (fun _ => False) w2).drewN _).trans k3 (fun _ _ h => h)); have c3' := hE3.hP.cell 2; simp only [List.getElem?_toArray] at c3'))
              by_cases hlt : (laterN Sp (t / sp) : Int) < ss
              · have H0 := Lib.hid (HS.out.trans (scanIn (p := ⟨la, sp, ss⟩) (x := (n, t)) HN.out hlt))
                have hn1 : -9223372036854775808 ≤ n := by omega
                have hn2 : n ≤ 9223372036854775807 := by omega
                have c13 := hE3.chg.cell HC.out (fun h => h)
                go_wp2_with (first | (at_mapUpdate; refine wpList_put rfl (.tmp 68) (.tmp 73) (.tmp 74) rfl rfl (x := n) rfl rfl hE3.s5 hml2 hn1 hn2 ?_; intro w4 hs4 k4; have hE4 := hE3.put5 hs4 k4))
                go_roundg r
                case measure => omega
                case rel => exact ⟨hle, HI.out, by rw [H0.out]; exact hE4.mono (by omega)⟩
              · have H0 := Lib.hid (HS.out.trans (scanOut (p := ⟨la, sp, ss⟩) (x := (n, t)) HN.out hlt))
                go_wp2_with fail
                go_roundg r
                case measure => omega
                case rel => exact ⟨hle, HI.out, by rw [H0.out]; exact hE3.mono (by omega)⟩
            · have HN := Lib.hid hcn
              have H0 := Lib.hid (HS.out.trans (scanSeen (p := ⟨la, sp, ss⟩) (x := (n, t)) hcn))
              clear hcn HS
              go_wp2_with (first | (at_lookup; refine wpList_look rfl (.tmp 53) (.tmp 54) rfl rfl (x := t / sp) rfl (hE.s6.drewN _) hq3 hq4 ?_; rw [HN.out]))
              go_roundg r
              case measure => omega
              case rel => exact ⟨hle, HI.out, by rw [H0.out]; exact hE1.mono (by omega)⟩
          · go_wp2_with fail
            go_ret
            exact ⟨_, l.length + 2 * (l.length - 0), rfl, by rw [hG.out]; exact hE.s5, by omega, hE.chg⟩
end Go.Proofs.Ytjfkjohocopcgaa
