/- RetainMore, walked. -/
import Derived.Test.YtjfkjohocopcgaaMoreLaw
import Derived.Test.YtjfkjohocopcgaaLeft
import Derived.Deep.CutBlock
namespace Go.Proofs.Ytjfkjohocopcgaa
open Go.RowKit Go.Maps

def capI (x : Int) : Int := if 64 < x then 64 else x
theorem capI_hi {x : Int} (h : 64 < x) : capI x = 64 := if_pos h
theorem capI_lo {x : Int} (h : x ≤ 64) : capI x = x := if_neg (by omega)
/-- The greater policy. -/
def moreP (p : Pol) (la ss : Int) : Pol := ⟨capI (IntKind.i64.wrap (p.last + pickI la 65)), p.span, capI (IntKind.i64.wrap (p.spans + pickI ss 65))⟩
theorem moreP_ge {p : Pol} (hp : p.ok = true) (la ss : Int) : p.last ≤ (moreP p la ss).last ∧ (moreP p la ss).span = p.span ∧ p.spans ≤ (moreP p la ss).spans ∧ (moreP p la ss).ok = true := by
  simp only [Pol.ok, Bool.and_eq_true, decide_eq_true_iff] at hp
  obtain ⟨⟨⟨p1, p2⟩, p3, p4⟩, p5, p6⟩ := hp
  obtain ⟨x1, x2⟩ := pickI_in (x := la) (n := 65) (by omega)
  obtain ⟨y1, y2⟩ := pickI_in (x := ss) (n := 65) (by omega)
  have e1 : IntKind.i64.wrap (p.last + pickI la 65) = p.last + pickI la 65 := by rw [IntKind.wrap_i64]; omega
  have e2 : IntKind.i64.wrap (p.spans + pickI ss 65) = p.spans + pickI ss 65 := by rw [IntKind.wrap_i64]; omega
  simp only [moreP, e1, e2, Pol.ok, Bool.and_eq_true, decide_eq_true_iff, capI]
  refine ⟨?_, trivial, ?_, ⟨⟨?_, ?_⟩, ?_, ?_⟩, p5, p6⟩ <;> split <;> omega

theorem Snaps.chg {D S : Nat → Prop} {w w' : World} {A : Option Addr} {l : List Snp} (h : Snaps D w A l) (hw : Chg S w w') (hd : ∀ k, D k → ¬ S k) : Snaps D w' A l := RdC.chg h hw hd
theorem toldL_le (p : Pol) (l : List Snp) (st : Bool) : (toldL p l st).length ≤ l.length := by
  unfold toldL
  split
  · exact numsJ_le p l st _
  · simp
theorem toldCode_ok {p : Pol} {l : List Snp} (hp : p.ok = true) (hs : soundB 0 l = true) : toldCode p l = 0 := by simp [toldCode, hp, hs]
theorem toldL_ok {p : Pol} {l : List Snp} (hp : p.ok = true) (hs : soundB 0 l = true) (st : Bool) : toldL p l st = numsJ p l st l.length := by simp [toldL, toldCode_ok hp hs]
theorem Stay_ok {D : Nat → Prop} {w : World} {A : Option Addr} {l : List Snp} {c : Nat} (h : Snaps D w A l) (hl : l.length ≤ 1000) (hs : soundB 0 l = true) (a b d : Int) (hp : Pol.ok ⟨a, b, d⟩ = true) :
    Calls Try.prog 13 #[.slice A l.length c, .agg #[.int .i64 a, .int .i64 b, .int .i64 d]] w fun e w' => ∃ v, e = .returned (.tuple #[v, .int .i64 0]) ∧ OwnI w w' v (numsJ ⟨a, b, d⟩ l true l.length) ∧ Chg (fun _ => False) w w' := by
  have := Stay_any (c := c) h hl ⟨a, b, d⟩
  rw [toldCode_ok hp hs, toldL_ok hp hs] at this
  exact this
theorem check_ok (a b d : Int) (w : World) (hp : Pol.ok ⟨a, b, d⟩ = true) : Calls Try.prog 12 #[.agg #[.int .i64 a, .int .i64 b, .int .i64 d]] w fun e w' => e = .returned (.int .i64 0) ∧ Chg (fun _ => False) w w' := by
  have := check_any ⟨a, b, d⟩ w
  rw [show Pol.code ⟨a, b, d⟩ = 0 by simp [Pol.code, hp]] at this
  exact this
theorem check_no (a b d : Int) (w : World) (hp : Pol.ok ⟨a, b, d⟩ = false) : Calls Try.prog 12 #[.agg #[.int .i64 a, .int .i64 b, .int .i64 d]] w fun e w' => e = .returned (.int .i64 5) ∧ Chg (fun _ => False) w w' := by
  have := check_any ⟨a, b, d⟩ w
  rw [show Pol.code ⟨a, b, d⟩ = 5 by simp [Pol.code, hp]] at this
  exact this

set_option maxRecDepth 100000 in
set_option maxHeartbeats 1600000 in
theorem retainMore_any {w : World} {A : Option Addr} {l : List Snp} {c : Nat} (h : Snaps (fun b => b < w.heap.size) w A l) (hl : l.length ≤ 9223372036854775807) (p : Pol) (la ss : Int) :
    Calls Try.prog 3 #[.slice A l.length c, p.v, .int .i64 la, .int .i64 ss] w fun e w' => e = .returned (.bool true) ∧ Chg (fun _ => False) w w' := by
  have hge := Lib.hid (fun hp => moreP_ge (p := p) hp la ss)
  have hml := Lib.hid (fun (q : Pol) h0 h1 h2 h3 n hn => more_mem (p := p) (q := q) (l := l) (prev := 0) h0 h1 h2 h3 (n := n) hn)
  obtain ⟨pl, ps, pss⟩ := p
  unfold Pol.v
  have hB := Blk.new w 24 #[.int .i64 pl, .int .i64 ps, .int .i64 pss]
  have k0 : Chg (fun _ => False) w (w.alloc (.cells #[.int .i64 pl, .int .i64 ps, .int .i64 pss] 24)) := (Chg.refl _ w).alloc _
  go_enter Try.func3, Try.ntmps3
  go_wp2_with (first | (go_at_call 9; refine (awake_any _).mono ?_; rintro e w1 ⟨rfl, k1⟩; have hB1 := hB.chg k1 (fun h => h); have u0 := hB1.cell 0; have u1 := hB1.cell 1; have u2 := hB1.cell 2; simp only [List.getElem?_toArray] at u0 u1 u2))
  obtain ⟨x1, x2⟩ := pickI_in (x := la) (n := 65) (by omega)
  obtain ⟨y1, y2⟩ := pickI_in (x := ss) (n := 65) (by omega)
  have hk1 := hB1.alloc (.cells #[.int .i64 pl, .int .i64 ps, .int .i64 pss] 24)
  have hQ := Blk.new w1 24 #[.int .i64 pl, .int .i64 ps, .int .i64 pss]
  have z0 := hk1.cell 0
  have z2 := hk1.cell 2
  have q0 := hQ.cell 0
  have q2 := hQ.cell 2
  have f0 := hQ.frozen
  simp only [List.getElem?_toArray] at z0 z2 q0 q2
  obtain ⟨X, hX⟩ : ∃ X, IntKind.i64.wrap (pl + pickI la 65) = X := ⟨_, rfl⟩
  obtain ⟨Z, hZ⟩ : ∃ Z, IntKind.i64.wrap (pss + pickI ss 65) = Z := ⟨_, rfl⟩
  have hmp : moreP ⟨pl, ps, pss⟩ la ss = ⟨capI X, ps, capI Z⟩ := by rw [← hX, ← hZ]; rfl
  have HMP := Lib.hid hmp
  clear hmp
  go_cut [] (fun w2 => Blk w2 w1.heap.size 24 #[.int .i64 (capI X), .int .i64 ps, .int .i64 (capI Z)] ∧ Blk w2 w.heap.size 24 #[.int .i64 pl, .int .i64 ps, .int .i64 pss] ∧ Chg (fun _ => False) w w2)
  case first =>
    have hlt := hB1.lt
    have hne : ¬ w.heap.size = w1.heap.size := by omega
    have hne2 : ¬ w1.heap.size = w.heap.size := by omega
    by_cases hX6 : 64 < X
    all_goals by_cases hZ6 : 64 < Z
    all_goals try have hX7 : X ≤ 64 := by omega
    all_goals try have hZ7 : Z ≤ 64 := by omega
    all_goals
      go_region_held3 (fun w' => w'.cell? ⟨w.heap.size, 0, none⟩ = some (.int .i64 pl) ∧ w'.cell? ⟨w.heap.size, 2, none⟩ = some (.int .i64 pss)) (go_keep) (first | (go_at_call 10; refine (pick_any _ (by omega) (by omega)).mono ?_; rintro e w' ⟨rfl, rfl⟩))
      all_goals go_wp2_with fail
      all_goals go_meet
      all_goals (rw [show capI X = _ from by first | exact capI_hi (by assumption) | exact capI_lo (by assumption), show capI Z = _ from by first | exact capI_hi (by assumption) | exact capI_lo (by assumption)])
      all_goals exact ⟨Blk.new _ _ _, hB1.alloc _, (k0.trans k1 (fun _ _ h => h)).trans ((Chg.refl _ w1).alloc _).drew (fun _ _ h => h)⟩
  case rest =>
    obtain ⟨hQ2, hP2, k2⟩ := hcut
    clear u0 u1 u2 z0 z2 q0 q2 f0 hk1 hQ hB hX hZ
    generalize capI X = QX at *
    generalize capI Z = QZ at *
    have v0 := hP2.cell 0
    have v1 := hP2.cell 1
    have v2 := hP2.cell 2
    simp only [List.getElem?_toArray] at v0 v1 v2
    by_cases h100 : l.length ≤ 100
    · rcases hs : soundB 0 l with _ | _
      · have HS := Lib.hid hs
        clear hs
        go_wp2_with (first | (go_at_call 11; refine (sound_any (h.chg k2 (fun _ _ h => h)) hl).mono ?_; rintro e w3 ⟨rfl, k3⟩; rw [HS.out]))
        go_ret
        exact ⟨rfl, k2.trans k3 (fun _ _ h => h)⟩
      · have HS := Lib.hid hs
        rcases hp : Pol.ok ⟨pl, ps, pss⟩ with _ | _
        · have HP := Lib.hid hp
          clear hs hp
          go_wp2_with (first
            | (go_at_call 11; refine (sound_any (h.chg k2 (fun _ _ h => h)) hl).mono ?_; rintro e w3 ⟨rfl, k3⟩; rw [HS.out]; have y0 := (hP2.chg k3 (fun h => h)).cell 0; have y1 := (hP2.chg k3 (fun h => h)).cell 1; have y2 := (hP2.chg k3 (fun h => h)).cell 2; simp only [List.getElem?_toArray] at y0 y1 y2)
            | (go_at_call 12; refine (check_no _ _ _ _ HP.out).mono ?_; rintro e w4 ⟨rfl, k4⟩))
          go_ret
          exact ⟨rfl, (k2.trans k3 (fun _ _ h => h)).trans k4 (fun _ _ h => h)⟩
        · have HP := Lib.hid hp
          clear hs hp
          have HG := Lib.hid (hge.out HP.out)
          have HQ : Hid (Pol.ok ⟨QX, ps, QZ⟩ = true) := Lib.hid (by have := HG.out.2.2.2; rwa [HMP.out] at this)
          go_wp2_with (first
            | (go_at_call 11; refine (sound_any (h.chg k2 (fun _ _ h => h)) hl).mono ?_; rintro e w3 ⟨rfl, k3⟩; rw [HS.out]; have y0 := (hP2.chg k3 (fun h => h)).cell 0; have y1 := (hP2.chg k3 (fun h => h)).cell 1; have y2 := (hP2.chg k3 (fun h => h)).cell 2; simp only [List.getElem?_toArray] at y0 y1 y2)
            | (go_at_call 12; refine (check_ok _ _ _ _ HP.out).mono ?_; rintro e w4 ⟨rfl, k4⟩; have k34 := k3.trans k4 (fun _ _ h => h); have z0 := (hP2.chg k34 (fun h => h)).cell 0; have z1 := (hP2.chg k34 (fun h => h)).cell 1; have z2 := (hP2.chg k34 (fun h => h)).cell 2; simp only [List.getElem?_toArray] at z0 z1 z2)
            | (go_at_call 13; with_reducible refine (Stay_ok (h.chg (k2.trans k34 (fun _ _ h => h)) (fun _ _ h => h)) (by omega) HS.out pl ps pss HP.out).mono ?_; rintro e w5 ⟨va, rfl, hO5, k5⟩; have k35 := k34.trans k5 (fun _ _ h => h); have q0 := (hQ2.chg k35 (fun h => h)).cell 0; have q1 := (hQ2.chg k35 (fun h => h)).cell 1; have q2 := (hQ2.chg k35 (fun h => h)).cell 2; simp only [List.getElem?_toArray] at q0 q1 q2)
            | (go_at_call 13; with_reducible refine (Stay_ok (h.chg (k2.trans k35 (fun _ _ h => h)) (fun _ _ h => h)) (by omega) HS.out QX ps QZ HQ.out).mono ?_; rintro e w6 ⟨vb, rfl, hO6, k6⟩; have hO5' := hO5.new_ k6; obtain ⟨Aa, ca, rfl, hca, hma⟩ := own_shape hO5'.row; obtain ⟨Ab, cb, rfl, hcb, hmb⟩ := own_shape hO6.row))
          have hNa := hO5'.nums.2
          have hNb := hO6.nums.2
          have hla := numsJ_le ⟨pl, ps, pss⟩ l true l.length
          have hlb := numsJ_le ⟨QX, ps, QZ⟩ l true l.length
          have hin := Lib.hid (fun n hn => hml.out ⟨QX, ps, QZ⟩ HS.out (by have := HG.out.1; rwa [HMP.out] at this) rfl (by have := HG.out.2.2.1; rwa [HMP.out] at this) n hn)
          have k06 := (k2.trans k35 (fun _ _ h => h)).trans k6 (fun _ _ h => h)
          generalize numsJ ⟨pl, ps, pss⟩ l true l.length = ta at *
          generalize numsJ ⟨QX, ps, QZ⟩ l true l.length = tb at *
          go_loopg [15] ta.length (fun k i wr => ∃ j : Nat, (j + k ≤ ta.length ∧ ta.length ≤ j + k) ∧ i = .int .i64 (j : Int) ∧ wr = w6)
          case atStart => exact ⟨0, ⟨by omega, by omega⟩, rfl, rfl⟩
          case round =>
            obtain ⟨j, ⟨hj1, hj2⟩, rfl, rfl⟩ := hrel
            by_cases hj : j < ta.length
            · obtain ⟨ad, rfl, _, c1⟩ := nums_at hNa hj
              have hc : tb.contains ta[j] = true := by simpa using hin.out _ (List.getElem_mem hj)
              have HC := Lib.hid hc
              clear hc
              generalize ta[j] = n at c1 HC
              have hji : (j : Int) < (ta.length : Int) := by omega
              go_wp2_with (go_at_call 14; refine (among_any hNb (by omega) _).mono ?_; rintro e w' ⟨rfl, rfl⟩; rw [HC.out])
              go_roundg (gk - 1)
              case measure => omega
              case rel => exact ⟨j + 1, ⟨by omega, by omega⟩, by go_num, rfl⟩
            · go_wp2_with fail
              go_ret
              exact ⟨rfl, k06⟩
    · go_wp2_with fail
      go_ret
      exact ⟨rfl, k2⟩
end Go.Proofs.Ytjfkjohocopcgaa
