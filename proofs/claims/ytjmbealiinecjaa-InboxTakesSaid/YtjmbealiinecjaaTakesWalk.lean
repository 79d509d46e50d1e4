/- The law InboxTakes, walked. -/
import Derived.Test.YtjmbealiinecjaaTakesBase
import Derived.Test.YtjmbealiinecjaaCame
import Derived.Deep.CutBlock
namespace Go.Proofs.Ytjmbealiinecjaa
open Go.RowKit

/-- A world in which only new blocks have come. -/
structure Calm (w0 : World) where
  w : World
  chg : Chg (fun _ => False) w0 w

instance (w0 : World) : Inhabited (Calm w0) := ⟨⟨w0, Chg.refl _ _⟩⟩

theorem wp_region_calm {P : Program} {id : Nat} {Q : Exit → Act → World → Prop} {a : Act} {w : World} {l : List Oper} (hm : P.follows .mixedOrders = true) (hB : Region.lexB .any l.toArray = true)
    (h : wpQuiet P l.toArray (fun w' => ∃ x : Calm w, w' = x.w) (fun a' => ∀ w', (∃ x : Calm w, w' = x.w) → Q .normal a' w') l a) : (Code.region id l.toArray true).wp P Q a w :=
  wp_region_quiet (C := fun w' => ∃ x : Calm w, w' = x.w) hm hB ⟨⟨w.drew, (Chg.refl _ w).drew⟩, rfl⟩ (by simpa using h)

theorem calm {P : Program} {f : FuncId} {args : Array Value} {w0 : World} {x : Calm w0} {v : Value} (h : Calls P f args x.w fun e w' => e = .returned v ∧ Chg (fun _ => False) x.w w') :
    Calls P f args x.w fun e w' => e = .returned v ∧ ∃ y : Calm w0, w' = y.w :=
  h.mono fun _ w' ⟨he, hc⟩ => ⟨he, ⟨w', x.chg.trans hc (fun _ _ h => h)⟩, rfl⟩
theorem calm_same {P : Program} {f : FuncId} {args : Array Value} {w0 : World} {x : Calm w0} {v : Value} (h : Calls P f args x.w fun e w' => e = .returned v ∧ x.w = w') :
    Calls P f args x.w fun e w' => e = .returned v ∧ ∃ y : Calm w0, w' = y.w :=
  h.mono fun _ _ ⟨he, hc⟩ => ⟨he, x, hc.symm⟩
theorem calm_drew {P : Program} {f : FuncId} {args : Array Value} {w0 : World} {x : Calm w0} {v : Value} (h : Calls P f args x.w fun e w' => e = .returned v ∧ ∃ n, w' = x.w.drewN n) :
    Calls P f args x.w fun e w' => e = .returned v ∧ ∃ y : Calm w0, w' = y.w :=
  h.mono fun _ _ ⟨he, n, hc⟩ => ⟨he, ⟨_, x.chg.drewN n⟩, hc⟩

theorem rd_front {D : Nat → Prop} {w : World} {A : Option Addr} {bs cs : List UInt8} (h : Rd D w A (bs ++ cs)) : Rd D w A bs := fun hn => by
  obtain ⟨ad, e, hd, hc⟩ := h (by rw [bcs_length] at hn ⊢; simp; omega)
  refine ⟨ad, e, hd, fun j u hu => hc j u ?_⟩
  rw [show bcs (bs ++ cs) = bcs bs ++ bcs cs by simp [bcs], List.getElem?_append_left (List.getElem?_eq_some_iff.1 hu).1]
  exact hu

theorem After.new_ {W w w' : World} {X Y : Nat} {sz nx : Int} {G low : Nat} {bs : List UInt8} {vo vr : Value} {told outs : List (Value × List UInt8)} {f : Ring} {hs : List HeldR} {hv : Value} (h : After W w X Y sz G bs vo vr told outs nx f hs hv low) (k : Chg (fun _ => False) w w') :
    After W w' X Y sz G bs vo vr told outs nx f hs hv low :=
  ⟨h.base.new_ k, own_chg' h.rowT k (fun _ _ h => h), fun i x hx => (h.ownT i x hx).chg k (fun _ _ h => h), own_chg' h.rowO k (fun _ _ h => h), fun i x hx => (h.ownO i x hx).chg k (fun _ _ h => h), h.eq, h.lent.chg k (fun h => h), h.lentW, h.lentF, h.lentH, h.tW, h.tF, h.tH, h.few⟩

section
variable {W w : World} {X Y : Nat} {sz nx : Int} {G low : Nat} {bs : List UInt8} {AT AR AH : Option Addr} {cT cR cH : Nat} {vo vr : Value} {told outs : List (Value × List UInt8)} {f : Ring} {hs : List HeldR} {hv : Value}
theorem same_after (h : After W w X Y sz G bs (.slice AT told.length cT) (.slice AR outs.length cR) told outs nx f hs hv low) (hc : told.length ≤ cT) (hm : cT ≤ maxLen) :
    Calls Try.prog 15 #[.slice AT told.length cT, .slice AR outs.length cR] w fun e w' => e = .returned (.bool true) ∧ ∃ n, w' = w.drewN n := by
  have h1 := rdl_told h.rowT h.ownT
  have h2 := rdl_told h.rowO h.ownO
  have := sameLists (c := cT) (c' := cR) (by rw [List.length_map]; exact hc) hm h1 h2
  rw [List.length_map, List.length_map] at this
  refine this.mono ?_
  rintro e w' ⟨rfl, hn⟩
  exact ⟨by rw [h.eq]; simp, hn⟩
theorem held_after (h : After W w X Y sz G bs vo vr told outs nx f hs hv low) : Calls Try.prog 18 #[.pointer (some ⟨X, 0, none⟩)] w fun e w' => e = .returned (.int .i64 (hs.length : Int)) ∧ w = w' := by
  have := h.base.ibox.held_
  rw [h.base.same.count] at this
  exact this
theorem has_after (h : After W w X Y sz G bs vo vr told outs nx f hs hv low) (q : Int) (hq : q ≤ 9223372036854775807) :
    Calls Try.prog 19 #[.pointer (some ⟨X, 0, none⟩), .int .i64 q] w fun e w' => e = .returned (.bool (refHas nx hs q)) ∧ ∃ n, w' = w.drewN n := by
  have := h.base.ibox.has_ q hq
  rw [h.base.same.has h.base.ibox.win] at this
  exact this
theorem rhas_after (h : After W w X Y sz G bs vo vr told outs nx f hs hv low) (q : Int) : Calls Try.prog 20 #[.pointer (some ⟨Y, 0, none⟩), .int .i64 q] w fun e w' => e = .returned (.bool (refHas nx hs q)) ∧ w = w' :=
  rhas_any h.base.rbox (by have := h.base.same.count; have := cnt_le f; omega) q
end

theorem own_in {w : World} {G : Nat} {bs : List UInt8} (h : Blk w G 5 (bcs (padded bs)).toArray) (hl : bs.length + 3 ≤ maxLen) : OwnB 5 w (.slice (some ⟨G, 0, none⟩) bs.length (bs.length + 3)) bs :=
  .inr ⟨G, bs.length + 3, padded bs, rfl, h, padded_length bs, by simp [padded], hl, by omega⟩

/-- While what was told is written over. -/
structure Inner (W w : World) (X Y : Nat) (sz : Int) (vo : Value) (told : List (Value × List UInt8)) (nx : Int) (f : Ring) (hs : List HeldR) (hv : Value) (low : Nat) : Prop where
  base : TBase W w X Y sz nx f hs hv low
  rowT : w.ownsRow 0 31 1 vo told.length (told.map (·.1))
  ownT : ∀ (k : Nat) (x : Value × List UInt8), told[k]? = some x → ∃ cs, OwnB 5 w x.1 cs
  tW : ∀ (k : Nat) (x : Value × List UInt8), told[k]? = some x → ∀ g, x.1.ownBlock = some g → W.heap.size ≤ g
  tF : ∀ (k : Nat) (x : Value × List UInt8), told[k]? = some x → ∀ j, j < 64 → ∀ u b, f j = some (u, b) → ∀ g, x.1.ownBlock = some g → u.ownBlock ≠ some g
  tH : ∀ (k : Nat) (x : Value × List UInt8), told[k]? = some x → ∀ y ∈ hs, ∀ g, x.1.ownBlock = some g → y.2.1.ownBlock ≠ some g

theorem row_over {w w' : World} {v vo : Value} {n : Nat} {xs : List Value} {cs : List UInt8} (h : w.ownsRow 0 31 1 vo n xs) (hv : OwnB 5 w v cs) (k : Chg (fun k => some k = v.ownBlock) w w') : w'.ownsRow 0 31 1 vo n xs :=
  own_chg' h k fun g hg hS => by
    obtain ⟨ds, hd⟩ := hv.blk hS.symm
    have := row_other h hd hg.symm
    cases this

theorem after_over {W w w' : World} {X Y : Nat} {sz nx : Int} {G low : Nat} {bs cs : List UInt8} {vo vr : Value} {told outs : List (Value × List UInt8)} {f : Ring} {hs : List HeldR} {hv : Value} {n c : Nat} (h : After W w X Y sz G bs vo vr told outs nx f hs hv low)
    (hIn : OwnB 5 w (.slice (some ⟨G, 0, none⟩) n c) cs) (k : Chg (fun k => some k = (Value.slice (some ⟨G, 0, none⟩) n c).ownBlock) w w') (hk : ∀ u ys, OwnB 5 w u ys → ∃ cs, OwnB 5 w' u cs) : Inner W w' X Y sz vo told nx f hs hv low := by
  have hg : ∀ g, (Value.slice (some ⟨G, 0, none⟩) n c).ownBlock = some g → g = G := fun g hg => by simpa [Value.ownBlock] using hg.symm
  refine ⟨h.base.over hIn k (fun g hg' => by rw [hg g hg']; exact h.lentW) (fun j hj u b hu g hg' => by rw [hg g hg']; exact h.lentF j hj u b hu) (fun x hx g hg' => by rw [hg g hg']; exact h.lentH x hx), row_over h.rowT hIn k, fun i x hx => hk _ _ (h.ownT i x hx), h.tW, h.tF, h.tH⟩

theorem Inner.next {W w w' : World} {X Y : Nat} {sz nx : Int} {low : Nat} {vo : Value} {told : List (Value × List UInt8)} {f : Ring} {hs : List HeldR} {hv : Value} (h : Inner W w X Y sz vo told nx f hs hv low) {i : Nat} {x : Value × List UInt8} (hx : told[i]? = some x) {cs : List UInt8}
    (ho : OwnB 5 w x.1 cs) (k : Chg (fun k => some k = x.1.ownBlock) w w') (hk : ∀ u ys, OwnB 5 w u ys → ∃ cs, OwnB 5 w' u cs) : Inner W w' X Y sz vo told nx f hs hv low :=
  ⟨h.base.over ho k (h.tW i x hx) (fun j hj u b hu g hg => h.tF i x hx j hj u b hu g hg) (fun y hy g hg => h.tH i x hx y hy g hg), row_over h.rowT ho k, fun q y hy => by
    obtain ⟨ds, hd⟩ := h.ownT q y hy
    exact hk _ _ hd, h.tW, h.tF, h.tH⟩

set_option maxRecDepth 100000 in
set_option maxHeartbeats 1600000 in
theorem inboxTakes_any {w : World} {A : Option Addr} {l : List (Int × List UInt8)} {c : Nat} (sz : Int) (h : Cames w w.heap.size A l) (hn : l.length ≤ 9223372036854775807) :
    Calls Try.prog 3 #[.int .i64 sz, .slice A l.length c] w fun e w' => e = .returned (.bool true) ∧ Chg (fun _ => False) w w' := by
  by_cases hl' : longB l = true
  · have HL := Lib.hid hl'
    clear hl'
    go_enter Try.func3, Try.ntmps3
    go_wp2_with (go_at_call 9; refine (long_any h hn).mono ?_; rintro e w' ⟨rfl, rfl⟩; rw [HL.out])
    go_ret
    exact ⟨rfl, Chg.refl _ _⟩
  · simp only [Bool.not_eq_true] at hl'
    obtain ⟨hl300, hl4000⟩ := longB_false hl'
    have HL := Lib.hid hl'
    clear hl'
    by_cases hs : sz < 1 ∨ 64 < sz
    · go_enter Try.func3, Try.ntmps3
      go_wp2_with (first | (go_at_call 9; refine (long_any h hn).mono ?_; rintro e w' ⟨rfl, rfl⟩; rw [HL.out]) | (go_at_call 10; refine (new_bad sz _ hs).mono ?_; rintro e w' ⟨rfl, rfl⟩) | (go_at_call 11; refine (rnew_bad sz _ hs).mono ?_; rintro e w' ⟨rfl, rfl⟩))
      refine wp_loop_rounds 1 ?_
      rw [rounds_succ]
      by_cases hl0 : 0 < l.length
      · go_wp2_with (first | (go_at_call 22; refine (awake_any _).mono ?_; rintro e w' ⟨rfl, kw⟩))
        go_ret
        exact ⟨rfl, kw⟩
      · go_wp2_with (first | (go_at_call 22; refine (awake_any _).mono ?_; rintro e w' ⟨rfl, kw⟩))
        go_ret
        exact ⟨rfl, kw⟩
    · have hs1 : 1 ≤ sz := by omega
      have hs2 : sz ≤ 64 := by omega
      clear hs
      go_enter Try.func3, Try.ntmps3
      go_wp2_with (first | (go_at_call 9; refine (long_any h hn).mono ?_; rintro e w' ⟨rfl, rfl⟩; rw [HL.out]) | (go_at_call 10; refine (new_ok sz _ hs1 hs2).mono ?_; rintro e w2 ⟨rfl, hw2⟩; have hI := new_ibox w sz hs1 hs2; have k2 := (Chg.refl (fun _ => False) w).alloc (.cells (boxCells sz 1) 51); rw [hw2] at hI k2; have hlt : w.heap.size < w2.heap.size := by rw [← hw2]; simp) | (go_at_call 11; refine (rnew_ok sz _ hs1 hs2).mono ?_; rintro e w3 ⟨rfl, rfl⟩))
      have hR := new_rbox w2 sz (B := w.heap.size) k2.size
      have hX2 : w.heap.size < w2.heap.size := hlt
      have hT : TBase w (w2.alloc (.cells #[.int .i64 sz, .int .i64 1, .slice none 0 0] 43)) w.heap.size w2.heap.size sz 1 (fun _ => none) [] (.slice none 0 0) 0 := by
        have k3 : Chg (fun _ => False) w2 (w2.alloc (.cells #[.int .i64 sz, .int .i64 1, .slice none 0 0] 43)) := (Chg.refl _ w2).alloc _
        exact ⟨hI.new_ k3, hR, Same.nil 1, fun _ _ _ _ h => (by cases h), fun _ _ _ _ h => (by cases h), Nat.le_refl _, k2.trans k3 (fun _ _ h => h), by simp⟩
      clear hR hI k2
      go_wp2_with fail
      go_loopg [9] l.length (fun k i wr => ∃ (j : Nat) (nx : Int) (f : Ring) (hs : List HeldR) (hv : Value), (j + k ≤ l.length ∧ l.length ≤ j + k) ∧ i = .int .i64 (j : Int) ∧ TBase w wr w.heap.size w2.heap.size sz nx f hs hv j)
      case atStart => exact ⟨0, _, _, _, _, ⟨by omega, by omega⟩, rfl, hT⟩
      case round =>
        obtain ⟨j, nx, f, hs, hv, ⟨hj1, hj2⟩, rfl, hT⟩ := hrel
        by_cases hlt : j < l.length
        · obtain ⟨ad, Bk, ck, rfl, had, cs1w, cs2w, hck, hbl, hRdw, hql, hqu⟩ := h j hlt
          generalize hlj : l[j] = y at cs1w cs2w hck hbl hRdw hql hqu
          obtain ⟨q, bs⟩ := y
          simp only at cs1w cs2w hck hbl hRdw hql hqu
          have HC1 := Lib.hid cs1w
          have HC2 := Lib.hid cs2w
          have cs1 := hT.chg.cell cs1w (fun h => h)
          have cs2 := hT.chg.cell cs2w (fun h => h)
          have hRd : Rd (fun b => b < w.heap.size) wr Bk bs := hRdw.chg hT.chg (fun _ _ h => h)
          clear cs1w cs2w
          have hj0 : (j : Int) < (l.length : Int) := by omega
          go_upto_region 11 with (go_at_call 12; refine (lent_any (c := ck) hRd hbl).mono ?_; rintro e wA ⟨G, rfl, hgG, hG, kA⟩)
          have hTA := hT.new_ kA
          have cs1A := kA.cell cs1 (fun h => h)
          have cs2A := kA.cell cs2 (fun h => h)
          have hRdG : Rd (fun k => k = G) wA (some ⟨G, 0, none⟩) bs := rd_front (rd_blk hG)
          have hbn : nx ≤ 2147483647 := by have := hTA.low_; omega
          have hbl2 : bs.length ≤ 140737488355328 := by omega
          go_wp2_with (first | (go_at_call 13; refine (take_mid hTA.ibox hbn q hRdG hbl2).mono ?_; rintro e w4 ⟨code, vo, rfl, M⟩))
          have kM := M.chg
          have hXW := hT.freshX
          have cs1B := kM.cell cs1A (by rw [block_of_add]; omega)
          have cs2B := kM.cell cs2A (by show ¬ (ad.add (j * 2)).block = _; rw [block_of_add]; omega)
          have hRdB : Rd (fun b => b < w.heap.size) w4 Bk bs := (hRd.chg kA (fun _ _ h => h)).chg kM (fun k hk => by omega)
          go_cut [13, 14] (fun b h wx => ∃ (vr : Value) (told outs : List (Value × List UInt8)) (nx' : Int) (f' : Ring) (hs' : List HeldR) (hv' : Value), b = vr ∧ h = .int .i64 code ∧ After w wx w.heap.size w2.heap.size sz G bs vo vr told outs nx' f' hs' hv' (j + 1))
          case first =>
            go_region_held3 (fun w' => w'.cell? (ad.add (j * 2)) = some (.int .i64 q) ∧ w'.cell? ⟨(ad.add (j * 2)).block, (ad.add (j * 2)).off + 1, none⟩ = some (.slice Bk bs.length ck)) (first | go_keep | exact ⟨cs1B, cs2B⟩)
              (first | (go_at_call 14; go_loud (refine (rtake_after hT kA hG hgG hbn M hRdB hbl2).mono ?_; rintro e w5 ⟨vr, told, outs, nx', f', hs', hv', rfl, hA⟩; have cs1B := hA.base.chg.cell HC1.out (fun h => h); have cs2B := hA.base.chg.cell HC2.out (fun h => h))))
            go_wp2_with fail
            go_meet
            exact ⟨vr, told, outs, nx', f', hs', hv', rfl, rfl, hA⟩
          case rest =>
            obtain ⟨vr, told, outs, nx', f', hs', hv', rfl, rfl, hA⟩ := hcut
            obtain ⟨AT, cT, rfl, hcT, hmT⟩ := own_shape hA.rowT
            obtain ⟨AR, cR, rfl, hcR, hmR⟩ := own_shape hA.rowO
            obtain ⟨AH, cH, rfl, hcH, hmH⟩ := own_shape hA.base.rbox.row
            have x1 : ∀ x : Calm wc, x.w.cell? (ad.add (j * 2)) = some (.int .i64 q) := fun x => (hA.new_ x.chg).base.chg.cell HC1.out (fun h => h)
            have x2 : ∀ x : Calm wc, x.w.cell? ⟨(ad.add (j * 2)).block, (ad.add (j * 2)).off + 1, none⟩ = some (.slice Bk bs.length ck) := fun x => (hA.new_ x.chg).base.chg.cell HC2.out (fun h => h)
            have x3 : ∀ x : Calm wc, x.w.cell? ⟨w2.heap.size, 1, none⟩ = some (.int .i64 nx') := fun x => (hA.new_ x.chg).base.rbox.nx_
            have x4 : ∀ x : Calm wc, x.w.cell? ⟨w2.heap.size, 2, none⟩ = some (.slice AH hs'.length cH) := fun x => (hA.new_ x.chg).base.rbox.hv_
            have x5 : ∀ x : Calm wc, Rd (fun b => b < w.heap.size) x.w Bk bs := fun x => hRdw.chg (hA.new_ x.chg).base.chg (fun _ _ h => h)
            clear hTA hT hRd hRdB hRdG cs1 cs2 cs1B cs2B cs1A cs2A M kM hG
            go_wp2_with fail
            refine wp_region_calm (by kernel_rfl) (by kernel_rfl) ?_
            repeat go_big_quiet_step (first | (go_at_call 15; exact calm_drew (same_after (hA.new_ (Calm.chg _)) hcT hmT)) | (go_at_call 16; exact calm (kept_any (x5 _) hbl (hA.new_ (Calm.chg _)).lent)) | (go_at_call 17; exact calm_same ((hA.new_ (Calm.chg _)).base.ibox.next_)) | (go_at_call 18; exact calm_same (held_after (hA.new_ (Calm.chg _)))) | (go_at_call 19; exact calm_drew (has_after (hA.new_ (Calm.chg _)) _ (by omega))) | (go_at_call 20; exact calm_same (rhas_after (hA.new_ (Calm.chg _)) _)))
            refine wpQuiet_nil ?_
            rintro _ ⟨⟨w6, k6⟩, rfl⟩
            have hA6 := hA.new_ k6
            have hIn := own_in hA6.lent (by unfold maxLen; omega)
            clear x1 x2 x3 x4 x5 hA
            have hNe := Lib.hid hA6
            clear hA6
            go_wp2_with (go_at_call 21; refine (over_any hIn).mono ?_; rintro e w7 ⟨rfl, k7, hk7⟩)
            have hIR := after_over hNe.out hIn k7 hk7
            have htl := hNe.out.few
            obtain ⟨gko, hgko⟩ : ∃ g : Nat, g = gk := ⟨_, rfl⟩
            clear hIn hk7
            go_loopg [15] told.length (fun k i wr => ∃ m : Nat, (m + k ≤ told.length ∧ told.length ≤ m + k) ∧ i = .int .i64 (m : Int) ∧ Inner w wr w.heap.size w2.heap.size sz (.slice AT told.length cT) told nx' f' hs' (.slice AH hs'.length cH) (j + 1))
            case atStart => exact ⟨0, ⟨by omega, by omega⟩, rfl, hIR⟩
            case round =>
              obtain ⟨m, ⟨hm1, hm2⟩, rfl, hI⟩ := hrel
              by_cases hmt : m < told.length
              · obtain ⟨x, hxe⟩ : ∃ x, told[m]? = some x := ⟨_, List.getElem?_eq_getElem hmt⟩
                obtain ⟨g, cap, he, _, _⟩ := hI.rowT.form (by omega)
                injection he with he1 he2 he3
                subst he1 he3
                have cc := hI.rowT.cells (g := g) rfl m x.1 (by rw [List.getElem?_map, hxe]; rfl)
                rw [Addr.add_lit, Nat.zero_add] at cc
                obtain ⟨ds, hd⟩ := hI.ownT m x hxe
                have hm0 : (m : Int) < (told.length : Int) := by omega
                have HI := Lib.hid hI
                have HX := Lib.hid hxe
                clear hI hxe
                go_wp2_with (go_at_call 21; refine (over_any hd).mono ?_; rintro e w8 ⟨rfl, k8, hk8⟩)
                go_roundg (gk - 1)
                case measure => omega
                case rel => exact ⟨m + 1, ⟨by omega, by omega⟩, by go_num, HI.out.next HX.out hd k8 hk8⟩
              · have hB := Lib.hid hI.base
                clear hI
                go_wp2_with fail
                go_roundg (gko - 1)
                case measure => omega
                case rel => exact ⟨j + 1, nx', f', hs', _, ⟨by omega, by omega⟩, by go_num, hB.out⟩
        · go_wp2_with (first | (go_at_call 22; refine (awake_any _).mono ?_; rintro e w' ⟨rfl, kw⟩))
          go_ret
          exact ⟨rfl, hT.chg.trans kw (fun _ _ h => h)⟩
end Go.Proofs.Ytjmbealiinecjaa
