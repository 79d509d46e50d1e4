import Derived.Test.YtjmbealiinecjaaCame
import Derived.StillTailTactics
namespace Go.Proofs.Ytjmbealiinecjaa
open Go.RowKit

/-- A row of numbers, by places. -/
def Nums (w : World) (G n : Nat) (F : Nat → Nat) : Prop := ∃ cs : Array Value, Blk w G 3 cs ∧ cs.size = n ∧ ∀ s, s < n → cs[s]? = some (.int .i64 (F s : Int))

theorem Nums.cell {w : World} {G n : Nat} {F : Nat → Nat} (h : Nums w G n F) {s : Nat} (hs : s < n) : w.cell? ⟨G, s, none⟩ = some (.int .i64 (F s : Int)) := by
  obtain ⟨cs, hb, _, hc⟩ := h
  rw [hb.cell s, hc s hs]
theorem Nums.free {w : World} {G n : Nat} {F : Nat → Nat} (h : Nums w G n F) (s : Nat) : w.frozen? ⟨G, s, none⟩ = false := by
  obtain ⟨cs, hb, _, hc⟩ := h
  exact hb.frozen s
theorem Nums.chg {S : Nat → Prop} {w w' : World} {G n : Nat} {F : Nat → Nat} (h : Nums w G n F) (hc : Chg S w w') (hG : ¬ S G) : Nums w' G n F := by
  obtain ⟨cs, hb, hr⟩ := h
  exact ⟨cs, hb.chg hc hG, hr⟩
def upd (F : Nat → Nat) (s x : Nat) : Nat → Nat := fun t => if t = s then x else F t

theorem Nums.set {w : World} {G n : Nat} {F : Nat → Nat} (h : Nums w G n F) (s x : Nat) : Nums (w.setCell ⟨G, s, none⟩ (.int .i64 (x : Int))) G n (upd F s x) := by
  obtain ⟨cs, hb, hz, hc⟩ := h
  refine ⟨cs.setIfInBounds s (.int .i64 (x : Int)), hb.set_ s _, by simpa using hz, fun t ht => ?_⟩
  by_cases e : t = s
  · subst e
    rw [Array.getElem?_setIfInBounds_self_of_lt (by omega)]
    simp [upd]
  · rw [Array.getElem?_setIfInBounds_ne (Ne.symm e), hc t ht]
    simp [upd, e]
theorem Nums.other {w : World} {G n : Nat} {F : Nat → Nat} (h : Nums w G n F) : Other w G := by
  obtain ⟨cs, hb, _⟩ := h
  exact hb.other (by decide) (by decide)

def zeros (n : Nat) : Array Value := madeCells #[.int .i64 0] n
theorem make_400 (w : World) : (Instr.makeSlice 53 (.int .i64 400) (.int .i64 400)).run Try.prog w = .ok (.slice (some ⟨w.heap.size, 0, none⟩) 400 400) (w.alloc (.cells (zeros 400) 3)) := by
  obtain ⟨i0, hi0, hz0, hz1, hz2⟩ := info_parts (show (Try.prog.info? 3).map (fun i => (i.zero, i.size, i.bytes)) = some (some (.int .i64 0), 1, 8) by kernel_rfl)
  have := run_make (P := Try.prog) w 53 3 i0 _ Try.underlying53 hi0 hz0 .i64 .i64 400 400 (by omega) (by omega) (by rw [hz2]; omega) (by omega)
  rw [hz1] at this
  exact this
theorem nums_zeros (w : World) (n : Nat) : Nums (w.alloc (.cells (zeros n) 3)) w.heap.size n (fun _ => 0) := by
  refine ⟨zeros n, heap_alloc_new w _, by simp [zeros, size_madeCells], fun s hs => ?_⟩
  have h1 := toList_madeCells_one (.int .i64 0) n
  have h2 : (zeros n).toList[s]? = some (.int .i64 0) := by
    unfold zeros
    rw [h1, List.getElem?_replicate, if_pos hs]
  simpa using h2

/-- What stands at the head of the outer loop, behind j things. -/
def OrdRel (W : World) (X G : Nat) (sz : Int) (l : List (Int × List UInt8)) (j : Nat) (nx : Int) (f : Ring) (F : Nat → Nat) (wr : World) : Prop :=
  IBox wr X sz nx f ∧ Nums wr G 400 F ∧ Chg (fun _ => False) W wr ∧ nx + cnt f ≤ 1 + j ∧
    ∀ (s : Int) (x : Value × List UInt8), held nx f s = some x → ∃ (i : Nat) (y : Int × List UInt8), i < j ∧ l[i]? = some y ∧ F s.toNat = i + 1 ∧ y.2 = x.2

theorem OrdRel.drewN {W w : World} {X G : Nat} {sz nx : Int} {l : List (Int × List UInt8)} {j : Nat} {f : Ring} {F : Nat → Nat} (h : OrdRel W X G sz l j nx f F w) (n : Nat) : OrdRel W X G sz l j nx f F (w.drewN n) :=
  ⟨h.1.drewN n, h.2.1, h.2.2.1.drewN n, h.2.2.2⟩

theorem hasB_out {sz nx q : Int} {f : Ring} (h : Win sz nx f) (hn : nx ≤ 100000) (hq : q < 1 ∨ 2147483647 ≤ q) : hasB sz nx f q = false := by
  have := h.hi
  unfold hasB
  rcases hq with hq | hq
  · simp; omega
  · rw [show decide (q < nx) = false by simp; omega, show decide (q - nx < sz) = false by simp; omega]
    simp

theorem ord_tell {w w4 : World} {X : Nat} {sz nx nx' q : Int} {f f' : Ring} {F : Nat → Nat} {l : List (Int × List UInt8)} {j : Nat} {bs : List UInt8} {vo : Value} {told : List (Value × List UInt8)} (hj : j < l.length) (hy : l[j] = (q, bs)) 
    (hF : ∀ (s : Int) (x : Value × List UInt8), held nx f s = some x → ∃ (i : Nat) (y : Int × List UInt8), i < j ∧ l[i]? = some y ∧ F s.toNat = i + 1 ∧ y.2 = x.2) (hq : 1 ≤ q) (T : Took w X sz nx f q bs w4 vo told nx' f') :
    ∀ (m : Nat) (x : Value × List UInt8), told[m]? = some x → ∃ (i : Nat) (y : Int × List UInt8), i < j + 1 ∧ l[i]? = some y ∧ upd F q.toNat (j + 1) (nx + m).toNat = i + 1 ∧ y.2 = x.2 := by
  intro m x hx
  rcases T.tell m x hx with ⟨h1, h2⟩ | ⟨h1, h2⟩
  · exact ⟨j, (q, bs), by omega, by rw [List.getElem?_eq_getElem hj, hy], by simp [upd, h1], h2.symm⟩
  · obtain ⟨i, y, a, b, c, d⟩ := hF _ x h2
    exact ⟨i, y, by omega, b, by rw [← c]; simp only [upd]; rw [if_neg (by omega)], d⟩

theorem ord_next {W w w4 w5 : World} {X G : Nat} {sz nx nx' q : Int} {f f' : Ring} {F : Nat → Nat} {l : List (Int × List UInt8)} {j : Nat} {bs : List UInt8} {vo : Value} {told : List (Value × List UInt8)} (hj : j < l.length) (hy : l[j] = (q, bs))
    (hF : ∀ (s : Int) (x : Value × List UInt8), held nx f s = some x → ∃ (i : Nat) (y : Int × List UInt8), i < j ∧ l[i]? = some y ∧ F s.toNat = i + 1 ∧ y.2 = x.2) (hq : 1 ≤ q) (hcn : nx + cnt f ≤ 1 + j) (T : Took w X sz nx f q bs w4 vo told nx' f')
    (hI5 : IBox w5 X sz nx' f') (hN5 : Nums w5 G 400 (upd F q.toNat (j + 1))) (h5 : Chg (fun _ => False) W w5) :
    OrdRel W X G sz l (j + 1) nx' f' (upd F q.toNat (j + 1)) w5 := by
  have hnx1 := T.ibox.win.nx1
  have hn := T.nxt
  have hc := T.count
  refine ⟨hI5, hN5, h5, by omega, fun s x hx => ?_⟩
  obtain ⟨h0, h1⟩ := T.kept s x hx
  rcases h1 with ⟨h1, h2⟩ | ⟨h1, h2⟩
  · exact ⟨j, (q, bs), by omega, by rw [List.getElem?_eq_getElem hj, hy], by simp [upd, h1], h2.symm⟩
  · obtain ⟨i, y, a, b, c, d⟩ := hF s x h2
    exact ⟨i, y, by omega, b, by rw [← c]; simp only [upd]; rw [if_neg (by omega)], d⟩

set_option maxRecDepth 100000 in
set_option maxHeartbeats 1600000 in
theorem inboxOrder_any {w : World} {A : Option Addr} {l : List (Int × List UInt8)} {c : Nat} (sz : Int) (h : Cames w w.heap.size A l) (hn : l.length ≤ 9223372036854775807) :
    Calls Try.prog 5 #[.int .i64 sz, .slice A l.length c] w fun e w' => e = .returned (.bool true) ∧ Chg (fun _ => False) w w' := by
  by_cases hl : longB l = true
  · by_cases hs : 1 ≤ sz ∧ sz ≤ 64
    · have HL := Lib.hid hl
      clear hl
      go_enter Try.func5, Try.ntmps5
      go_wp2_with fail
      refine (awake_any w).mono ?_
      rintro e w1 ⟨rfl, k1⟩
      have h1 := h.chg k1 (fun _ _ h => h)
      go_wp2_with fail
      refine (new_ok sz _ hs.1 hs.2).mono ?_
      rintro e w2 ⟨rfl, hw2⟩
      have k2 : Chg (fun _ => False) w w2 := hw2 ▸ k1.alloc _
      have h2 := h.chg k2 (fun _ _ h => h)
      clear hw2
      go_wp2_with (go_at_call 9; refine (long_any h2 hn).mono ?_; rintro e w' ⟨rfl, rfl⟩; rw [HL.out])
      go_ret
      exact ⟨rfl, k2⟩
    · have HL := Lib.hid hl
      clear hl
      go_enter Try.func5, Try.ntmps5
      go_wp2_with fail
      refine (awake_any w).mono ?_
      rintro e w1 ⟨rfl, k1⟩
      have h1 := h.chg k1 (fun _ _ h => h)
      go_wp2_with fail
      refine (new_bad sz _ (by omega)).mono ?_
      rintro e w2 ⟨rfl, hw2⟩
      have k2 : Chg (fun _ => False) w w2 := hw2 ▸ k1
      have h2 := h.chg k2 (fun _ _ h => h)
      clear hw2
      go_wp2_with (go_at_call 9; refine (long_any h2 hn).mono ?_; rintro e w' ⟨rfl, rfl⟩; rw [HL.out])
      go_ret
      exact ⟨rfl, k2⟩
  · have hl' : longB l = false := by simpa using hl
    clear hl
    by_cases hs : 1 ≤ sz ∧ sz ≤ 64
    · obtain ⟨hs1, hs2⟩ := hs
      obtain ⟨hl300, hl4000⟩ := longB_false hl'
      have HL := Lib.hid hl'
      clear hl'
      have hmk := make_400
      go_enter Try.func5, Try.ntmps5
      go_wp2_with fail
      refine (awake_any w).mono ?_
      rintro e w1 ⟨rfl, k1⟩
      have h1 := h.chg k1 (fun _ _ h => h)
      go_wp2_with fail
      refine (new_ok sz _ hs1 hs2).mono ?_
      rintro e w2 ⟨rfl, hw2⟩
      have hI : IBox w2 w1.heap.size sz 1 (fun _ => none) := hw2 ▸ new_ibox w1 sz hs1 hs2
      have k2 : Chg (fun _ => False) w w2 := hw2 ▸ k1.alloc _
      have h2 := h.chg k2 (fun _ _ h => h)
      clear hw2
      go_wp2_with (go_at_call 9; refine (long_any h2 hn).mono ?_; rintro e w' ⟨rfl, rfl⟩; rw [HL.out])
      have hR0 : OrdRel w w1.heap.size w2.heap.size sz l 0 1 (fun _ => none) (fun _ => 0) (w2.alloc (.cells (zeros 400) 3)) := by
        refine ⟨hI.new_ ((Chg.refl _ _).alloc _), nums_zeros w2 400, k2.alloc _, ?_, fun s x hx => ?_⟩
        · have : cnt (fun _ => none) = 0 := by kernel_rfl
          rw [this]; omega
        · rw [held_nil] at hx; cases hx
      have hX1 := k1.size
      have hG1 := k2.size
      generalize w1.heap.size = X at *
      generalize w2.heap.size = G at *
      generalize w2.alloc (.cells (zeros 400) 3) = w3 at *
      clear hI k2 h2 h1 k1
      go_loopg [9, 10] l.length (fun k t i wr => ∃ (j : Nat) (nx : Int) (f : Ring) (F : Nat → Nat), (j + k ≤ l.length ∧ l.length ≤ j + k) ∧ i = .int .i64 j ∧ t = .int .i64 (nx - 1) ∧ OrdRel w X G sz l j nx f F wr)
      case atStart => exact ⟨0, 1, _, _, ⟨by omega, by omega⟩, rfl, rfl, hR0⟩
      case round =>
        obtain ⟨j, nx, f, F, ⟨hj1, hj2⟩, rfl, rfl, hI, hN, hc, hcn, hF⟩ := hrel
        have hr := h.chg hc (fun _ _ h => h)
        have hnx1 := hI.win.nx1
        by_cases hlt : j < l.length
        · obtain ⟨ad, Bk, ck, rfl, hb, cs1, cs2, hck, hlk, hRd, hq1, hq2⟩ := hr j hlt
          rcases hy : l[j] with ⟨q, bs⟩
          rw [hy] at cs1 cs2 hck hlk hRd hq1 hq2
          simp only at cs1 cs2 hck hlk hRd hq1 hq2
          have HY := Lib.hid hy
          clear hy
          by_cases hqr : q < 1 ∨ 2147483647 ≤ q
          · have HH := Lib.hid (show hasB sz nx f q = false from hasB_out hI.win (by have := cnt_le f; omega) hqr)
            skip
            have hGX : G ≠ X := (hI.box.ne_other hN.other).symm
            have hcl : (cnt f : Int) < sz := hI.win.cnt_lt
            have hcf := cnt_le f
            have g1 : (nx != nx - 1 + 1) = false := by simp
            go_wp2_with (go_at_call 19; refine (hI.has_ q hq2).mono ?_; rintro e w' ⟨rfl, n1, rfl⟩; rw [HH.out])
            go_region_held3 (fun w' => w'.cell? (ad.add (j * 2)) = some (.int .i64 q) ∧ w'.cell? ⟨(ad.add (j * 2)).block, (ad.add (j * 2)).off + 1, none⟩ = some (.slice Bk bs.length ck)) (first | go_keep | exact ⟨cs1', cs2'⟩)
              (first | (go_at_call 13; refine (take_out (hI.drewN _) q hqr _).mono ?_; rintro e w4 ⟨rfl, hI4, k4⟩; have cs1' := k4.cell cs1 (fun h => h); have cs2' := k4.cell cs2 (fun h => h)))
            have hN4 := (hN.chg ((Chg.refl (fun k => False) wr).drewN (n1 + 1)) (fun h => h)).chg k4 (fun h => h)
            have hc4 : Chg (fun _ => False) w w4 := (hc.drewN (n1 + 1)).trans k4 (fun _ _ h => h)
            have hR : OrdRel w X G sz l (j + 1) nx f F w4 := ⟨hI4, hN4, hc4, by omega, fun s x hx => by
              obtain ⟨i, y, a, b⟩ := hF s x hx
              exact ⟨i, y, by omega, b⟩⟩
            have HR := Lib.hid hR
            clear hR hr cs1 cs2 hN4 hc4 hN
            go_wp2_with fail
            refine wp_loop_rounds 1 ?_
            rw [rounds_succ]
            go_wp2_with (first | (go_at_call 17; refine (hI4.next_).mono ?_; rintro e w' ⟨rfl, rfl⟩) | (go_at_call 18; refine (hI4.held_).mono ?_; rintro e w' ⟨rfl, rfl⟩))
            go_roundg (gk - 1)
            case measure => omega
            case rel => exact ⟨j + 1, nx, f, F, ⟨by omega, by omega⟩, by go_num, rfl, HR.out⟩
          · by_cases hh : hasB sz nx f q = true
            · have HH := Lib.hid hh
              clear hh
              skip
              have hGX : G ≠ X := (hI.box.ne_other hN.other).symm
              have hcl : (cnt f : Int) < sz := hI.win.cnt_lt
              have hcf := cnt_le f
              have g1 : (nx != nx - 1 + 1) = false := by simp
              go_wp2_with (go_at_call 19; refine (hI.has_ q hq2).mono ?_; rintro e w' ⟨rfl, n1, rfl⟩; rw [HH.out])
              go_region_held3 (fun w' => w'.cell? (ad.add (j * 2)) = some (.int .i64 q) ∧ w'.cell? ⟨(ad.add (j * 2)).block, (ad.add (j * 2)).off + 1, none⟩ = some (.slice Bk bs.length ck)) (first | go_keep | exact ⟨cs1', cs2'⟩)
                (first | (go_at_call 13; refine (take_old (hI.drewN _) q (by omega) (by omega) HH.out _).mono ?_; rintro e w4 ⟨rfl, hI4, k4⟩; have cs1' := k4.cell cs1 (fun h => h); have cs2' := k4.cell cs2 (fun h => h)))
              have hN4 := (hN.chg ((Chg.refl (fun k => False) wr).drewN (n1 + 1)) (fun h => h)).chg k4 (fun h => h)
              have hc4 : Chg (fun _ => False) w w4 := (hc.drewN (n1 + 1)).trans k4 (fun _ _ h => h)
              have hR : OrdRel w X G sz l (j + 1) nx f F w4 := ⟨hI4, hN4, hc4, by omega, fun s x hx => by
                obtain ⟨i, y, a, b⟩ := hF s x hx
                exact ⟨i, y, by omega, b⟩⟩
              have HR := Lib.hid hR
              clear hR hr cs1 cs2 hN4 hc4 hN
              go_wp2_with fail
              refine wp_loop_rounds 1 ?_
              rw [rounds_succ]
              go_wp2_with (first | (go_at_call 17; refine (hI4.next_).mono ?_; rintro e w' ⟨rfl, rfl⟩) | (go_at_call 18; refine (hI4.held_).mono ?_; rintro e w' ⟨rfl, rfl⟩))
              go_roundg (gk - 1)
              case measure => omega
              case rel => exact ⟨j + 1, nx, f, F, ⟨by omega, by omega⟩, by go_num, rfl, HR.out⟩
            · have hh' : hasB sz nx f q = false := by simpa using hh
              clear hh
              by_cases hqs : q - nx < sz
              · have HH := Lib.hid hh'
                clear hh'
                go_wp2_with (go_at_call 19; refine (hI.has_ q hq2).mono ?_; rintro e w' ⟨rfl, n1, rfl⟩; rw [HH.out])
                go_region_held3 (fun w' => w'.cell? (ad.add (j * 2)) = some (.int .i64 q) ∧ w'.cell? ⟨(ad.add (j * 2)).block, (ad.add (j * 2)).off + 1, none⟩ = some (.slice Bk bs.length ck)) (first | go_keep | exact ⟨cs1', cs2'⟩)
                  (first | (go_at_call 13; refine (take_new (hI.drewN _) (by omega) q (by omega) (by omega) HH.out hqs (hRd.drewN _) (by omega)).mono ?_; rintro e w4 ⟨vo, told, nx', f', rfl, T⟩; have kT := T.chg; have cs1' := kT.cell cs1 (by rw [block_of_add]; omega); have cs2' := kT.cell cs2 (by show ¬ (ad.add (j * 2)).block = X; rw [block_of_add]; omega)))
                have hGX : G ≠ X := (hI.box.ne_other hN.other).symm
                have hN4 := (hN.chg ((Chg.refl (fun k => k = X) wr).drewN (n1 + 1)) hGX).chg kT hGX
                obtain ⟨A1, c1, rfl, hc1, hm1⟩ := own_shape T.row
                have hq400 : q < 400 := by omega
                have cG := hN4.cell (s := q.toNat) (by omega)
                have fG := hN4.free q.toNat
                have HT := Lib.hid T
                have hnx' := T.nxt
                have hfew := T.few
                have HNX := Lib.hid hnx'
                unfold maxLen at hm1
                clear T hnx'
                have htell := ord_tell hlt HY.out hF (by omega) HT.out
                have HTE := Lib.hid htell
                clear htell
                go_wp2_with fail
                have hI4 := HT.out.ibox
                have hc4 : Chg (fun _ => False) w w4 := (hc.drewN (n1 + 1)).trans kT (fun k hk he => by subst he; exact absurd hk (by omega))
                have hN5 := hN4.set q.toNat (j + 1)
                have hc5 := hc4.setCell (p := ⟨G, q.toNat, none⟩) (.inl hG1) (.int .i64 ((j + 1 : Nat) : Int))
                have hI5 := hI4.chg (Chg.setCell (S := fun k => k = G) (Chg.refl _ w4) (p := ⟨G, q.toNat, none⟩) (.inr rfl) (.int .i64 ((j + 1 : Nat) : Int))) (fun k _ he => by subst he; exact hN4.other)
                have hL5 : RdL (Lst w4) (w4.setCell ⟨G, q.toNat, none⟩ (.int .i64 ((j + 1 : Nat) : Int))) A1 (told.map (·.2)) := (rdl_lst HT.out.row HT.out.own).chg (Chg.setCell (S := fun k => k = G) (Chg.refl _ w4) (p := ⟨G, q.toNat, none⟩) (.inr rfl) _) (fun k hk he => by
                  obtain ⟨cs, hb', _⟩ := hN4
                  exact hk.ne_ hb' (by decide) (by decide) he)
                have hC5 := h.chg hc5 (fun _ _ h => h)
                have hR5 := ord_next hlt HY.out hF (by omega) hcn HT.out hI5 hN5 hc5
                have e5 : ((j + 1 : Nat) : Int) = (j : Int) + 1 := rfl
                rw [e5] at hN5 hc5 hI5 hL5 hC5 hR5
                generalize w4.setCell ⟨G, q.toNat, none⟩ (.int .i64 ((j : Int) + 1)) = w5 at *
                clear e5 cG fG cs1' cs2' cs1 cs2 hr hI hN kT hN4 hI4 hc4
                have hIW := hR5.1.win
                generalize gk = gko at *
                go_loopg [9, 14] told.length (fun k t i wi => ∃ m n : Nat, (m + k ≤ told.length ∧ told.length ≤ m + k) ∧ i = .int .i64 m ∧ t = .int .i64 (nx - 1 + m) ∧ wi = w5.drewN n)
                case atStart => exact ⟨0, 0, ⟨by omega, by omega⟩, rfl, by go_num, rfl⟩
                case round =>
                  obtain ⟨m, n, ⟨hm1', hm2'⟩, rfl, rfl, rfl⟩ := hrel
                  by_cases hmt : m < told.length
                  · obtain ⟨i, y, hi, hy, hFi, hyx⟩ := HTE.out m _ (List.getElem?_eq_getElem hmt)
                    have hil : i < l.length := (List.getElem?_eq_some_iff.1 hy).1
                    have hyl : l[i] = y := (List.getElem?_eq_some_iff.1 hy).2
                    obtain ⟨ad', Bi, ci, had, hbi, ds1, ds2, hci, hli, hRi, _⟩ := hC5 i hil
                    obtain ⟨ae, Be, ce, hae, es1, hce, hRe⟩ := hL5.at_ (k := m) (by simpa using hmt)
                    cases had
                    subst hae
                    rcases hyq : y with ⟨qi, bi⟩
                    have hli' : l[i] = (qi, bi) := by rw [hyl, hyq]
                    rw [hli'] at ds1 ds2 hci hRi
                    simp only at ds1 ds2 hci hRi
                    have htm : (told.map (·.2))[m]'(by simpa using hmt) = bi := by
                      rw [List.getElem_map, ← hyx, hyq]
                    rw [htm] at es1 hce hRe
                    have hcnt5 := hR5.2.2.2.1
                    have hNX := HNX.out
                    have hb400 : nx + m ≤ 302 := by omega
                    have cF := hN5.cell (s := (nx - 1 + m + 1).toNat) (by omega)
                    rw [show (nx - 1 + (m : Int) + 1).toNat = (nx + m).toNat by congr 1; omega, hFi, show ((nx + (m : Int)).toNat) = (nx - 1 + (m : Int) + 1).toNat by congr 1; omega] at cF
                    have ei : (((i + 1 : Nat) : Int)) = (i : Int) + 1 := rfl
                    rw [ei] at cF
                    have g1 : decide ((400 : Int) ≤ nx - 1 + m + 1) = false := by simp; omega
                    have g2 : (((i : Int) + 1) == 0) = false := by simp; omega
                    have g3 : (bi == bi) = true := by simp
                    have HB := Lib.hid hR5
                    clear hR5 hNX hFi hyl hli' htm hyq hyx hy hcnt5 ei hL5 hC5
                    go_wp2_with fail
                    have b0 : (0 : Int) ≤ nx - 1 + m + 1 := by omega
                    have b1 : nx - 1 + (m : Int) + 1 < 400 := by omega
                    have b2 : IntKind.i64.wrap ((i : Int) + 1 - 1) = (i : Int) := by rw [IntKind.wrap_i64]; omega
                    have b2' : IntKind.i64.wrap (i : Int) = (i : Int) := by rw [IntKind.wrap_i64]; omega
                    have b3 : (i : Int) < (l.length : Int) := by omega
                    have b4 : (m : Int) < (told.length : Int) := by omega
                    go_quiet ((go_at_call 23; go_loud (exact quiet_add_left (sameBytes (hRe.drewN _) (hRi.drewN _)))))
                    clear b2 b2'
                    go_wp2
                    go_roundg (gk - 1)
                    case measure => omega
                    case rel => exact ⟨m + 1, n + nq, ⟨by omega, by omega⟩, by go_num, by go_num, rfl⟩
                  · have hnx2 := HNX.out
                    have hcl : (cnt f' : Int) < sz := hIW.cnt_lt
                    have hml : (m : Int) = told.length := by omega
                    have hcf := cnt_le f'
                    have g1 : (nx' != nx - 1 + (m : Int) + 1) = false := by simp; omega
                    have hnn : nx' - 1 = nx - 1 + (m : Int) := by omega
                    have HNN := Lib.hid hnn
                    have hrn := hR5
                    have HB := Lib.hid hR5
                    clear hR5 hnx2 hml hnn hrn hL5 hC5 hN5
                    go_wp2_with (first | (go_at_call 17; refine ((hI5.drewN n).next_).mono ?_; rintro e w' ⟨rfl, rfl⟩) | (go_at_call 18; refine ((hI5.drewN n).held_).mono ?_; rintro e w' ⟨rfl, rfl⟩))
                    go_roundg (gko - 1)
                    case measure => omega
                    case rel => exact ⟨j + 1, nx', f', _, ⟨by omega, by omega⟩, by go_num, by rw [HNN.out], HB.out.drewN n⟩
              · have HH := Lib.hid hh'
                clear hh'
                skip
                have hGX : G ≠ X := (hI.box.ne_other hN.other).symm
                have hcl : (cnt f : Int) < sz := hI.win.cnt_lt
                have hcf := cnt_le f
                have g1 : (nx != nx - 1 + 1) = false := by simp
                go_wp2_with (go_at_call 19; refine (hI.has_ q hq2).mono ?_; rintro e w' ⟨rfl, n1, rfl⟩; rw [HH.out])
                go_region_held3 (fun w' => w'.cell? (ad.add (j * 2)) = some (.int .i64 q) ∧ w'.cell? ⟨(ad.add (j * 2)).block, (ad.add (j * 2)).off + 1, none⟩ = some (.slice Bk bs.length ck)) (first | go_keep | exact ⟨cs1', cs2'⟩)
                  (first | (go_at_call 13; refine (take_far (hI.drewN _) q (by omega) (by omega) (by omega) _).mono ?_; rintro e w4 ⟨rfl, hI4, k4⟩; have cs1' := k4.cell cs1 (fun h => h); have cs2' := k4.cell cs2 (fun h => h)))
                have hN4 := (hN.chg ((Chg.refl (fun k => False) wr).drewN (n1 + 1)) (fun h => h)).chg k4 (fun h => h)
                have hc4 : Chg (fun _ => False) w w4 := (hc.drewN (n1 + 1)).trans k4 (fun _ _ h => h)
                have hR : OrdRel w X G sz l (j + 1) nx f F w4 := ⟨hI4, hN4, hc4, by omega, fun s x hx => by
                  obtain ⟨i, y, a, b⟩ := hF s x hx
                  exact ⟨i, y, by omega, b⟩⟩
                have HR := Lib.hid hR
                clear hR hr cs1 cs2 hN4 hc4 hN
                go_wp2_with fail
                refine wp_loop_rounds 1 ?_
                rw [rounds_succ]
                go_wp2_with (first | (go_at_call 17; refine (hI4.next_).mono ?_; rintro e w' ⟨rfl, rfl⟩) | (go_at_call 18; refine (hI4.held_).mono ?_; rintro e w' ⟨rfl, rfl⟩))
                go_roundg (gk - 1)
                case measure => omega
                case rel => exact ⟨j + 1, nx, f, F, ⟨by omega, by omega⟩, by go_num, rfl, HR.out⟩
        · clear hr
          go_wp2_with fail
          go_ret
          exact ⟨rfl, hc⟩
    · have HL := Lib.hid hl'
      clear hl'
      go_enter Try.func5, Try.ntmps5
      go_wp2_with fail
      refine (awake_any w).mono ?_
      rintro e w1 ⟨rfl, k1⟩
      have h1 := h.chg k1 (fun _ _ h => h)
      go_wp2_with fail
      refine (new_bad sz _ (by omega)).mono ?_
      rintro e w2 ⟨rfl, hw2⟩
      have k2 : Chg (fun _ => False) w w2 := hw2 ▸ k1
      have h2 := h.chg k2 (fun _ _ h => h)
      clear hw2
      go_wp2_with (go_at_call 9; refine (long_any h2 hn).mono ?_; rintro e w' ⟨rfl, rfl⟩; rw [HL.out])
      go_ret
      exact ⟨rfl, k2⟩
end Go.Proofs.Ytjmbealiinecjaa
