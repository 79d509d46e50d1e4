/- Bytes are laid behind: digest.Write (16). -/
import Derived.Test.YthgfkepflpdalaaDig
import Derived.Deep.Slices
namespace Go.Proofs.Ythgfkepflpdalaa
open Go.RowKit

theorem wpList_copy_chg {P : Program} {w : World} {ops : Array Oper} {rest : List Oper} {o : Oper} {a : Act} {Q : Exit → Act → World → Prop} (hgd : o.guard = none) (d s : Operand) (dT sT : TypeId)
    (ho : o.op = .call { callee := .builtin .copy, args := #[d, s], argTypes := #[dT, sT] }) (elem : TypeId) (hu : P.underlying dT = some (.slice elem)) (hsz : (P.info? elem).map (·.size) = some 1)
    (dp sp : Option Addr) (dLen dCap sLen sCap : Nat) (hd : a.eval d = .slice dp dLen dCap) (hs : a.eval s = .slice sp sLen sCap)
    (g off : Nat) (cur : List Value) (t : TypeId) (hg : Blk w g t cur.toArray) (cs : List Value) (hn : cs.length = Nat.min sLen dLen)
    (hpos : 0 < cs.length → dp = some ⟨g, off, none⟩ ∧ ∃ ad, sp = some ad ∧ ∀ j v, cs[j]? = some v → w.cell? (ad.add j) = some v)
    (hfit : off + cs.length ≤ cur.length) (h1 : ∀ v ∈ cs, v.oneCell' = true)
    (h : ∀ w', Blk w' g t (splice cur off cs).toArray → Chg (fun k => k = g) w w' → wpList P ops Q rest (a.put o.dst (goInt cs.length)) w') :
    wpList P ops Q (o :: rest) a w := by
  by_cases h0 : cs.length = 0
  · obtain rfl : cs = [] := List.eq_nil_of_length_eq_zero h0
    refine wpList_copy_nothing hgd d s dT sT ho elem hu hsz dp sp dLen dCap sLen sCap hd hs (by simpa using hn.symm) ?_
    exact h w (by simpa [splice] using hg) (Chg.refl _ w)
  · obtain ⟨rfl, ad, rfl, hsrc⟩ := hpos (by omega)
    refine wpList_copy_own hgd d s dT sT ho elem hu hsz g off dLen dCap ad sLen sCap hd hs cur.toArray t hg cs hn hsrc (by simpa using hfit) h1 ?_
    exact h _ (by unfold Blk; simpa [splice] using setRow_heap w g _ _ t _ hg) (Chg.setRow (S := fun k => k = g) (Chg.refl _ w) (.inr rfl) _)

theorem info5 : (Try.prog.info? 5).map (·.size) = some 1 := by kernel_rfl

theorem rd_drop {D S : Nat → Prop} {w w' : World} {ad : Addr} {zs : List UInt8} (h : Rd D w (some ad) zs) (hk : Chg S w w') (hd : ∀ k, D k → ¬ S k) (k : Nat) : Rd D w' (some (ad.add k)) (zs.drop k) := by
  intro h0
  obtain ⟨ad', e, hD, hc⟩ := h (by rw [bcs_length] at h0 ⊢; rw [List.length_drop] at h0; omega)
  injection e with e
  subst e
  refine ⟨_, rfl, by rw [block_of_add]; exact hD, fun j u hu => ?_⟩
  have : (bcs zs)[k + j]? = some u := by rw [← hu]; simp [bcs]
  have h2 := hk.cell (hc _ _ this) (by rw [block_of_add]; exact hd _ hD)
  rw [Go.Deep.add_add]
  exact h2
theorem dig_blk_n {w : World} {g : Nat} {s : St} {wt : List UInt8} {n : Nat} (hb : Blk w g 54 (digL s wt n).toArray) (hw : wt.length = 64) (m : Nat) : Blk (w.setCell ⟨g, 73, none⟩ (.int .i64 (m : Int))) g 54 (digL s wt m).toArray := by
  have := hb.set_ 73 (.int .i64 (m : Int))
  rw [List.setIfInBounds_toArray, digL_setn _ hw] at this
  exact this

theorem dig_done {w w2 : World} {g : Nat} {X Y wt : List UInt8} {n : Nat} {v : Value} (hb : Blk w2 g 54 (digL (runB X (X.length / 64)) wt X.length).toArray) (hn : X.length + n = Y.length) (h : Y.length / 64 = X.length / 64 ∧ wt.length = 64 ∧ wt.take (Y.length % 64) = Y.drop (64 * (Y.length / 64)) ∧ runB Y (Y.length / 64) = runB X (X.length / 64)) (hv : v = .int .i64 ((X.length : Int) + (n : Int)))
    (k : Chg (fun k => k = g) w w2) : Dig (w2.setCell ⟨g, 73, none⟩ v) g Y ∧ Chg (fun k => k = g) w (w2.setCell ⟨g, 73, none⟩ v) := by
  refine ⟨⟨wt, h.2.1, h.2.2.1, ?_⟩, k.setCell (.inr rfl) _⟩
  have := dig_blk_n hb h.2.1 Y.length
  rw [h.2.2.2, hv, show (X.length : Int) + (n : Int) = (Y.length : Int) by omega]
  exact this

theorem next_at {D : Nat → Prop} {w : World} {ad : Addr} {bs : List UInt8} {c : Nat} (h : Rd D w (some ad) bs) (hl : bs.length = 64) {sa sb sc sd se sf sg sh na nb nc nd ne nf ng nh : W32} (hn : St.next ⟨sa, sb, sc, sd, se, sf, sg, sh⟩ bs = ⟨na, nb, nc, nd, ne, nf, ng, nh⟩) :
    Calls Try.prog 31 #[.agg #[.int .u32 (sa.toNat : Int), .int .u32 (sb.toNat : Int), .int .u32 (sc.toNat : Int), .int .u32 (sd.toNat : Int), .int .u32 (se.toNat : Int), .int .u32 (sf.toNat : Int), .int .u32 (sg.toNat : Int), .int .u32 (sh.toNat : Int)], .slice (some ad) 64 c] w
      fun e w' => e = .returned (.agg #[.int .u32 (na.toNat : Int), .int .u32 (nb.toNat : Int), .int .u32 (nc.toNat : Int), .int .u32 (nd.toNat : Int), .int .u32 (ne.toNat : Int), .int .u32 (nf.toNat : Int), .int .u32 (ng.toNat : Int), .int .u32 (nh.toNat : Int)]) ∧ Chg (fun _ => False) w w' := by
  have := next_any (c := c) h hl ⟨sa, sb, sc, sd, se, sf, sg, sh⟩
  rw [hn] at this
  exact this
theorem digL_state (s : St) (wt : List UInt8) (n : Nat) (na nb nc nd ne nf ng nh : W32) : ((((((((((digL s wt n).toArray.setIfInBounds 1 (wv na)).setIfInBounds 2 (wv nb)).setIfInBounds 3 (wv nc)).setIfInBounds 4 (wv nd)).setIfInBounds 5 (wv ne)).setIfInBounds 6 (wv nf)).setIfInBounds 7 (wv ng)).setIfInBounds 8 (wv nh)) = (digL ⟨na, nb, nc, nd, ne, nf, ng, nh⟩ wt n).toArray) := by
  simp only [List.setIfInBounds_toArray]
  rfl
theorem digL_s (s : St) (wt : List UInt8) (n : Nat) : (digL s wt n)[1]? = some (wv s.a) ∧ (digL s wt n)[2]? = some (wv s.b) ∧ (digL s wt n)[3]? = some (wv s.c) ∧ (digL s wt n)[4]? = some (wv s.d) ∧ (digL s wt n)[5]? = some (wv s.e) ∧ (digL s wt n)[6]? = some (wv s.f) ∧ (digL s wt n)[7]? = some (wv s.g) ∧ (digL s wt n)[8]? = some (wv s.h) := ⟨rfl, rfl, rfl, rfl, rfl, rfl, rfl, rfl⟩
theorem dig_full_done {w4 : World} {g n : Nat} {Y Z wt : List UInt8} {s : St} (h4 : Blk w4 g 54 (digL s wt n).toArray) (h : wt.length = 64 ∧ wt.take (Y.length % 64) = Y.drop (64 * (Y.length / 64)) ∧ runB Y (Y.length / 64) = s) (hZ : Z = Y) (hn : n = Y.length) : Dig w4 g Z := by
  subst hZ; subst hn
  refine ⟨wt, h.1, h.2.1, ?_⟩
  rw [h.2.2]
  exact h4
/-- The bytes that wait, as a slice. -/
theorem dig_wait {w : World} {g : Nat} {s : St} {wt : List UInt8} {n : Nat} (hb : Blk w g 54 (digL s wt n).toArray) (hw : wt.length = 64) : Rd (fun k => k = g) w (some ⟨g, 9, none⟩) wt := fun _ =>
  ⟨_, rfl, rfl, fun j u hu => by
    have hj : j < 64 := by have := (List.getElem?_eq_some_iff.1 hu).1; rw [bcs_length] at this; omega
    rw [Addr.add_lit, hb.cell, List.getElem?_toArray, digL_w _ hw _ hj, ← hu]
    simp [bcs, hw, hj]⟩

theorem Rd.chg {D S : Nat → Prop} {w w' : World} {A : Option Addr} {xs : List UInt8} (h : Rd D w A xs) (hw : Chg S w w') (hd : ∀ k, D k → ¬ S k) : Rd D w' A xs := RdC.chg h hw hd
theorem nodrew (w : World) : Chg (fun _ => False) w w.drew := (Chg.refl _ w).drew
theorem nochg {a b c : World} (h : Chg (fun _ => False) a b) (h' : Chg (fun _ => False) b c) : Chg (fun _ => False) a c := h.trans h' fun _ _ h => h

/-- The world behind the eight words are stored. -/
def st8 (w : World) (g : Nat) (na nb nc nd ne nf ng nh : W32) : World :=
  ((((((((w.setCell ⟨g, 1, none⟩ (.int .u32 (na.toNat : Int))).setCell ⟨g, 2, none⟩ (.int .u32 (nb.toNat : Int))).setCell ⟨g, 3, none⟩ (.int .u32 (nc.toNat : Int))).setCell ⟨g, 4, none⟩ (.int .u32 (nd.toNat : Int))).setCell ⟨g, 5, none⟩ (.int .u32 (ne.toNat : Int))).setCell ⟨g, 6, none⟩ (.int .u32 (nf.toNat : Int))).setCell ⟨g, 7, none⟩ (.int .u32 (ng.toNat : Int))).setCell ⟨g, 8, none⟩ (.int .u32 (nh.toNat : Int)))
theorem st8_blk {w : World} {g : Nat} {s : St} {wt : List UInt8} {n : Nat} (hb : Blk w g 54 (digL s wt n).toArray) (na nb nc nd ne nf ng nh : W32) : Blk (st8 w g na nb nc nd ne nf ng nh) g 54 (digL ⟨na, nb, nc, nd, ne, nf, ng, nh⟩ wt n).toArray := by
  rw [← digL_state s wt n]
  exact (((((((hb.set_ 1 _).set_ 2 _).set_ 3 _).set_ 4 _).set_ 5 _).set_ 6 _).set_ 7 _).set_ 8 _
theorem st8_chg (w : World) (g : Nat) (na nb nc nd ne nf ng nh : W32) : Chg (fun k => k = g) w (st8 w g na nb nc nd ne nf ng nh) :=
  ((((((((Chg.refl (fun k => k = g) w).setCell (.inr rfl) _).setCell (.inr rfl) _).setCell (.inr rfl) _).setCell (.inr rfl) _).setCell (.inr rfl) _).setCell (.inr rfl) _).setCell (.inr rfl) _).setCell (.inr rfl) _

set_option maxRecDepth 100000 in
set_option maxHeartbeats 4000000 in
theorem write_any {D : Nat → Prop} {w : World} {g : Nat} {xs bs : List UInt8} {A : Option Addr} {c : Nat} (hD : Dig w g xs) (hr : Rd D w A bs) (hd : ∀ k, D k → k ≠ g) (hlen : xs.length + bs.length ≤ 4611686018427387904) (hc : bs.length ≤ c) :
    Calls Try.prog 16 #[.pointer (some ⟨g, 0, none⟩), .slice A bs.length c] w fun e w' => e = .returned (.tuple #[]) ∧ Dig w' g (xs ++ bs) ∧ Chg (fun k => k = g) w w' := by
  have c0 : w.cell? ⟨g, 0, none⟩ = some (.bool true) := by
    obtain ⟨wt, _, _, hb⟩ := hD
    rw [hb.cell]; rfl
  go_enter Try.func16, Try.ntmps16
  go_wp2_with fail
  clear c0
  go_loopg [1, 4, 5] bs.length (fun k b _ _ wr => ∃ (m : Nat) (A' : Option Addr) (c' : Nat), (m + k ≤ bs.length ∧ bs.length ≤ m + k) ∧ b = .slice A' (bs.length - m) c' ∧ bs.length - m ≤ c' ∧ Rd D wr A' (bs.drop m) ∧ Dig wr g (xs ++ bs.take m) ∧ Chg (fun k => k = g) w wr)
  case atStart => exact ⟨0, A, c, ⟨by omega, by omega⟩, rfl, hc, hr, by simpa using hD, Chg.refl _ _⟩
  case round =>
    obtain ⟨m, A', c', ⟨hm1, hm2⟩, rfl, hc', hR, hDg, hk⟩ := hrel
    by_cases hm : m < bs.length
    · obtain ⟨wt, hw, ht, hb⟩ := hDg
      have hxl : (xs ++ bs.take m).length = xs.length + m := by rw [List.length_append, List.length_take, Nat.min_eq_left (by omega)]
      generalize hX : xs ++ bs.take m = X at *
      obtain ⟨p, hp⟩ : ∃ p, X.length % 64 = p := ⟨_, rfl⟩
      obtain ⟨nl, hnl⟩ : ∃ nl, bs.length - m = nl := ⟨_, rfl⟩
      have hnl0 : (0 : Int) < (nl : Int) := by omega
      have hnl1 : 0 < nl := by omega
      have cn := hb.cell 73
      rw [List.getElem?_toArray, digL_n _ hw] at cn
      have hpi : ((X.length : Nat) : Int) % 64 = (p : Int) := by omega
      have hp64 : (p : Int) < 64 := by omega
      have hp65 : (p : Int) ≤ 64 := by omega
      have hp66 : p ≤ 64 := by omega
      rw [hnl]
      have hbl : bs.length ≤ 4611686018427387904 := by omega
      have hXl : X.length ≤ 4611686018427387904 := by omega
      obtain ⟨ad, rfl⟩ : ∃ ad, A' = some ad := (RdC.at_ hR (k := 0) (by rw [bcs_length, List.length_drop]; omega)).imp fun _ h => h.1
      by_cases hfull : 64 - p ≤ nl
      · obtain ⟨q, hq⟩ : ∃ q, 64 - p = q := ⟨_, rfl⟩
        obtain ⟨ys, hys⟩ : ∃ ys, (bs.drop m).take q = ys := ⟨_, rfl⟩
        have hyl : ys.length = q := by rw [← hys, List.length_take, List.length_drop]; omega
        have hn1 : (bcs ys).length = Nat.min nl q := by rw [bcs_length, hyl]; exact (Nat.min_eq_right (by omega)).symm
        have hn2 : (bcs ys).length = q := by rw [bcs_length, hyl]
        have hdl := digL_length (runB X (X.length / 64)) hw X.length
        have hfit : 9 + p + (bcs ys).length ≤ (digL (runB X (X.length / 64)) wt X.length).length := by rw [hdl, hn2]; omega
        have h1 : ∀ v ∈ bcs ys, v.oneCell' = true := fun v hv => by
          obtain ⟨b, _, rfl⟩ := List.mem_map.1 hv
          rfl
        have hpos : 0 < (bcs ys).length → some (⟨g, 9 + p, none⟩ : Addr) = some ⟨g, 9 + p, none⟩ ∧ ∃ ad', some ad = some ad' ∧ ∀ j v, (bcs ys)[j]? = some v → wr.cell? (ad'.add j) = some v := fun _ => ⟨rfl, ad, rfl, fun j v hv => hR.cells j v (by
          rw [← hys] at hv
          unfold bcs at hv ⊢
          rw [List.map_take, List.getElem?_take] at hv
          split at hv
          · exact hv
          · cases hv)⟩
        have hsp := digL_splice (runB X (X.length / 64)) (ys := ys) hw X.length (p := p) (by rw [hyl]; omega)
        have hpt := dig_full (xs := X) (ys := ys) (wt := wt) hp.symm hw (by rw [hp] at ht; exact ht) (by rw [hyl]; omega)
        have hXX : X ++ ys = xs ++ bs.take (m + q) := by rw [← hX, ← hys, List.append_assoc, ← List.take_add]
        have hXn : X.length + q = (xs ++ bs.take (m + q)).length := by rw [← hXX, List.length_append, hyl]
        have e64 : ((p : Int) + (q : Int) == 64) = true := by simp; omega
        have hq0 : 0 < q := by omega
        have hqn : (q : Int) ≤ (nl : Int) := by omega
        have hqb : (q : Int) ≤ 64 := by omega
        have hmq : m + q ≤ bs.length := by omega
        have hdd : bs.drop (m + q) = (bs.drop m).drop q := by rw [List.drop_drop]
        have hnq : bs.length - (m + q) = nl - q := by omega
        have hle : q ≤ nl := hq ▸ hfull
        rw [hXX] at hpt
        have HX := Lib.hid hX
        have HNL := Lib.hid hnl
        have HP := Lib.hid hp
        have HXL := Lib.hid hxl
        have HPT := Lib.hid hpt
        have HYN := Lib.hid hXn
        have HDD := Lib.hid hdd
        have HNQ := Lib.hid hnq
        obtain ⟨Y, hY⟩ : ∃ Y, xs ++ bs.take (m + q) = Y := ⟨_, rfl⟩
        rw [hY] at HPT HYN
        have HY := Lib.hid hY
        clear hX hnl hp hxl ht hys hdl hpt hXn hXX hdd hnq hY hfull
        by_cases hck : c' = q
        · have hnlq : q = nl := by have := HNL.out; omega
          have hck' : q = c' := hck.symm
          subst hck'
          subst hnlq
          go_wp2_with (first
            | ((with_reducible refine wpList_copy_chg rfl (.tmp 27) (.tmp 28) 25 25 rfl 5 Try.underlying25 info5 (some ⟨g, 9 + p, none⟩) (some ad) q q q q rfl rfl g (9 + p) (digL (runB X (X.length / 64)) wt X.length) 54 hb (bcs ys) hn1 hpos hfit h1 ?_); rw [hn2, hsp]; intro w2 hb2 k2; have cn2 := hb2.cell 73; rw [List.getElem?_toArray, digL_n _ HPT.out.1] at cn2; have fn2 := hb2.frozen 73))
          have hb3 := dig_blk_n hb2 HPT.out.1 (X.length + q)
          have hk3 := (hk.trans k2 (fun _ _ h => h)).setCell (p := ⟨g, 73, none⟩) (.inr rfl) (.int .i64 (((X.length + q : Nat)) : Int))
          have hRest : Rd D (w2.setCell ⟨g, 73, none⟩ (.int .i64 (((X.length + q : Nat)) : Int))) (some ad) (bs.drop (m + q)) := by
            rw [List.drop_of_length_le (by have := HNL.out; omega)]
            exact RdC.nil _
          rw [show (((X.length + q : Nat)) : Int) = (X.length : Int) + (q : Int) by omega] at hb3 hk3 hRest
          clear hb2 cn2 fn2 k2
          generalize w2.setCell ⟨g, 73, none⟩ (.int .i64 ((X.length : Int) + (q : Int))) = w3 at *
          have HDONE := Lib.hid (fun w4 (h4 : Blk w4 g 54 (digL ((runB X (X.length / 64)).next (splice wt p ys)) (splice wt p ys) (X.length + q)).toArray) => dig_full_done (Z := xs ++ bs.take (m + q)) h4 HPT.out HY.out HYN.out)
          have hwl := HPT.out.1
          generalize splice wt p ys = wt2 at *
          generalize runB X (X.length / 64) = st at *
          have hrw := dig_wait hb3 hwl
          obtain ⟨nx, hnx⟩ : ∃ nx, st.next wt2 = nx := ⟨_, rfl⟩
          rw [hnx] at HDONE
          obtain ⟨sa, sb, sc, sd, se, sf, sg, sh⟩ := st
          obtain ⟨na, nb, nc, nd, ne, nf, ng, nh⟩ := nx
          obtain ⟨s1, s2, s3, s4, s5, s6, s7, s8⟩ := digL_s ⟨sa, sb, sc, sd, se, sf, sg, sh⟩ wt2 (X.length + q)
          simp only [← List.getElem?_toArray, ← hb3.cell, wv] at s1 s2 s3 s4 s5 s6 s7 s8
          have HNX := Lib.hid hnx
          clear hnx
          go_region_with ((go_at_call 31; refine (next_at (hrw.chg (nodrew w3) (fun _ _ h => h)) hwl HNX.out).mono ?_; rintro e w5 ⟨rfl, k5⟩; have hk5 := nochg (nodrew w3) k5; have hb5 := hb3.chg hk5 (fun h => h); obtain ⟨d1, d2, d3, d4, d5, d6, d7, d8⟩ := digL_s ⟨sa, sb, sc, sd, se, sf, sg, sh⟩ wt2 (X.length + q); simp only [← List.getElem?_toArray, ← hb5.cell, wv] at d1 d2 d3 d4 d5 d6 d7 d8; have fz := hb5.frozen))
          have hb6 := st8_blk hb5 na nb nc nd ne nf ng nh
          have hk6 := (hk3.trans hk5 (fun _ _ h => h.elim)).trans (st8_chg w5 g na nb nc nd ne nf ng nh) (fun _ _ h => h)
          have hR6 := (hRest.chg hk5 (fun _ _ h => h)).chg (st8_chg w5 g na nb nc nd ne nf ng nh) hd
          have HDG := Lib.hid (HDONE.out _ hb6)
          clear hb6 d1 d2 d3 d4 d5 d6 d7 d8 s1 s2 s3 s4 s5 s6 s7 s8 fz
          unfold st8 at HDG hk6 hR6
          go_wp2_with fail
          go_roundg (gk - q)
          case measure => omega
          case rel => exact ⟨m + q, some ad, 0, ⟨by omega, by omega⟩, by rw [HNQ.out]; simp, by have := HNL.out; omega, hR6, HDG.out, hk6⟩
        · have hck1 : q < c' := by omega
          have hck2 : (q : Int) ≤ (c' : Int) := by omega
          go_wp2_with (first
            | ((with_reducible refine wpList_copy_chg rfl (.tmp 27) (.tmp 28) 25 25 rfl 5 Try.underlying25 info5 (some ⟨g, 9 + p, none⟩) (some ad) q q nl c' rfl rfl g (9 + p) (digL (runB X (X.length / 64)) wt X.length) 54 hb (bcs ys) hn1 hpos hfit h1 ?_); rw [hn2, hsp]; intro w2 hb2 k2; have cn2 := hb2.cell 73; rw [List.getElem?_toArray, digL_n _ HPT.out.1] at cn2; have fn2 := hb2.frozen 73))
          have hb3 := dig_blk_n hb2 HPT.out.1 (X.length + q)
          have hk3 := (hk.trans k2 (fun _ _ h => h)).setCell (p := ⟨g, 73, none⟩) (.inr rfl) (.int .i64 (((X.length + q : Nat)) : Int))
          have hRest : Rd D (w2.setCell ⟨g, 73, none⟩ (.int .i64 (((X.length + q : Nat)) : Int))) (some (ad.add q)) (bs.drop (m + q)) := by
            rw [HDD.out]
            exact rd_drop hR (k2.setCell (p := ⟨g, 73, none⟩) (.inr rfl) _) hd q
          rw [show (((X.length + q : Nat)) : Int) = (X.length : Int) + (q : Int) by omega] at hb3 hk3 hRest
          clear hb2 cn2 fn2 k2
          generalize w2.setCell ⟨g, 73, none⟩ (.int .i64 ((X.length : Int) + (q : Int))) = w3 at *
          have HDONE := Lib.hid (fun w4 (h4 : Blk w4 g 54 (digL ((runB X (X.length / 64)).next (splice wt p ys)) (splice wt p ys) (X.length + q)).toArray) => dig_full_done (Z := xs ++ bs.take (m + q)) h4 HPT.out HY.out HYN.out)
          have hwl := HPT.out.1
          generalize splice wt p ys = wt2 at *
          generalize runB X (X.length / 64) = st at *
          have hrw := dig_wait hb3 hwl
          obtain ⟨nx, hnx⟩ : ∃ nx, st.next wt2 = nx := ⟨_, rfl⟩
          rw [hnx] at HDONE
          obtain ⟨sa, sb, sc, sd, se, sf, sg, sh⟩ := st
          obtain ⟨na, nb, nc, nd, ne, nf, ng, nh⟩ := nx
          obtain ⟨s1, s2, s3, s4, s5, s6, s7, s8⟩ := digL_s ⟨sa, sb, sc, sd, se, sf, sg, sh⟩ wt2 (X.length + q)
          simp only [← List.getElem?_toArray, ← hb3.cell, wv] at s1 s2 s3 s4 s5 s6 s7 s8
          have HNX := Lib.hid hnx
          clear hnx
          go_region_with ((go_at_call 31; refine (next_at (hrw.chg (nodrew w3) (fun _ _ h => h)) hwl HNX.out).mono ?_; rintro e w5 ⟨rfl, k5⟩; have hk5 := nochg (nodrew w3) k5; have hb5 := hb3.chg hk5 (fun h => h); obtain ⟨d1, d2, d3, d4, d5, d6, d7, d8⟩ := digL_s ⟨sa, sb, sc, sd, se, sf, sg, sh⟩ wt2 (X.length + q); simp only [← List.getElem?_toArray, ← hb5.cell, wv] at d1 d2 d3 d4 d5 d6 d7 d8; have fz := hb5.frozen))
          have hb6 := st8_blk hb5 na nb nc nd ne nf ng nh
          have hk6 := (hk3.trans hk5 (fun _ _ h => h.elim)).trans (st8_chg w5 g na nb nc nd ne nf ng nh) (fun _ _ h => h)
          have hR6 := (hRest.chg hk5 (fun _ _ h => h)).chg (st8_chg w5 g na nb nc nd ne nf ng nh) hd
          have HDG := Lib.hid (HDONE.out _ hb6)
          clear hb6 d1 d2 d3 d4 d5 d6 d7 d8 s1 s2 s3 s4 s5 s6 s7 s8 fz
          unfold st8 at HDG hk6 hR6
          go_wp2_with fail
          go_roundg (gk - q)
          case measure => omega
          case rel => exact ⟨m + q, some (ad.add q), c' - q, ⟨by omega, by omega⟩, by rw [HNQ.out], by have := HNL.out; omega, hR6, HDG.out, hk6⟩
      · have hys : ((bs.drop m).take nl) = bs.drop m := List.take_of_length_le (by rw [List.length_drop]; omega)
        have hyl : (bs.drop m).length = nl := by rw [List.length_drop]; omega
        have hn1 : (bcs (bs.drop m)).length = Nat.min nl (64 - p) := by rw [bcs_length, hyl]; exact (Nat.min_eq_left (by omega)).symm
        have hn2 : (bcs (bs.drop m)).length = nl := by rw [bcs_length, hyl]
        have hdl := digL_length (runB X (X.length / 64)) hw X.length
        have hfit : 9 + p + (bcs (bs.drop m)).length ≤ (digL (runB X (X.length / 64)) wt X.length).length := by rw [hdl, hn2]; omega
        have h1 : ∀ v ∈ bcs (bs.drop m), v.oneCell' = true := fun v hv => by
          obtain ⟨b, _, rfl⟩ := List.mem_map.1 hv
          rfl
        have hpos : 0 < (bcs (bs.drop m)).length → some (⟨g, 9 + p, none⟩ : Addr) = some ⟨g, 9 + p, none⟩ ∧ ∃ ad', some ad = some ad' ∧ ∀ j v, (bcs (bs.drop m))[j]? = some v → wr.cell? (ad'.add j) = some v := fun _ => ⟨rfl, ad, rfl, hR.cells⟩
        have hsp := digL_splice (runB X (X.length / 64)) (ys := bs.drop m) hw X.length (p := p) (by rw [hyl]; omega)
        have hpt := dig_part (xs := X) (ys := bs.drop m) (wt := wt) hp.symm hw (by rw [hp] at ht; exact ht) (by rw [hyl]; omega)
        have hXX : X ++ bs.drop m = xs ++ bs := by rw [← hX, List.append_assoc, List.take_append_drop]
        have hXn : X.length + nl = (xs ++ bs).length := by rw [← hXX, List.length_append, hyl]
        rw [hXX] at hpt
        have e64 : ((p : Int) + (nl : Int) == 64) = false := beq_eq_false_iff_ne.2 (by omega)
        have hml : m + nl = bs.length := by omega
        have HX := Lib.hid hX
        have HNL := Lib.hid hnl
        have HP := Lib.hid hp
        have HXL := Lib.hid hxl
        have HPT := Lib.hid hpt
        have HXN := Lib.hid hXn
        have HML := Lib.hid hml
        clear hX hnl hp hxl ht hys hdl hpt hXn hXX hml
        by_cases hck : c' = nl
        · subst hck
          go_wp2_with (first
            | ((with_reducible refine wpList_copy_chg rfl (.tmp 27) (.tmp 28) 25 25 rfl 5 Try.underlying25 info5 (some ⟨g, 9 + p, none⟩) (some ad) (64 - p) (64 - p) c' c' rfl rfl g (9 + p) (digL (runB X (X.length / 64)) wt X.length) 54 hb (bcs (bs.drop m)) hn1 hpos hfit h1 ?_); rw [hn2, hsp]; intro w2 hb2 k2; have cn2 := hb2.cell 73; rw [List.getElem?_toArray, digL_n _ HPT.out.2.1] at cn2; have fn2 := hb2.frozen 73))
          have hdd := dig_done hb2 HXN.out HPT.out rfl (hk.trans k2 (fun _ _ h => h))
          go_roundg 0
          case measure => omega
          case rel => exact ⟨bs.length, some ad, 0, ⟨by omega, by omega⟩, by simp, by omega, by rw [List.drop_length]; exact RdC.nil _, by rw [List.take_length]; exact hdd.1, hdd.2⟩
        · have hck1 : nl < c' := by have := HNL.out; omega
          have hck2 : (nl : Int) ≤ (c' : Int) := by omega
          go_wp2_with (first
            | ((with_reducible refine wpList_copy_chg rfl (.tmp 27) (.tmp 28) 25 25 rfl 5 Try.underlying25 info5 (some ⟨g, 9 + p, none⟩) (some ad) (64 - p) (64 - p) nl c' rfl rfl g (9 + p) (digL (runB X (X.length / 64)) wt X.length) 54 hb (bcs (bs.drop m)) hn1 hpos hfit h1 ?_); rw [hn2, hsp]; intro w2 hb2 k2; have cn2 := hb2.cell 73; rw [List.getElem?_toArray, digL_n _ HPT.out.2.1] at cn2; have fn2 := hb2.frozen 73))
          have hdd := dig_done hb2 HXN.out HPT.out rfl (hk.trans k2 (fun _ _ h => h))
          go_roundg 0
          case measure => omega
          case rel => exact ⟨bs.length, some (ad.add nl), c' - nl, ⟨by omega, by omega⟩, by simp, by omega, by rw [List.drop_length]; exact RdC.nil _, by rw [List.take_length]; exact hdd.1, hdd.2⟩
    · obtain rfl : m = bs.length := by omega
      rw [List.take_length] at hDg
      go_wp2_with fail
      go_end0
      exact ⟨rfl, hDg, hk⟩
end Go.Proofs.Ythgfkepflpdalaa
