/- Parse (11). -/
import Derived.Test.YthgfkepflpdalaaText
namespace Go.Proofs.Ythgfkepflpdalaa
open Go.RowKit

set_option maxHeartbeats 1000000 in
theorem idx_any (s : ByteArray) (c : Int) (w : World) : Calls Try.prog 27 #[.string s, .int .u8 c] w fun e w' => e = .returned (.int .i64 (Lib.indexByte s.data.toList c.toNat.toUInt8)) ∧ w = w' := by
  have h36 : Calls Try.prog 36 #[.string s, .int .u8 c] w fun e w' => e = .returned (.int .i64 (Lib.indexByte s.data.toList c.toNat.toUInt8)) ∧ w = w' := by
    go_enter Try.func36, Try.ntmps36
    go_wp2
    rw [run_callFunc_extern Try.func44 (by kernel_rfl) (by kernel_rfl) (by kernel_rfl) (e := Extern.BytealgIndexByte.indexByte) (by kernel_rfl), Lib.run_indexByteString]
    simp only [Result.andThen]
    rw [Oper.upon_value]
    go_wp2
    go_ret
    exact ⟨rfl, rfl⟩
  go_enter Try.func27, Try.ntmps27
  go_wp2_with (go_at_call 36; refine h36.mono ?_; rintro e w' ⟨rfl, rfl⟩)
  go_ret
  exact ⟨rfl, rfl⟩

def dgI (c : UInt8) : Int := Lib.indexByte hexD c
def dg (c : UInt8) : UInt8 := UInt8.ofNat (dgI c).toNat
def pout (s : List UInt8) : Nat → List UInt8
  | 0 => List.replicate 16 0
  | j + 1 => if j < 32 then (pout s j).set (j / 2) (((pout s j).getD (j / 2) 0) <<< 4 ||| dg (s.getD j 0)) else pout s j
theorem pout_length (s : List UInt8) : ∀ j, (pout s j).length = 16
  | 0 => rfl
  | j + 1 => by
    unfold pout
    split
    · simp [pout_length s j]
    · exact pout_length s j
theorem dgI_all : ∀ c : UInt8, dgI c = -1 ∨ (0 ≤ dgI c ∧ dgI c < 16) := by
  have h : ∀ n : Fin 256, dgI (UInt8.ofNat n.val) = -1 ∨ (0 ≤ dgI (UInt8.ofNat n.val) ∧ dgI (UInt8.ofNat n.val) < 16) := by decide +kernel
  intro c
  have := h ⟨c.toNat, UInt8.toNat_lt c⟩
  simpa using this

/-- what Parse tells of a text: the id, the fault's code, its place -/
def parseR (s : List UInt8) : List UInt8 × Int × Int :=
  match (List.range s.length).find? (fun j => dgI (s.getD j 0) < 0) with
  | some j => (List.replicate 16 0, 4, j)
  | none => if s.length = 32 then (pout s s.length, 0, 0) else (List.replicate 16 0, 4, min s.length 32)

theorem zero23 (w : World) : (zeroValue 23).run Try.prog w = .ok (.agg (bcs (List.replicate 16 0)).toArray) w := by kernel_rfl
theorem bcs_size {l : List UInt8} {n : Nat} (h : l.length = n) : (bcs l).toArray.size = n := by simp [bcs, h]

theorem results_two {fn : Func} {p q : Tmp} {t1 t2 ta tb : TypeId} {c1 c2 : Array Value} {n1 n2 : Nat} {w : World} (h : fn.results = #[.cell p t1, .cell q t2]) (tmps : Array Value) (g1 g2 : Nat) (hp : tmps.getD p undef = .pointer (some ⟨g1, 0, none⟩)) (hq : tmps.getD q undef = .pointer (some ⟨g2, 0, none⟩))
    (B1 : Blk w g1 ta c1) (B2 : Blk w g2 tb c2) (T1 : RowTy t1 n1) (T2 : RowTy t2 n2) (hn1 : c1.size = n1) (hn2 : c2.size = n2) :
    (results fn tmps).run Try.prog w = .ok (.tuple #[.agg c1, .agg c2]) w := by
  obtain ⟨d1, a1, a2, a3⟩ := T1
  obtain ⟨d2, b1, b2, b3⟩ := T2
  have hp' : tmps[p]?.getD undef = .pointer (some ⟨g1, 0, none⟩) := by simpa using hp
  have hq' : tmps[q]?.getD undef = .pointer (some ⟨g2, 0, none⟩) := by simpa using hq
  have e1 := run_loadVar_row w g1 ta t1 c1 (0, 0) d1 B1 a1 (by cases d1 <;> simp_all) (by rw [a3, hn1])
  have e2 := run_loadVar_row w g2 tb t2 c2 (0, 0) d2 B2 b1 (by cases d2 <;> simp_all) (by rw [b3, hn2])
  simp [results, h, hp', hq', asAddr, e1, e2]

theorem rt28 : RowTy 28 2 := ⟨_, Try.underlying28, by kernel_rfl, by kernel_rfl⟩

theorem find_none {bs : List UInt8} (h : ∀ l, l < bs.length → ¬ dgI (bs.getD l 0) < 0) : (List.range bs.length).find? (fun j => dgI (bs.getD j 0) < 0) = none := by
  rw [List.find?_eq_none]
  intro x hx
  simpa using h x (by simpa using hx)
theorem find_some {bs : List UInt8} {j : Nat} (hj : j < bs.length) (h : ∀ l, l < j → ¬ dgI (bs.getD l 0) < 0) (hb : dgI (bs.getD j 0) < 0) : (List.range bs.length).find? (fun j => dgI (bs.getD j 0) < 0) = some j := by
  rw [List.find?_eq_some_iff_getElem]
  refine ⟨by simpa using hb, j, by simpa using hj, by simp, fun l hl => ?_⟩
  have := h l hl
  simp only [List.getElem_range]
  simpa using this
theorem parse_bad {bs : List UInt8} {j : Nat} (hj : j < bs.length) (h : ∀ l, l < j → ¬ dgI (bs.getD l 0) < 0) (hb : dgI (bs.getD j 0) < 0) : parseR bs = (List.replicate 16 0, 4, (j : Int)) := by
  simp only [parseR, find_some hj h hb]
theorem parse_len {bs : List UInt8} (h : ∀ l, l < bs.length → ¬ dgI (bs.getD l 0) < 0) (hb : bs.length ≠ 32) : parseR bs = (List.replicate 16 0, 4, min (bs.length : Int) 32) := by
  simp only [parseR, find_none h, if_neg hb]
theorem parse_ok {bs : List UInt8} (h : ∀ l, l < bs.length → ¬ dgI (bs.getD l 0) < 0) (hb : bs.length = 32) : parseR bs = (pout bs bs.length, 0, 0) := by
  simp only [parseR, find_none h, if_pos hb]

theorem nib (o m : Nat) (ho : o < 256) (hm : m < 16) : Value.int .u8 (bits BinOp.or IntKind.u8 ((o : Int) * 16 % 256) m) = bv (UInt8.ofNat o <<< 4 ||| UInt8.ofNat m) := by
  have h : ∀ (o : Fin 256) (m : Fin 16), bits BinOp.or IntKind.u8 ((o.val : Int) * 16 % 256) m.val = ((UInt8.ofNat o.val <<< 4 ||| UInt8.ofNat m.val).toNat : Int) := by decide +kernel
  have := h ⟨o, ho⟩ ⟨m, hm⟩
  rw [this]
  rfl
theorem bcs_set (l : List UInt8) (i : Nat) (b : UInt8) : (bcs l).toArray.setIfInBounds i (bv b) = (bcs (l.set i b)).toArray := by
  simp [bcs, List.map_set]

set_option maxRecDepth 100000 in
set_option maxHeartbeats 1600000 in
theorem parse_any (w : World) (s : ByteArray) (bs : List UInt8) (hs : s.data.toList = bs) (hl : bs.length ≤ maxLen) :
    Calls Try.prog 11 #[.string s] w fun e w' => e = .returned (.tuple #[.agg (bcs (parseR bs).1).toArray, .agg #[.int .i64 (parseR bs).2.1, .int .i64 (parseR bs).2.2]]) ∧ Chg (fun _ => False) w w' := by
  have hsz : s.size = bs.length := by rw [← hs, Array.length_toList]; rfl
  have hmx : bs.length ≤ 9223372036854775807 := hl
  obtain ⟨Z, hZ, hz23, hZn, hZ1⟩ : ∃ Z : Array Value, (bcs (List.replicate 16 0)).toArray = Z ∧ (∀ w, (zeroValue 23).run Try.prog w = .ok (.agg Z) w) ∧ Z.size = 16 ∧ Z.all (·.oneCell') = true := ⟨_, rfl, zero23, bcs_size (by simp), bcs_one _⟩
  have HZ := Lib.hid hZ
  clear hZ
  have A0 := ((Blk.new w 23 Z).alloc (.cells #[.int .i64 0, .int .i64 0] 28)).alloc (.cells Z 23)
  have A1 := (Blk.newAt (w := w.alloc (.cells Z 23)) (t := 28) (cs := #[.int .i64 0, .int .i64 0]) (B := w.heap.size + 1) (by simp)).alloc (.cells Z 23)
  have A2 := Blk.newAt (w := (w.alloc (.cells Z 23)).alloc (.cells #[.int .i64 0, .int .i64 0] 28)) (t := 23) (cs := Z) (B := w.heap.size + 1 + 1) (by simp)
  have A3 := (((Chg.refl (fun _ => False) w).alloc (.cells Z 23)).alloc (.cells #[.int .i64 0, .int .i64 0] 28)).alloc (.cells Z 23)
  go_enter Try.func11, Try.ntmps11
  go_wp2_with fail
  go_loopg [9] s.size (fun k i wr => ∃ j : Nat, j + k = s.size ∧ i = .int .i64 j ∧ (∀ l, l < j → ¬ dgI (bs.getD l 0) < 0) ∧
    Blk wr w.heap.size 23 Z ∧ Blk wr (w.heap.size + 1) 28 #[.int .i64 0, .int .i64 0] ∧ Blk wr (w.heap.size + 1 + 1) 23 (bcs (pout bs j)).toArray ∧ Chg (fun _ => False) w wr)
  case atStart =>
    refine ⟨0, by simp, rfl, fun l h => by omega, A0, A1, ?_, A3⟩
    rw [show pout bs 0 = List.replicate 16 0 from rfl, HZ.out]
    exact A2
  case round =>
    obtain ⟨j, hj, rfl, hg, b0, b1, b2, hc⟩ := hrel
    have HG := Lib.hid hg
    clear hg A0 A1 A2 A3
    by_cases h : j < s.size
    · have hc1 : bs.getD j 0 = s[j] := by
        have : j < bs.length := by omega
        simp only [List.getD, List.getElem?_eq_getElem this, Option.getD_some]
        simp only [← hs, Array.getElem_toList]
        rfl
      have hDg : dgI s[j] = Lib.indexByte [48, 49, 50, 51, 52, 53, 54, 55, 56, 57, 97, 98, 99, 100, 101, 102] s[j] := rfl
      have hwr : wrap64 ((j : Int) + 1) = (j : Int) + 1 := by unfold wrap64; omega
      rcases dgI_all s[j] with hd | ⟨hd0, hd1⟩
      · have hbad := parse_bad (by omega) HG.out (by rw [hc1, hd]; decide)
        rw [hDg] at hd
        have HB := Lib.hid hbad
        clear hbad
        go_wp2_with (first
          | (go_at_call 27; refine (idx_any _ _ _).mono ?_; rintro e w' ⟨rfl, rfl⟩)
          | ((with_reducible refine wpList_storeE (o := ⟨none, .store 23 (.tmp 2) (.tmp 18), _, _, _, none⟩) rfl 23 (.tmp 2) (.tmp 18) rfl w.heap.size Z rfl rfl 16 rt23 hZn hZ1 ?_ ?_); exact ⟨_, _, b0, hZn⟩; have nb := b1.row_far (g' := w.heap.size) (by omega) Z; have q0 := (nb.cell 0).trans rfl; have q1 := (nb.cell 1).trans rfl; have f0 := nb.frozen 0; have f1 := nb.frozen 1))
        refine bodyPost_ret (results_two (fn := Try.f11) (p := 2) (q := 3) Try.results11 _ w.heap.size (w.heap.size + 1) (by rfl) (by rfl) (((b0.row Z).far (by simp) _).far (by simp) _) ((nb.set_ 0 _).set_ 1 _) rt23 rt28 hZn rfl) rfl ?_
        rw [HB.out, HZ.out]
        exact ⟨rfl, ((hc.setRow (.inl (Nat.le_refl _)) _).setCell (.inl (by simp)) _).setCell (.inl (by simp)) _⟩
      · obtain ⟨m, hm⟩ : ∃ m : Nat, dgI s[j] = (m : Int) := ⟨(dgI s[j]).toNat, by omega⟩
        have hm16 : m < 16 := by omega
        have hgood : ∀ l, l < j + 1 → ¬ dgI (bs.getD l 0) < 0 := by
          intro l hl
          rcases Nat.lt_or_eq_of_le (Nat.le_of_lt_succ hl) with h1 | h1
          · exact HG.out l h1
          · subst h1; rw [hc1]; omega
        have HG2 := Lib.hid hgood
        clear hgood
        have hdg : dg (bs.getD j 0) = UInt8.ofNat m := by rw [hc1]; unfold dg; rw [hm]; simp
        have hdl : dg (bs.getD j 0) = UInt8.ofNat m := hdg
        rw [hDg] at hm
        clear hDg hd0 hd1 hdl
        by_cases h32 : j < 32
        · have hpl := pout_length bs j
          obtain ⟨o, ho⟩ : ∃ o : Nat, (pout bs j).getD (j / 2) 0 = UInt8.ofNat o ∧ o < 256 := ⟨((pout bs j).getD (j / 2) 0).toNat, by simp, UInt8.toNat_lt _⟩
          have hcell : wr.cell? ⟨w.heap.size + 1 + 1, j / 2, none⟩ = some (.int .u8 o) := by
            rw [b2.cell]
            have : j / 2 < (pout bs j).length := by omega
            have h2 := ho.1
            rw [List.getD_eq_getElem?_getD, List.getElem?_eq_getElem this] at h2
            simp only [Option.getD_some] at h2
            simp [bcs, List.getElem?_eq_getElem this, bv, h2]
            omega
          have hfz := b2.frozen (j / 2)
          have hj2 : j / 2 < 16 := by omega
          have hpo : pout bs (j + 1) = (pout bs j).set (j / 2) (UInt8.ofNat o <<< 4 ||| UInt8.ofNat m) := by
            rw [pout, if_pos h32, ho.1, hdg]
          have HP := Lib.hid hpo
          have ho2 := ho.2
          clear hpo ho hdg
          go_wp2_with (first
            | (go_at_call 27; refine (idx_any _ _ _).mono ?_; rintro e w' ⟨rfl, rfl⟩))
          have hb2 := b2.set_ (j / 2) (.int .u8 (bits BinOp.or IntKind.u8 ((o : Int) * 16 % 256) m))
          rw [nib o m ho2 hm16, bcs_set, ← HP.out] at hb2
          go_roundg (s.size - (j + 1))
          case measure => omega
          case rel => 
            rw [nib o m ho2 hm16]
            exact ⟨j + 1, by omega, by simp, HG2.out, b0.far (by simp; omega) _, b1.far (by simp) _, hb2, hc.setCell (.inl (by simp; omega)) _⟩
        · have hpo : pout bs (j + 1) = pout bs j := by rw [pout, if_neg h32]
          rw [← hpo] at b2
          clear hdg hpo
          go_wp2_with (first
            | (go_at_call 27; refine (idx_any _ _ _).mono ?_; rintro e w' ⟨rfl, rfl⟩))
          go_roundg (s.size - (j + 1))
          case measure => omega
          case rel => exact ⟨j + 1, by omega, by simp, HG2.out, b0, b1, b2, hc⟩
    · have hjs : j = bs.length := by omega
      subst hjs
      by_cases h32 : bs.length = 32
      · have hok := parse_ok HG.out h32
        have HB := Lib.hid hok
        clear hok
        have hpn := bcs_size (pout_length bs bs.length)
        have hpo := bcs_one (pout bs bs.length)
        generalize hPP : (bcs (pout bs bs.length)).toArray = PP at *
        have HPP := Lib.hid hPP
        clear hPP
        go_wp2_with (first
          | ((with_reducible refine wpList_loadE (o := ⟨some 43, .load 23 (.tmp 4), _, _, _, none⟩) rfl 23 (.tmp 4) rfl (w.heap.size + 1 + 1) rfl PP 16 rt23 hpn ?_ ?_); exact ⟨_, b2⟩)
          | ((with_reducible refine wpList_storeE (o := ⟨none, .store 23 (.tmp 2) (.tmp 43), _, _, _, none⟩) rfl 23 (.tmp 2) (.tmp 43) rfl w.heap.size PP rfl rfl 16 rt23 hpn hpo ?_ ?_); exact ⟨_, _, b0, hZn⟩; have nb := b1.row_far (g' := w.heap.size) (by omega) PP; have q0 := (nb.cell 0).trans rfl; have q1 := (nb.cell 1).trans rfl; have f0 := nb.frozen 0; have f1 := nb.frozen 1))
        refine bodyPost_ret (results_two (fn := Try.f11) (p := 2) (q := 3) Try.results11 _ w.heap.size (w.heap.size + 1) (by rfl) (by rfl) (((b0.row PP).far (by simp) _).far (by simp) _) ((nb.set_ 0 _).set_ 1 _) rt23 rt28 hpn rfl) rfl ?_
        rw [HB.out, HPP.out]
        exact ⟨rfl, ((hc.setRow (.inl (Nat.le_refl _)) _).setCell (.inl (by simp)) _).setCell (.inl (by simp)) _⟩
      · have hok := parse_len HG.out h32
        have HB := Lib.hid hok
        clear hok
        go_wp2_with (first
          | ((with_reducible refine wpList_storeE (o := ⟨none, .store 23 (.tmp 2) (.tmp 38), _, _, _, none⟩) rfl 23 (.tmp 2) (.tmp 38) rfl w.heap.size Z rfl rfl 16 rt23 hZn hZ1 ?_ ?_); exact ⟨_, _, b0, hZn⟩; have nb := b1.row_far (g' := w.heap.size) (by omega) Z; have q0 := (nb.cell 0).trans rfl; have q1 := (nb.cell 1).trans rfl; have f0 := nb.frozen 0; have f1 := nb.frozen 1))
        all_goals
          refine bodyPost_ret (results_two (fn := Try.f11) (p := 2) (q := 3) Try.results11 _ w.heap.size (w.heap.size + 1) (by rfl) (by rfl) (((b0.row Z).far (by simp) _).far (by simp) _) ((nb.set_ 0 _).set_ 1 _) rt23 rt28 hZn rfl) rfl ?_
          rw [HB.out, HZ.out]
          refine ⟨?_, ((hc.setRow (.inl (Nat.le_refl _)) _).setCell (.inl (by simp)) _).setCell (.inl (by simp)) _⟩
          first
          | (rw [show min (bs.length : Int) 32 = 32 by omega]; rfl)
          | (rw [show min (bs.length : Int) 32 = bs.length by omega]; rfl)
end Go.Proofs.Ythgfkepflpdalaa
