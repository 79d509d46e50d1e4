/- One round, and what sixty-four bytes do to a state: plain lists; digest.next (31). -/
import Derived.Test.YthgfkepflpdalaaConst
import Derived.Test.YthgfkepflpdalaaSpread
namespace Go.Proofs.Ythgfkepflpdalaa
open Go.RowKit

/-- Eight words. -/
structure St where
  a : W32
  b : W32
  c : W32
  d : W32
  e : W32
  f : W32
  g : W32
  h : W32
def St.list (s : St) : List W32 := [s.a, s.b, s.c, s.d, s.e, s.f, s.g, s.h]
def bsig1 (e : W32) : W32 := rotr e 6 ^^^ rotr e 11 ^^^ rotr e 25
def bsig0 (a : W32) : W32 := rotr a 2 ^^^ rotr a 13 ^^^ rotr a 22
def ch (e f g : W32) : W32 := e &&& f ^^^ ~~~e &&& g
def maj (a b c : W32) : W32 := a &&& b ^^^ a &&& c ^^^ b &&& c
def tt (s : St) (k w : W32) : W32 := s.h + bsig1 s.e + ch s.e s.f s.g + k + w
def uu (s : St) : W32 := bsig0 s.a + maj s.a s.b s.c
def St.round (s : St) (k w : W32) : St := ⟨tt s k w + uu s, s.a, s.b, s.c, s.d + tt s k w, s.e, s.f, s.g⟩
/-- n rounds. -/
def St.rounds (s : St) (ks ws : List W32) : Nat → St
  | 0 => s
  | n + 1 => (s.rounds ks ws n).round (ks.getD n 0) (ws.getD n 0)
def St.add (s r : St) : St := ⟨s.a + r.a, s.b + r.b, s.c + r.c, s.d + r.d, s.e + r.e, s.f + r.f, s.g + r.g, s.h + r.h⟩
def St.next (s : St) (bs : List UInt8) : St := (s.rounds kW (sched bs) 64).add s
theorem St.add_comm (s r : St) : s.add r = r.add s := by
  unfold St.add
  simp only [St.mk.injEq]
  exact ⟨BitVec.add_comm _ _, BitVec.add_comm _ _, BitVec.add_comm _ _, BitVec.add_comm _ _, BitVec.add_comm _ _, BitVec.add_comm _ _, BitVec.add_comm _ _, BitVec.add_comm _ _⟩

theorem bsig1_val (x : W32) : bits .xor .u32 (bits .xor .u32 ((rotr x 6).toNat : Int) ((rotr x 11).toNat : Int)) ((rotr x 25).toNat : Int) = ((bsig1 x).toNat : Int) := by rw [w_xor, w_xor]; rfl
theorem bsig0_val (x : W32) : bits .xor .u32 (bits .xor .u32 ((rotr x 2).toNat : Int) ((rotr x 13).toNat : Int)) ((rotr x 22).toNat : Int) = ((bsig0 x).toNat : Int) := by rw [w_xor, w_xor]; rfl
theorem ch_val (e f g : W32) : bits .xor .u32 (bits .and .u32 (e.toNat : Int) (f.toNat : Int)) (bits .and .u32 (bits .xor .u32 IntKind.u32.max (e.toNat : Int)) (g.toNat : Int)) = ((ch e f g).toNat : Int) := by
  rw [w_not, w_and, w_and, w_xor]; rfl
theorem ch_val' (e f g : W32) : bits .xor .u32 (bits .and .u32 (e.toNat : Int) (f.toNat : Int)) (bits .and .u32 (bits .xor .u32 (if IntKind.u32.signed = true then -1 else IntKind.u32.max) (e.toNat : Int)) (g.toNat : Int)) = ((ch e f g).toNat : Int) := ch_val e f g
theorem w_add' (x y : W32) : ((x.toNat : Int) + (y.toNat : Int)) % 4294967296 = ((x + y).toNat : Int) := by rw [← w_add, IntKind.wrap_u32]
theorem tsum_val (h s c k w : W32) : (((h.toNat : Int) + (s.toNat : Int) + (c.toNat : Int) + (k.toNat : Int)) % 4294967296 + (w.toNat : Int)) % 4294967296 = ((h + s + c + k + w).toNat : Int) := by
  rw [ext_val2, w_add']
theorem maj_val (a b c : W32) : bits .xor .u32 (bits .xor .u32 (bits .and .u32 (a.toNat : Int) (b.toNat : Int)) (bits .and .u32 (a.toNat : Int) (c.toNat : Int))) (bits .and .u32 (b.toNat : Int) (c.toNat : Int)) = ((maj a b c).toNat : Int) := by
  rw [w_and, w_and, w_and, w_xor, w_xor]; rfl

def stv (s : St) : Array Value := #[wv s.a, wv s.b, wv s.c, wv s.d, wv s.e, wv s.f, wv s.g, wv s.h]
theorem stv_arr (s : St) : arr 8 s.list = stv s := rfl

theorem Blk.newAt {w : World} {t : TypeId} {cs : Array Value} {B : Nat} (h : B = w.heap.size) : Blk (w.alloc (.cells cs t)) B t cs := h ▸ Blk.new w t cs
theorem stv_one (s : St) : (stv s).all (·.oneCell') = true := by simp [stv, wv, Value.oneCell']

/-- Eight words, the first i of them added. -/
def addL (s r : List W32) (i : Nat) : List W32 := (List.range 8).map fun k => if k < i then r.getD k 0 + s.getD k 0 else r.getD k 0
theorem addL_zero (s r : St) : addL s.list r.list 0 = r.list := by rfl
theorem addL_full (s r : St) : addL s.list r.list 8 = (r.add s).list := by rfl
theorem addL_set (s r : List W32) {i : Nat} (_hi : i < 8) : (addL s r i).set i (r.getD i 0 + s.getD i 0) = addL s r (i + 1) := by
  apply List.ext_getElem
  · simp [addL]
  · intro k h1 h2
    simp only [addL, List.getElem_set, List.getElem_map, List.getElem_range]
    by_cases hk : i = k
    · subst hk; simp
    · rw [if_neg hk]
      by_cases h3 : k < i
      · rw [if_pos h3, if_pos (by omega)]
      · rw [if_neg h3, if_neg (by omega)]
theorem addL_get (s r : List W32) {i : Nat} (hi : i < 8) : (addL s r i)[i]? = some (r.getD i 0) := by
  unfold addL
  rw [List.getElem?_map, List.getElem?_range hi]
  simp
def arrL (l : List W32) : Array Value := (l.map wv).toArray
theorem arrL_st (s : St) : arrL s.list = stv s := rfl
theorem arrL_set (l : List W32) (i : Nat) (x : W32) : (arrL l).setIfInBounds i (wv x) = arrL (l.set i x) := by
  unfold arrL
  rw [List.setIfInBounds_toArray, ← List.map_set]
theorem st_get (s : St) {i : Nat} (hi : i < 8) : (stv s)[i]? = some (wv (s.list.getD i 0)) := by
  match i, hi with
  | 0, _ => rfl
  | 1, _ => rfl
  | 2, _ => rfl
  | 3, _ => rfl
  | 4, _ => rfl
  | 5, _ => rfl
  | 6, _ => rfl
  | 7, _ => rfl

/-- The blocks of a running 'next'. -/
structure EnvN (w wr : World) (B ty : Nat) (s r : St) (ws : List W32) (z : Array Value) : Prop where
  hS : Blk wr w.heap.size ty (stv s)
  hO : Blk wr (w.heap.size + 1) ty z
  hW : Blk wr B 71 (arr 64 ws)
  hK : Blk wr (B + 1) 71 (arr 64 kW)
  hR : Blk wr (B + 1 + 1) ty (stv r)
  hB : w.heap.size + 2 ≤ B
  chg : Chg (fun _ => False) w wr
theorem envN_start {w w2 : World} {ty : Nat} {s : St} {S0 : Array Value} {ws : List W32} {z z71 z71' z8 : Array Value} (hS0 : stv s = S0) (k : Chg (fun _ => False) ((w.alloc (.cells S0 ty)).alloc (.cells z ty)) w2) :
    EnvN w ((((((w2.alloc (.cells z71 71)).alloc (.cells z71' 71)).setRow w2.heap.size (arr 64 ws)).setRow (w2.heap.size + 1) (arr 64 kW)).alloc (.cells z8 ty)).setRow (w2.heap.size + 1 + 1) S0) w2.heap.size ty s s ws z := by
  subst hS0
  have hs : w.heap.size + 2 ≤ w2.heap.size := by have := k.size; simp at this; omega
  have b1 := ((Blk.new w ty (stv s)).alloc (.cells z ty)).chg k (fun h => h)
  have b2 := (Blk.newAt (w := w.alloc (.cells (stv s) ty)) (t := ty) (cs := z) (B := w.heap.size + 1) (by simp)).chg k (fun h => h)
  refine ⟨?_, ?_, ?_, ?_, ?_, hs, ?_⟩
  · exact (((((b1.alloc _).alloc _).row_far (by omega) _).row_far (by omega) _).alloc _).row_far (by omega) _
  · exact (((((b2.alloc _).alloc _).row_far (by omega) _).row_far (by omega) _).alloc _).row_far (by omega) _
  · exact ((((((Blk.new w2 71 _).alloc _).row _).row_far (by omega) _).alloc _).row_far (by omega) _)
  · exact (((((Blk.newAt (by simp)).row_far (by omega) _).row _).alloc _).row_far (by omega) _)
  · exact (Blk.newAt (cs := z8) (by simp)).row _
  · have c : Chg (fun _ => False) w w2 := (((Chg.refl (fun _ => False) w).alloc _).alloc _).trans k (fun _ _ h => h)
    exact ((((((c.alloc _).alloc _).setRow (.inl (by omega)) _).setRow (.inl (by omega)) _).alloc _).setRow (.inl (by omega)) _)

theorem EnvN.round_ {w wr : World} {B ty : Nat} {s r : St} {ws : List W32} {z : Array Value} (h : EnvN w wr B ty s r ws z) (r' : St) {n : Nat} (_c : Chg (fun _ => False) w (wr.drewN n)) : EnvN w ((wr.drewN n).setRow (B + 1 + 1) (stv r')) B ty s r' ws z :=
  ⟨(h.hS.drewN n).row_far (by have := h.hB; omega) _, (h.hO.drewN n).row_far (by have := h.hB; omega) _, (h.hW.drewN n).row_far (by omega) _, (h.hK.drewN n).row_far (by omega) _, (h.hR.drewN n).row _, h.hB, (h.chg.drewN n).setRow (.inl (by have := h.hB; omega)) _⟩

set_option maxRecDepth 100000 in
set_option maxHeartbeats 4000000 in
theorem next_any {D : Nat → Prop} {w : World} {ad : Addr} {bs : List UInt8} {c : Nat} (h : Rd D w (some ad) bs) (hl : bs.length = 64) (s : St) :
    Calls Try.prog 31 #[.agg (stv s), .slice (some ad) 64 c] w fun e w' => e = .returned (.agg (stv (s.next bs))) ∧ Chg (fun _ => False) w w' := by
  have hsp := fun (w' : World) (k : Chg (fun _ => False) w w') => spread_any (c := c) (h.chg k (fun _ _ h => h)) hl
  have HSP := Lib.hid hsp
  have hs8 : (stv s).size = 8 := rfl
  have hs1 := stv_one s
  have hws64 : (arr 64 (sched bs)).size = 64 := arr_size (by rw [sched_length]; exact Nat.le_refl _)
  have hws1 := arr_one 64 (sched bs)
  have hkw64 : (arr 64 kW).size = 64 := by kernel_rfl
  have hkw1 := arr_one 64 kW
  have HN := Lib.hid (show s.next bs = (s.rounds kW (sched bs) 64).add s from rfl)
  have hlen := sched_length bs
  clear hsp
  generalize s.next bs = nx at *
  generalize sched bs = ws at *
  obtain ⟨S0, hS0⟩ : ∃ S0, stv s = S0 := ⟨_, rfl⟩
  rw [hS0] at hs8 hs1
  have HS0 := Lib.hid hS0
  rw [hS0]
  clear hS0
  go_enter Try.func31, Try.ntmps31
  go_wp2_with (first
    | (go_at_call 38; refine (HSP.out _ (((Chg.refl _ w).alloc _).alloc _)).mono ?_; rintro e w1 ⟨rfl, k1⟩)
    | (go_at_call 39; refine (words_any _).mono ?_; rintro e w2 ⟨rfl, k2⟩; have k12 := k1.trans k2 (fun _ _ h => h); have hS2 := ((Blk.new w 51 S0).alloc _).chg k12 (fun h => h); have hlt2 : w.heap.size + 2 ≤ w2.heap.size := (by have := k12.size; simp at this; omega))
    | ((with_reducible refine wpList_storeE (o := ⟨none, .store 71 (.tmp 5) (.tmp 15), _, _, _, none⟩) rfl 71 (.tmp 5) (.tmp 15) rfl w2.heap.size (arr 64 ws) rfl rfl 64 rt71 hws64 hws1 ?_ ?_); exact ⟨_, _, (Blk.new w2 71 _).alloc _, rfl⟩)
    | ((with_reducible refine wpList_storeE (o := ⟨none, .store 71 (.tmp 6) (.tmp 16), _, _, _, none⟩) rfl 71 (.tmp 6) (.tmp 16) rfl (w2.heap.size + 1) (arr 64 kW) rfl rfl 64 rt71 hkw64 hkw1 ?_ ?_); exact ⟨_, _, (Blk.newAt (by simp)).row_far (by omega) _, rfl⟩)
    | ((with_reducible refine wpList_loadE (o := ⟨some 17, .load 51 (.tmp 2), _, _, _, none⟩) rfl 51 (.tmp 2) rfl w.heap.size rfl S0 8 rt51 hs8 ?_ ?_); exact ⟨_, (((hS2.alloc _).alloc _).row_far (by omega) _).row_far (by omega) _⟩)
    | ((with_reducible refine wpList_storeE (o := ⟨none, .store 51 (.tmp 7) (.tmp 17), _, _, _, none⟩) rfl 51 (.tmp 7) (.tmp 17) rfl (w2.heap.size + 1 + 1) S0 rfl rfl 8 rt51 hs8 hs1 ?_ ?_); exact ⟨_, _, Blk.newAt (by simp), rfl⟩))
  clear hS2
  go_loopg [8, 9, 10, 11, 12, 18] 64 (fun k _ _ _ _ _ i wr => ∃ j : Nat, (j + k ≤ 64 ∧ 64 ≤ j + k) ∧ i = .int .i64 (j : Int) ∧ ∃ z, z.size = 8 ∧ EnvN w wr w2.heap.size 51 s (s.rounds kW ws j) ws z)
  case atStart =>
    refine ⟨0, ⟨by omega, by omega⟩, rfl, _, ?_, envN_start HS0.out k12⟩
    rfl
  case round =>
    obtain ⟨j, ⟨hj1, hj2⟩, rfl, z, hz8, hE⟩ := hrel
    generalize w2.heap.size = B at *
    by_cases hj : j < 64
    · have hrd := Lib.hid (show s.rounds kW ws (j + 1) = (s.rounds kW ws j).round (kW.getD j 0) (ws.getD j 0) from rfl)
      generalize s.rounds kW ws j = r at *
      have r0 := hE.hR.cell 0
      have r1 := hE.hR.cell 1
      have r2 := hE.hR.cell 2
      have r3 := hE.hR.cell 3
      have r4 := hE.hR.cell 4
      have r5 := hE.hR.cell 5
      have r6 := hE.hR.cell 6
      have r7 := hE.hR.cell 7
      have ck := blk_at hE.hK (i := j) hj
      have cw := blk_at hE.hW (i := j) (by omega)
      generalize kW.getD j 0 = kj at *
      generalize ws.getD j 0 = wj at *
      obtain ⟨xa, xb, xc, xd, xe, xf, xg, xh⟩ := r
      simp only [stv, wv, List.getElem?_toArray] at r0 r1 r2 r3 r4 r5 r6 r7
      have hji : (j : Int) < 64 := by omega
      go_wp2_with fail
      go_quiet (fail)
      go_wp2_with fail
      go_quiet ((first
        | (go_at_call 40; with_reducible exact quiet_add_left (down_is xe 6 6 (by decide) _))
        | (go_at_call 40; with_reducible exact quiet_add_left (down_is xe 11 11 (by decide) _))
        | (go_at_call 40; with_reducible exact quiet_add_left (down_is xe 25 25 (by decide) _))))
      have HT := Lib.hid (show tt ⟨xa, xb, xc, xd, xe, xf, xg, xh⟩ kj wj = xh + bsig1 xe + ch xe xf xg + kj + wj from rfl)
      simp only [bsig1_val, ch_val', tsum_val]
      generalize xh + bsig1 xe + ch xe xf xg + kj + wj = T at *
      go_wp2_with fail
      go_quiet ((first
        | (go_at_call 40; with_reducible exact quiet_add_left (down_is xa 2 2 (by decide) _))
        | (go_at_call 40; with_reducible exact quiet_add_left (down_is xa 13 13 (by decide) _))
        | (go_at_call 40; with_reducible exact quiet_add_left (down_is xa 22 22 (by decide) _))))
      have HU := Lib.hid (show uu ⟨xa, xb, xc, xd, xe, xf, xg, xh⟩ = bsig0 xa + maj xa xb xc from rfl)
      simp only [bsig0_val, maj_val, w_add']
      generalize bsig0 xa + maj xa xb xc = U at *
      have hcells : (#[.int .u32 (((T.toNat : Int) + (U.toNat : Int)) % 4294967296), .int .u32 (xa.toNat : Int), .int .u32 (xb.toNat : Int), .int .u32 (xc.toNat : Int), .int .u32 (((xd.toNat : Int) + (T.toNat : Int)) % 4294967296), .int .u32 (xe.toNat : Int), .int .u32 (xf.toNat : Int), .int .u32 (xg.toNat : Int)] : Array Value) = stv (St.round ⟨xa, xb, xc, xd, xe, xf, xg, xh⟩ kj wj) := by
        unfold St.round stv wv
        rw [HT.out, HU.out, w_add', w_add']
      have HC := Lib.hid hcells
      have HE := Lib.hid hE
      clear hcells hE ck cw
      go_wp2_with (first
        | ((with_reducible refine wpList_storeE (o := ⟨none, .store 51 (.tmp 7) (.tmp 96), _, _, _, none⟩) rfl 51 (.tmp 7) (.tmp 96) rfl (B + 1 + 1) #[.int .u32 (((T.toNat : Int) + (U.toNat : Int)) % 4294967296), .int .u32 (xa.toNat : Int), .int .u32 (xb.toNat : Int), .int .u32 (xc.toNat : Int), .int .u32 (((xd.toNat : Int) + (T.toNat : Int)) % 4294967296), .int .u32 (xe.toNat : Int), .int .u32 (xf.toNat : Int), .int .u32 (xg.toNat : Int)] rfl rfl 8 rt51 ?_ ?_ ?_ ?_); rfl; (rw [HC.out]; exact stv_one _); exact ⟨_, _, HE.out.hR, rfl⟩; rw [HC.out]))
      go_roundg (gk - 1)
      case measure => omega
      case rel => exact ⟨j + 1, ⟨by omega, by omega⟩, by go_num, z, hz8, by rw [hrd.out]; exact HE.out.round_ _ (HE.out.chg.drewN _)⟩
    · obtain rfl : j = 64 := by omega
      generalize s.rounds kW ws 64 = r at *
      have hR : Blk wr (B + 1 + 1) 51 (arrL (addL s.list r.list 0)) := by rw [addL_zero, arrL_st]; exact hE.hR
      obtain ⟨hS, hO, _, _, _, hBB, hch⟩ := hE
      clear hs8 hs1 hws64 hws1 hkw64 hkw1 hlen hl
      go_wp2_with fail
      go_loopg [13, 98] 8 (fun k _ i wr => ∃ j : Nat, (j + k ≤ 8 ∧ 8 ≤ j + k) ∧ i = .int .i64 (j : Int) ∧ Blk wr w.heap.size 51 (stv s) ∧ Blk wr (w.heap.size + 1) 51 z ∧ Blk wr (B + 1 + 1) 51 (arrL (addL s.list r.list j)) ∧ Chg (fun _ => False) w wr)
      case atStart => exact ⟨0, ⟨by omega, by omega⟩, rfl, hS, hO, hR, hch⟩
      case round =>
        obtain ⟨j, ⟨hj1, hj2⟩, rfl, hS, hO, hR, hch⟩ := hrel
        by_cases hj : j < 8
        · have cs := hS.cell j
          rw [st_get s hj] at cs
          have cr := hR.cell j
          rw [show (arrL (addL s.list r.list j))[j]? = some (wv (r.list.getD j 0)) by unfold arrL; rw [List.getElem?_toArray, List.getElem?_map, addL_get _ _ hj]; rfl] at cr
          have fr := hR.frozen j
          have hst := Lib.hid (addL_set s.list r.list hj)
          have hS' := Lib.hid (fun v => hS.far (p := ⟨B + 1 + 1, j, none⟩) (by simp; omega) v)
          have hO' := Lib.hid (fun v => hO.far (p := ⟨B + 1 + 1, j, none⟩) (by simp; omega) v)
          have hR' := Lib.hid (fun v => hR.set_ j v)
          have hc' := Lib.hid (fun v => hch.setCell (p := ⟨B + 1 + 1, j, none⟩) (.inl (by simp; omega)) v)
          generalize r.list.getD j 0 = xr at *
          generalize s.list.getD j 0 = xs at *
          simp only [wv] at cs cr
          have hji : (j : Int) < 8 := by omega
          have hne1 : ¬ w.heap.size = B + 1 + 1 := by omega
          have hne2 : ¬ B + 1 + 1 = w.heap.size := by omega
          clear hS hO hR hch
          go_wp2_with fail
          go_region
          clear cs cr fr hne1 hne2
          go_wp2_with fail
          go_roundg (gk - 1)
          case measure => omega
          case rel => exact ⟨j + 1, ⟨by omega, by omega⟩, by go_num, (hS'.out _).drewN _, (hO'.out _).drewN _, by rw [← hst.out, ← arrL_set]; show Blk _ _ _ ((arrL (addL s.list r.list j)).setIfInBounds j (.int .u32 ((xr + xs).toNat : Int))); rw [← w_add']; exact (hR'.out _).drewN _, (hc'.out _).drewN _⟩
        · obtain rfl : j = 8 := by omega
          rw [addL_full, arrL_st] at hR
          have hn8 : (stv (r.add s)).size = 8 := rfl
          have hn1 := stv_one (r.add s)
          generalize hout : stv (r.add s) = out at *
          have HO := Lib.hid hout
          clear hout
          go_wp2_with (first
            | ((with_reducible refine wpList_loadE (o := ⟨some 110, .load 51 (.tmp 7), _, _, _, none⟩) rfl 51 (.tmp 7) rfl (B + 1 + 1) rfl out 8 rt51 hn8 ?_ ?_); exact ⟨_, hR⟩)
            | ((with_reducible refine wpList_storeE (o := ⟨none, .store 51 (.tmp 4) (.tmp 110), _, _, _, none⟩) rfl 51 (.tmp 4) (.tmp 110) rfl (w.heap.size + 1) out rfl rfl 8 rt51 hn8 hn1 ?_ ?_); exact ⟨_, _, hO, hz8⟩))
          refine bodyPost_ret (v := .agg out) (results_arr (fn := Try.f31) (p := 4) Try.results31 _ (w.heap.size + 1) (by rfl) (hO.row _) rt51 hn8) ?_ ?_
          · rfl
          · exact ⟨by rw [HN.out, HO.out], hch.setRow (.inl (Nat.le_succ _)) _⟩
end Go.Proofs.Ythgfkepflpdalaa
