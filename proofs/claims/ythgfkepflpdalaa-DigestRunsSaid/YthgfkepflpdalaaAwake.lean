/- The chapter's examples: sums (12), awake (14). -/
import Derived.Test.YthgfkepflpdalaaDSum
import Derived.Laws.IdiomStrings
import Derived.Stop.BytesEq
namespace Go.Proofs.Ythgfkepflpdalaa
open Go.RowKit

theorem wpList_conv {w : World} {ops : Array Oper} {rest : List Oper} {o : Oper} {a : Act} {Q : Exit → Act → World → Prop} (hgd : o.guard = none) (x : Operand) (ho : o.op = .convert 9 25 x) (s : ByteArray) (bs : List UInt8) (hs : s.data.toList = bs) (hx : a.eval x = .string s) (g : Nat) (hg : g = w.heap.size)
    (h : ∀ c w', bs.length ≤ c → Rd (fun k => k = g) w' (some ⟨g, 0, none⟩) bs → g < w'.heap.size → Chg (fun _ => False) w w' → wpList Try.prog ops Q rest (a.put o.dst (.slice (some ⟨g, 0, none⟩) bs.length c)) w') : wpList Try.prog ops Q (o :: rest) a w := by
  subst hg
  have hrun := run_bytes_of_string (P := Try.prog) w 9 25 5 s Try.underlying9 Try.underlying25 Try.underlying5
  have hsz : s.size = bs.length := by rw [← hs, Array.length_toList]; rfl
  have hge := grownCap_ge w s.size 0 5
  rw [hsz] at hge
  refine wpList_plain hgd fun K hK => ?_
  unfold Oper.wp execOp
  simp only [ho, hx, Sem.run_bind, hrun, Result.andThen_ok, Sem.run_pure]
  rw [hsz]
  refine hK _ _ (h _ _ (by simpa using hge) (fun _ => ⟨_, rfl, rfl, fun j u hu => ?_⟩) (by simp) ((Chg.refl _ w).drew.alloc _))
  have hj : j < bs.length := by have := (List.getElem?_eq_some_iff.1 hu).1; rwa [bcs_length] at this
  have hb : (w.drew.alloc (.cells (bytesRow s (grownCap w bs.length 0 5)) 5 ((bytesRow s (grownCap w bs.length 0 5)).size, (bytesRow s (grownCap w bs.length 0 5)).size + 1))).heap[w.heap.size]? = some (.cells (bytesRow s (grownCap w bs.length 0 5)) 5 ((bytesRow s (grownCap w bs.length 0 5)).size, (bytesRow s (grownCap w bs.length 0 5)).size + 1)) := heap_alloc_new w.drew _
  rw [Addr.add_lit, Nat.zero_add, cell_of_row _ _ j _ 5 _ hb, ← hu]
  unfold bytesRow
  have hsd : s.data = bs.toArray := by rw [← hs]
  rw [hsd, Array.getElem?_append_left (by simp; omega)]
  simp [bcs]
  rfl

theorem eqB {w : World} (t n : Nat) (ht : Try.prog.underlying t = some (.array n 5)) (xs ys : List UInt8) (hx : xs.length = n) (hy : ys.length = n) :
    (Op.equalIn 10000 t (.agg (bcs xs).toArray) (.agg (bcs ys).toArray)).run Try.prog w = .ok (xs == ys) w :=
  run_equalIn_bytes w 9998 t 5 n ht Try.underlying5 Try.sizeOf5 xs ys hx hy

theorem eq4 {w : World} (a b c d : Int) : (Op.equalIn 10000 32 (.agg #[.int .u8 a, .int .u8 b, .int .u8 c, .int .u8 d]) (.agg #[.int .u8 a, .int .u8 b, .int .u8 c, .int .u8 d])).run Try.prog w = .ok true w := by
  have u3 := Try.underlying5
  have a3 := Try.isAgg5
  have z3 := Try.sizeOf5
  rw [show (10000 : Nat) = 9999 + 1 from rfl, Op.equalIn]
  simp only [Sem.run_bind, run_underlying Try.underlying32, Result.andThen_ok]
  simp only [Std.Legacy.Range.forIn_eq_forIn_range', Std.Legacy.Range.size, Nat.sub_zero, Nat.add_sub_cancel, Nat.div_one, List.range'_succ, List.range'_zero, List.forIn_cons, List.forIn_nil]
  go_simp

set_option maxRecDepth 100000 in
set_option maxHeartbeats 1600000 in
theorem sums_any (w : World) (s : ByteArray) (bs : List UInt8) (hs : s.data.toList = bs) (hl : bs.length ≤ 1000) (a0 a1 a2 a3 b0 b1 b2 b3 : Int)
    (h : (bcs (sumB bs)).toArray[0]? = some (.int .u8 a0) ∧ (bcs (sumB bs)).toArray[1]? = some (.int .u8 a1) ∧ (bcs (sumB bs)).toArray[2]? = some (.int .u8 a2) ∧ (bcs (sumB bs)).toArray[3]? = some (.int .u8 a3) ∧ (bcs (sumB bs)).toArray[28]? = some (.int .u8 b0) ∧ (bcs (sumB bs)).toArray[29]? = some (.int .u8 b1) ∧ (bcs (sumB bs)).toArray[30]? = some (.int .u8 b2) ∧ (bcs (sumB bs)).toArray[31]? = some (.int .u8 b3)) :
    Calls Try.prog 12 #[.string s, .agg #[.int .u8 a0, .int .u8 a1, .int .u8 a2, .int .u8 a3], .agg #[.int .u8 b0, .int .u8 b1, .int .u8 b2, .int .u8 b3]] w fun e w' => e = .returned (.bool true) ∧ Chg (fun _ => False) w w' := by
  have hA := (Blk.new w 32 #[.int .u8 a0, .int .u8 a1, .int .u8 a2, .int .u8 a3]).alloc (.cells #[.int .u8 b0, .int .u8 b1, .int .u8 b2, .int .u8 b3] 32)
  have hB := Blk.newAt (w := w.alloc (.cells #[.int .u8 a0, .int .u8 a1, .int .u8 a2, .int .u8 a3] 32)) (t := 32) (cs := #[.int .u8 b0, .int .u8 b1, .int .u8 b2, .int .u8 b3]) (B := w.heap.size + 1) (by simp)
  have k0 := ((Chg.refl (fun _ => False) w).alloc (.cells #[.int .u8 a0, .int .u8 a1, .int .u8 a2, .int .u8 a3] 32)).alloc (.cells #[.int .u8 b0, .int .u8 b1, .int .u8 b2, .int .u8 b3] 32)
  have hn32 : (bcs (sumB bs)).toArray.size = 32 := by simp [bcs, sumB_length]
  have hn1 := bcs_one (sumB bs)
  have e4 := fun w' => eq4 (w := w') a0 a1 a2 a3
  have e4' := fun w' => eq4 (w := w') b0 b1 b2 b3
  generalize hout : (bcs (sumB bs)).toArray = out at *
  have HO := Lib.hid hout
  clear hout
  obtain ⟨h0, h1, h2, h3, h28, h29, h30, h31⟩ := h
  go_enter Try.func12, Try.ntmps12
  go_wp2_with (first
    | ((with_reducible refine wpList_conv (o := ⟨some 9, .convert 9 25 (.tmp 8), _, _, _, none⟩) rfl (.tmp 8) rfl s bs hs rfl (w.heap.size + 1 + 1) ?_ ?_); simp; intro c w1 hc hr hw1 k1)
    | (go_at_call 18; refine (digSum_any hr (fun k hk => by omega) hc (by omega)).mono ?_; rw [HO.out]; rintro e w2 ⟨rfl, k2⟩)
    | ((with_reducible refine wpList_storeW (o := ⟨none, .store 39 (.tmp 7) (.tmp 10), _, _, _, none⟩) rfl 39 (.tmp 7) (.tmp 10) rfl w2.heap.size out rfl rfl 32 rt39 hn32 hn1 39 ?_ ?_); exact ⟨_, Blk.new w2 39 _, rfl⟩; intro w3 hb3 k3; have k23 := ((Chg.refl (fun _ => False) w2).alloc _).trans k3 (fun k hk he => by omega); have k03 := (k1.trans k2 (fun _ _ h => h)).trans k23 (fun _ _ h => h); have hA3 := hA.chg k03 (fun h => h); have hB3 := hB.chg k03 (fun h => h); have d0 := hb3.cell 0; have d1 := hb3.cell 1; have d2 := hb3.cell 2; have d3 := hb3.cell 3; have d28 := hb3.cell 28; have d29 := hb3.cell 29; have d30 := hb3.cell 30; have d31 := hb3.cell 31; rw [h0] at d0; rw [h1] at d1; rw [h2] at d2; rw [h3] at d3; rw [h28] at d28; rw [h29] at d29; rw [h30] at d30; rw [h31] at d31; have f0 := hA3.cell 0; have f1 := hA3.cell 1; have f2 := hA3.cell 2; have f3 := hA3.cell 3; have g0 := hB3.cell 0; have g1 := hB3.cell 1; have g2 := hB3.cell 2; have g3 := hB3.cell 3; simp only [List.getElem?_toArray] at f0 f1 f2 f3 g0 g1 g2 g3))
  go_ret
  exact ⟨rfl, k0.trans k03 (fun _ _ h => h)⟩

theorem sumB_empty : sumB [] = [0xe3, 0xb0, 0xc4, 0x42, 0x98, 0xfc, 0x1c, 0x14, 0x9a, 0xfb, 0xf4, 0xc8, 0x99, 0x6f, 0xb9, 0x24, 0x27, 0xae, 0x41, 0xe4, 0x64, 0x9b, 0x93, 0x4c, 0xa4, 0x95, 0x99, 0x1b, 0x78, 0x52, 0xb8, 0x55] := by decide +kernel
theorem sumB_abc : sumB [97, 98, 99] = [0xba, 0x78, 0x16, 0xbf, 0x8f, 0x01, 0xcf, 0xea, 0x41, 0x41, 0x40, 0xde, 0x5d, 0xae, 0x22, 0x23, 0xb0, 0x03, 0x61, 0xa3, 0x96, 0x17, 0x7a, 0x9c, 0xb4, 0x10, 0xff, 0x61, 0xf2, 0x00, 0x15, 0xad] := by decide +kernel

theorem sums_empty (w : World) : Calls Try.prog 12 #[.string ⟨#[]⟩, .agg #[.int .u8 227, .int .u8 176, .int .u8 196, .int .u8 66], .agg #[.int .u8 120, .int .u8 82, .int .u8 184, .int .u8 85]] w fun e w' => e = .returned (.bool true) ∧ Chg (fun _ => False) w w' :=
  sums_any w _ [] rfl (by simp) _ _ _ _ _ _ _ _ (by rw [sumB_empty]; exact ⟨rfl, rfl, rfl, rfl, rfl, rfl, rfl, rfl⟩)
theorem sums_abc (w : World) : Calls Try.prog 12 #[.string ⟨#[97, 98, 99]⟩, .agg #[.int .u8 186, .int .u8 120, .int .u8 22, .int .u8 191], .agg #[.int .u8 242, .int .u8 0, .int .u8 21, .int .u8 173]] w fun e w' => e = .returned (.bool true) ∧ Chg (fun _ => False) w w' :=
  sums_any w _ [97, 98, 99] rfl (by simp) _ _ _ _ _ _ _ _ (by rw [sumB_abc]; exact ⟨rfl, rfl, rfl, rfl, rfl, rfl, rfl, rfl⟩)

theorem awake_any (w : World) : Calls Try.prog 14 #[] w fun e w' => e = .returned (.bool true) ∧ Chg (fun _ => False) w w' := by
  go_enter Try.func14, Try.ntmps14
  go_wp2_with (first
    | ((with_reducible refine (sums_empty _).mono ?_); rintro e w1 ⟨rfl, k1⟩)
    | ((with_reducible refine (sums_abc _).mono ?_); rintro e w2 ⟨rfl, k2⟩))
  go_ret
  exact ⟨rfl, k1.trans k2 (fun _ _ h => h)⟩
end Go.Proofs.Ythgfkepflpdalaa
