/- The walk of DigestBack (9). -/
import Derived.Test.YthgfkepflpdalaaHexLaw
import Derived.Test.YthgfkepflpdalaaAwake
namespace Go.Proofs.Ythgfkepflpdalaa
open Go.RowKit

theorem wpList_loadG {w : World} {ops : Array Oper} {rest : List Oper} {o : Oper} {a : Act} {Q : Exit → Act → World → Prop} (hw : Region.wanted o (yielded ops a.tmps) = true) (ty : TypeId) (x : Operand) (ho : o.op = .load ty x) (g : Nat) (hx : a.eval x = .pointer (some ⟨g, 0, none⟩)) (cs : Array Value) (n : Nat) (hT : RowTy ty n) (hn : cs.size = n) (hB : ∃ t, Blk w g t cs)
    (h : wpList Try.prog ops Q rest (a.put o.dst (.agg cs)) w) : wpList Try.prog ops Q (o :: rest) a w := by
  obtain ⟨t, hB⟩ := hB
  exact wpList_step fun K hK => by rw [if_pos hw]; exact wp_loadA ty x ho g hx hB hT hn (hK _ _ h)

/-- what a parse left: the id and the fault in their blocks -/
structure Left (w : World) (g : Nat) (X : Array Value) (c p : Int) : Prop where
  id : Blk w g 23 X
  fault : Blk w (g + 1) 28 #[.int .i64 c, .int .i64 p]

theorem Left.chg {S : Nat → Prop} {w w' : World} {g : Nat} {X : Array Value} {c p : Int} (h : Left w g X c p) (hc : Chg S w w') (h0 : ¬ S g) (h1 : ¬ S (g + 1)) : Left w' g X c p := ⟨h.id.chg hc h0, h.fault.chg hc h1⟩

set_option maxRecDepth 100000 in
set_option maxHeartbeats 1600000 in
theorem digestBack_any {xs : List UInt8} (hxl : xs.length = 16) {s : ByteArray} (hsm : s.size ≤ maxLen) (w : World) : Calls Try.prog 9 #[.agg (bcs xs).toArray, .string s] w fun e w' => e = .returned (.bool true) ∧ Chg (fun _ => False) w w' := by
  by_cases hbig : 100 < s.size
  · have hX : (bcs xs).toArray.size = 16 := bcs_size hxl
    go_enter Try.func9, Try.ntmps9
    go_wp2_with (go_at_call 14; refine (awake_any _).mono ?_; rintro e w1 ⟨rfl, k1⟩)
    go_ret
    exact ⟨rfl, ((Chg.refl (fun _ => False) w).alloc _).trans k1 (fun _ _ h => h)⟩
  have hT1 := fun w' => text_any w' xs hxl
  have hP1 := fun w' => parse_any w' ⟨(hexT xs).toArray⟩ (hexT xs) (by simp) (by rw [hexT_length, hxl]; decide)
  rw [parse_text xs hxl] at hP1
  have hTn : (ByteArray.mk (hexT xs).toArray).size = 32 := by show (hexT xs).toArray.size = 32; simp [hexT_length, hxl]
  have hn16 : (bcs xs).toArray.size = 16 := bcs_size hxl
  have hn1 := bcs_one xs
  have hE := fun w' => eqB (w := w') 23 16 Try.underlying23 xs xs hxl hxl
  simp only [beq_self_eq_true] at hE
  obtain ⟨Z, hZ, hz23, hZn, hZ1⟩ : ∃ Z : Array Value, (bcs (List.replicate 16 0)).toArray = Z ∧ (∀ w, (zeroValue 23).run Try.prog w = .ok (.agg Z) w) ∧ Z.size = 16 ∧ Z.all (·.oneCell') = true := ⟨_, rfl, zero23, bcs_size (by simp), bcs_one _⟩
  have hEZ := fun w' => eqB (w := w') 23 16 Try.underlying23 (List.replicate 16 0) (List.replicate 16 0) (by simp) (by simp)
  simp only [beq_self_eq_true] at hEZ
  rw [hZ] at hEZ
  have hP2 := fun w' => parse_any w' s s.data.toList rfl (by simpa using hsm)
  have hall := parse_all s.data.toList
  have hsz : s.data.toList.length = s.size := by rw [Array.length_toList]; rfl
  rw [hsz] at hall
  generalize (bcs xs).toArray = X at *
  generalize (ByteArray.mk (hexT xs).toArray) = T at *
  have hA := Blk.new w 22 X
  have kA := (Chg.refl (fun _ => False) w).alloc (.cells X 22)
  rcases hall with ⟨p, hp, hp0, hp1⟩ | ⟨l, hp, hll, hlt⟩
  · rw [hp] at hP2
    simp only [hZ] at hP2
    clear hp hZ
    go_enter Try.func9, Try.ntmps9
    go_wp2_with (first
      | (go_at_call 14; (with_reducible refine (awake_any _).mono ?_); rintro e w1 ⟨rfl, k1⟩; have hA1 := hA.chg k1 (fun h => h))
      | ((with_reducible refine wpList_loadE (o := ⟨some 16, .load 22 (.tmp 2), _, _, _, none⟩) rfl 22 (.tmp 2) rfl w.heap.size rfl X 16 rt22 hn16 ?_ ?_); exact ⟨_, hA1⟩)
      | (go_at_call 13; (with_reducible refine (hT1 _).mono ?_); rintro e w2 ⟨rfl, k2⟩; have hA2 := hA1.chg k2 (fun h => h))
      | (go_at_call 11; (with_reducible refine (hP1 _).mono ?_); rintro e w3 ⟨rfl, k3⟩; have hA3 := hA2.chg k3 (fun h => h); have l3 := hA3.lt)
      | ((with_reducible refine wpList_storeW (o := ⟨none, .store 23 (.tmp 7) (.tmp 21), _, _, _, none⟩) rfl 23 (.tmp 7) (.tmp 21) rfl w3.heap.size X rfl rfl 16 rt23 hn16 hn1 23 ?_ ?_); exact ⟨_, (Blk.new w3 23 Z).alloc _, hZn⟩; intro w5 hb5 k5; have c5 := (Blk.newAt (w := w3.alloc (.cells Z 23)) (t := 28) (cs := #[.int .i64 0, .int .i64 0]) (B := w3.heap.size + 1) (by simp)).chg k5 (by omega); have q0 := (c5.cell 0).trans rfl; have q1 := (c5.cell 1).trans rfl; have f0 := c5.frozen 0; have f1 := c5.frozen 1; have hA5 := ((hA3.alloc (.cells Z 23)).alloc (.cells #[.int .i64 0, .int .i64 0] 28)).chg k5 (by omega); have k35 := ((((Chg.refl (fun _ => False) w3).alloc (.cells Z 23)).alloc (.cells #[.int .i64 0, .int .i64 0] 28)).trans k5 (fun k hk he => by omega)); have l5 : w3.heap.size + 1 < w5.heap.size := c5.lt)
      | ((with_reducible refine wpList_loadG (o := ⟨some 27, .load 23 (.tmp 7), _, _, _, _⟩) ?_ 23 (.tmp 7) rfl w3.heap.size rfl X 16 rt23 hn16 ?_ ?_); rfl; exact ⟨_, (hb5.far (by simp) _).far (by simp) _⟩)
      | ((with_reducible refine wpList_loadG (o := ⟨some 28, .load 22 (.tmp 2), _, _, _, _⟩) ?_ 22 (.tmp 2) rfl w.heap.size rfl X 16 rt22 hn16 ?_ ?_); rfl; exact ⟨_, (hA5.far (by simp; omega) _).far (by simp; omega) _⟩)
      | (go_at_call 11; (with_reducible refine (hP2 _).mono ?_); rintro e w6 ⟨rfl, k6⟩)
      | ((with_reducible refine wpList_storeW (o := ⟨none, .store 23 (.tmp 9) (.tmp 39), _, _, _, none⟩) rfl 23 (.tmp 9) (.tmp 39) rfl w6.heap.size Z rfl rfl 16 rt23 hZn hZ1 23 ?_ ?_); exact ⟨_, (Blk.new w6 23 Z).alloc _, hZn⟩; intro w8 hb8 k8; have c8 := (Blk.newAt (w := w6.alloc (.cells Z 23)) (t := 28) (cs := #[.int .i64 0, .int .i64 0]) (B := w6.heap.size + 1) (by simp)).chg k8 (by omega); have r0 := (c8.cell 0).trans rfl; have r1 := (c8.cell 1).trans rfl; have g0 := c8.frozen 0; have g1 := c8.frozen 1; have k68 := ((((Chg.refl (fun _ => False) w6).alloc (.cells Z 23)).alloc (.cells #[.int .i64 0, .int .i64 0] 28)).trans k8 (fun k hk he => by omega)); have l8 : w6.heap.size + 1 < w8.heap.size := c8.lt)
      | ((with_reducible refine wpList_loadG (o := ⟨some 46, .load 23 (.tmp 9), _, _, _, _⟩) ?_ 23 (.tmp 9) rfl w6.heap.size rfl Z 16 rt23 hZn ?_ ?_); rfl; exact ⟨_, (hb8.far (by simp) _).far (by simp) _⟩))
    go_ret
    have K3 := nochg (nochg (nochg kA k1) k2) k3
    have s3 : w.heap.size ≤ w3.heap.size + 1 := Nat.le_succ_of_le K3.size
    have K5 := (((nochg K3 k35).setCell (p := ⟨w3.heap.size + 1, 0, none⟩) (.inl s3) (.int .i64 0)).setCell (p := ⟨w3.heap.size + 1, 1, none⟩) (.inl s3) (.int .i64 0))
    have K6 := nochg K5 k6
    have s6 : w.heap.size ≤ w6.heap.size + 1 := Nat.le_succ_of_le K6.size
    have K8 := (((nochg K6 k68).setCell (p := ⟨w6.heap.size + 1, 0, none⟩) (.inl s6) (.int .i64 4)).setCell (p := ⟨w6.heap.size + 1, 1, none⟩) (.inl s6) (.int .i64 p))
    exact ⟨by simp; omega, K8⟩
  · rw [hp] at hP2
    have hT2 := fun w' => text_any w' l hll
    have hLn : (bcs l).toArray.size = 16 := bcs_size hll
    have hL1 := bcs_one l
    rw [hlt] at hT2
    rw [show (ByteArray.mk s.data.toList.toArray) = s by simp] at hT2
    simp only [] at hP2
    generalize (bcs l).toArray = L at *
    clear hp hZ
    go_enter Try.func9, Try.ntmps9
    go_wp2_with (first
      | (go_at_call 14; (with_reducible refine (awake_any _).mono ?_); rintro e w1 ⟨rfl, k1⟩; have hA1 := hA.chg k1 (fun h => h))
      | ((with_reducible refine wpList_loadE (o := ⟨some 16, .load 22 (.tmp 2), _, _, _, none⟩) rfl 22 (.tmp 2) rfl w.heap.size rfl X 16 rt22 hn16 ?_ ?_); exact ⟨_, hA1⟩)
      | (go_at_call 13; (with_reducible refine (hT1 _).mono ?_); rintro e w2 ⟨rfl, k2⟩; have hA2 := hA1.chg k2 (fun h => h))
      | (go_at_call 11; (with_reducible refine (hP1 _).mono ?_); rintro e w3 ⟨rfl, k3⟩; have hA3 := hA2.chg k3 (fun h => h); have l3 := hA3.lt)
      | ((with_reducible refine wpList_storeW (o := ⟨none, .store 23 (.tmp 7) (.tmp 21), _, _, _, none⟩) rfl 23 (.tmp 7) (.tmp 21) rfl w3.heap.size X rfl rfl 16 rt23 hn16 hn1 23 ?_ ?_); exact ⟨_, (Blk.new w3 23 Z).alloc _, hZn⟩; intro w5 hb5 k5; have c5 := (Blk.newAt (w := w3.alloc (.cells Z 23)) (t := 28) (cs := #[.int .i64 0, .int .i64 0]) (B := w3.heap.size + 1) (by simp)).chg k5 (by omega); have q0 := (c5.cell 0).trans rfl; have q1 := (c5.cell 1).trans rfl; have f0 := c5.frozen 0; have f1 := c5.frozen 1; have hA5 := ((hA3.alloc (.cells Z 23)).alloc (.cells #[.int .i64 0, .int .i64 0] 28)).chg k5 (by omega); have k35 := ((((Chg.refl (fun _ => False) w3).alloc (.cells Z 23)).alloc (.cells #[.int .i64 0, .int .i64 0] 28)).trans k5 (fun k hk he => by omega)); have l5 : w3.heap.size + 1 < w5.heap.size := c5.lt)
      | ((with_reducible refine wpList_loadG (o := ⟨some 27, .load 23 (.tmp 7), _, _, _, _⟩) ?_ 23 (.tmp 7) rfl w3.heap.size rfl X 16 rt23 hn16 ?_ ?_); rfl; exact ⟨_, (hb5.far (by simp) _).far (by simp) _⟩)
      | ((with_reducible refine wpList_loadG (o := ⟨some 28, .load 22 (.tmp 2), _, _, _, _⟩) ?_ 22 (.tmp 2) rfl w.heap.size rfl X 16 rt22 hn16 ?_ ?_); rfl; exact ⟨_, (hA5.far (by simp; omega) _).far (by simp; omega) _⟩)
      | (go_at_call 11; (with_reducible refine (hP2 _).mono ?_); rintro e w6 ⟨rfl, k6⟩)
      | ((with_reducible refine wpList_storeW (o := ⟨none, .store 23 (.tmp 9) (.tmp 39), _, _, _, none⟩) rfl 23 (.tmp 9) (.tmp 39) rfl w6.heap.size L rfl rfl 16 rt23 hLn hL1 23 ?_ ?_); exact ⟨_, (Blk.new w6 23 Z).alloc _, hZn⟩; intro w8 hb8 k8; have c8 := (Blk.newAt (w := w6.alloc (.cells Z 23)) (t := 28) (cs := #[.int .i64 0, .int .i64 0]) (B := w6.heap.size + 1) (by simp)).chg k8 (by omega); have r0 := (c8.cell 0).trans rfl; have r1 := (c8.cell 1).trans rfl; have g0 := c8.frozen 0; have g1 := c8.frozen 1; have k68 := ((((Chg.refl (fun _ => False) w6).alloc (.cells Z 23)).alloc (.cells #[.int .i64 0, .int .i64 0] 28)).trans k8 (fun k hk he => by omega)); have l8 : w6.heap.size + 1 < w8.heap.size := c8.lt)
      | ((with_reducible refine wpList_loadG (o := ⟨some 77, .load 23 (.tmp 9), _, _, _, _⟩) ?_ 23 (.tmp 9) rfl w6.heap.size rfl L 16 rt23 hLn ?_ ?_); rfl; exact ⟨_, (hb8.far (by simp) _).far (by simp) _⟩)
      | (go_at_call 13; (with_reducible refine (hT2 _).mono ?_); rintro e w9 ⟨rfl, k9⟩))
    go_ret
    have K3 := nochg (nochg (nochg kA k1) k2) k3
    have s3 : w.heap.size ≤ w3.heap.size + 1 := Nat.le_succ_of_le K3.size
    have K5 := (((nochg K3 k35).setCell (p := ⟨w3.heap.size + 1, 0, none⟩) (.inl s3) (.int .i64 0)).setCell (p := ⟨w3.heap.size + 1, 1, none⟩) (.inl s3) (.int .i64 0))
    have K6 := nochg K5 k6
    have s6 : w.heap.size ≤ w6.heap.size + 1 := Nat.le_succ_of_le K6.size
    have K8 := (((nochg K6 k68).setCell (p := ⟨w6.heap.size + 1, 0, none⟩) (.inl s6) (.int .i64 0)).setCell (p := ⟨w6.heap.size + 1, 1, none⟩) (.inl s6) (.int .i64 0))
    exact ⟨rfl, nochg K8 k9⟩
end Go.Proofs.Ythgfkepflpdalaa
