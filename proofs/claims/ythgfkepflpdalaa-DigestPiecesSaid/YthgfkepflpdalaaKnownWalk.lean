/- The walk of DigestKnown (3). -/
import Derived.Test.YthgfkepflpdalaaIdw
import Derived.Test.YthgfkepflpdalaaBackWalk
namespace Go.Proofs.Ythgfkepflpdalaa
open Go.RowKit

theorem wpList_storeF {w : World} {ops : Array Oper} {rest : List Oper} {o : Oper} {a : Act} {Q : Exit → Act → World → Prop} (hgd : o.guard = none) (x y : Operand) (ho : o.op = .store 28 x y) (g : Nat) (c p : Int) (hx : a.eval x = .pointer (some ⟨g, 0, none⟩)) (hy : a.eval y = .agg #[.int .i64 c, .int .i64 p])
    (hB : ∃ old, Blk w g 28 old ∧ old.size = 2)
    (h : ∀ w', Blk w' g 28 #[.int .i64 c, .int .i64 p] → Chg (fun k => k = g) w w' → wpList Try.prog ops Q rest (a.put o.dst undef) w') : wpList Try.prog ops Q (o :: rest) a w :=
  wpList_storeW hgd 28 x y ho g _ hx hy 2 rt28 rfl (by simp [Value.oneCell']) 28 hB h

theorem eqF {w : World} (c p : Int) : (Op.equalIn 10000 28 (.agg #[.int .i64 c, .int .i64 p]) (.agg #[.int .i64 c, .int .i64 p])).run Try.prog w = .ok true w := by
  have u3 := Try.underlying3
  have a3 := Try.isAgg3
  have z3 := Try.sizeOf3
  have u26 := Try.underlying26
  have a26 := Try.isAgg26
  have z26 := Try.sizeOf26
  have hS : Try.prog.underlying 28 = some (.struct (Try.prog.fieldsOf 28)) := by kernel_rfl
  have hp : Try.prog.stoodInHeld 28 = false := by kernel_rfl
  rw [show (10000 : Nat) = 9999 + 1 from rfl, run_equalIn_agg w 9999 28 _ _ hS hp]
  simp only [Program.fieldsOf, Try.underlying28]
  go_simp

theorem conv_bytes {wA : World} {g : Nat} {bs : List UInt8} (hb : Blk wA g 5 (bcs bs).toArray) (n c : Nat) : ∃ wf, (convert 25 25 (.slice (some ⟨g, 0, none⟩) n c)).run Try.prog wA = .ok (.slice (some ⟨g, 0, none⟩) n c) wf ∧
    (∀ (S : Nat → Prop) (w : World), Chg S w wA → w.heap.size ≤ g → Chg S w wf) ∧ wA.heap.size = wf.heap.size ∧ Rd (fun k => k = g) wf (some ⟨g, 0, none⟩) bs := by
  have hb' := hb
  unfold Blk at hb'
  have hsh : wA.shape? g = some (5, bs.length) := by simp [World.shape?, hb', bcs_length]
  refine ⟨wA.freeze ⟨g, bs.length, none⟩ 1, ?_, fun S w h hg => h.freeze (p := ⟨g, bs.length, none⟩) (.inl hg) 1, by simp [World.freeze], fun _ => ⟨_, rfl, rfl, fun j u hu => ?_⟩⟩
  · simp [convert, run_underlying Try.underlying25, run_underlying Try.underlying5, markStringish, hsh]
  · have hh : (wA.freeze ⟨g, bs.length, none⟩ 1).heap[g]? = some (.cells (bcs bs).toArray 5 (bs.length, bs.length + 1)) := by
      simp [World.freeze, Array.getElem?_modify, hb']
    rw [Addr.add_lit, Nat.zero_add, cell_of_row _ _ j _ 5 _ hh, ← hu, List.getElem?_toArray]

def idL : List UInt8 := [186, 120, 22, 191, 143, 1, 207, 234, 65, 65, 64, 222, 93, 174, 34, 35]
theorem id_abc : (sumB [97, 98, 99]).take 16 = idL := by rw [sumB_abc]; rfl
theorem text_id : hexT idL = [98, 97, 55, 56, 49, 54, 98, 102, 56, 102, 48, 49, 99, 102, 101, 97, 52, 49, 52, 49, 52, 48, 100, 101, 53, 100, 97, 101, 50, 50, 50, 51] := by decide +kernel
theorem parse_low : parseR [98, 97, 55, 56, 49, 54, 98, 102, 56, 102, 48, 49, 99, 102, 101, 97, 52, 49, 52, 49, 52, 48, 100, 101, 53, 100, 97, 101, 50, 50, 50, 51] = (idL, 0, 0) := by decide +kernel
theorem parse_up : parseR [66, 65, 55, 56, 49, 54, 66, 70, 56, 70, 48, 49, 67, 70, 69, 65, 52, 49, 52, 49, 52, 48, 68, 69, 53, 68, 65, 69, 50, 50, 50, 51] = (List.replicate 16 0, 4, 0) := by decide +kernel
theorem parse_31 : parseR [48, 48, 48, 48, 48, 48, 48, 48, 48, 48, 48, 48, 48, 48, 48, 48, 48, 48, 48, 48, 48, 48, 48, 48, 48, 48, 48, 48, 48, 48, 48] = (List.replicate 16 0, 4, 31) := by decide +kernel
theorem parse_33 : parseR [48, 48, 48, 48, 48, 48, 48, 48, 48, 48, 48, 48, 48, 48, 48, 48, 48, 48, 48, 48, 48, 48, 48, 48, 48, 48, 48, 48, 48, 48, 48, 48, 48] = (List.replicate 16 0, 4, 32) := by decide +kernel
theorem sumB_56 : sumB [97, 98, 99, 100, 98, 99, 100, 101, 99, 100, 101, 102, 100, 101, 102, 103, 101, 102, 103, 104, 102, 103, 104, 105, 103, 104, 105, 106, 104, 105, 106, 107, 105, 106, 107, 108, 106, 107, 108, 109, 107, 108, 109, 110, 108, 109, 110, 111, 109, 110, 111, 112, 110, 111, 112, 113] = [36, 141, 106, 97, 210, 6, 56, 184, 229, 192, 38, 147, 12, 62, 96, 57, 163, 60, 228, 89, 100, 255, 33, 103, 246, 236, 237, 212, 25, 219, 6, 193] := by decide +kernel
theorem sums_56 (w : World) : Calls Try.prog 12 #[.string ⟨#[97, 98, 99, 100, 98, 99, 100, 101, 99, 100, 101, 102, 100, 101, 102, 103, 101, 102, 103, 104, 102, 103, 104, 105, 103, 104, 105, 106, 104, 105, 106, 107, 105, 106, 107, 108, 106, 107, 108, 109, 107, 108, 109, 110, 108, 109, 110, 111, 109, 110, 111, 112, 110, 111, 112, 113]⟩, .agg #[.int .u8 36, .int .u8 141, .int .u8 106, .int .u8 97], .agg #[.int .u8 25, .int .u8 219, .int .u8 6, .int .u8 193]] w fun e w' => e = .returned (.bool true) ∧ Chg (fun _ => False) w w' :=
  sums_any w _ [97, 98, 99, 100, 98, 99, 100, 101, 99, 100, 101, 102, 100, 101, 102, 103, 101, 102, 103, 104, 102, 103, 104, 105, 103, 104, 105, 106, 104, 105, 106, 107, 105, 106, 107, 108, 106, 107, 108, 109, 107, 108, 109, 110, 108, 109, 110, 111, 109, 110, 111, 112, 110, 111, 112, 113] rfl (by simp) _ _ _ _ _ _ _ _ (by rw [sumB_56]; exact ⟨rfl, rfl, rfl, rfl, rfl, rfl, rfl, rfl⟩)

set_option maxRecDepth 100000 in
set_option maxHeartbeats 3200000 in
theorem digestKnown_any (w : World) : Calls Try.prog 3 #[] w fun e w' => e = .returned (.bool true) ∧ Chg (fun _ => False) w w' := by
  obtain ⟨Z, hZ, hz23, hZn, hZ1⟩ : ∃ Z : Array Value, (bcs (List.replicate 16 0)).toArray = Z ∧ (∀ w, (zeroValue 23).run Try.prog w = .ok (.agg Z) w) ∧ Z.size = 16 ∧ Z.all (·.oneCell') = true := ⟨_, rfl, zero23, bcs_size (by simp), bcs_one _⟩
  have hID := fun (D : Nat → Prop) (w' : World) (A : Option Addr) (hr : Rd D w' A [97, 98, 99]) (hD : ∀ k, D k → k < w'.heap.size) => id_any (c := 3) hr hD (by simp) (by simp)
  rw [id_abc] at hID
  have hT := fun w' => text_any w' idL rfl
  rw [text_id] at hT
  have hP1 := fun w' => parse_any w' ⟨#[98, 97, 55, 56, 49, 54, 98, 102, 56, 102, 48, 49, 99, 102, 101, 97, 52, 49, 52, 49, 52, 48, 100, 101, 53, 100, 97, 101, 50, 50, 50, 51]⟩ _ rfl (by decide)
  rw [parse_low] at hP1
  have hP2 := fun w' => parse_any w' ⟨#[66, 65, 55, 56, 49, 54, 66, 70, 56, 70, 48, 49, 67, 70, 69, 65, 52, 49, 52, 49, 52, 48, 68, 69, 53, 68, 65, 69, 50, 50, 50, 51]⟩ _ rfl (by decide)
  rw [parse_up] at hP2
  have hP3 := fun w' => parse_any w' ⟨#[48, 48, 48, 48, 48, 48, 48, 48, 48, 48, 48, 48, 48, 48, 48, 48, 48, 48, 48, 48, 48, 48, 48, 48, 48, 48, 48, 48, 48, 48, 48]⟩ _ rfl (by decide)
  rw [parse_31] at hP3
  have hP4 := fun w' => parse_any w' ⟨#[48, 48, 48, 48, 48, 48, 48, 48, 48, 48, 48, 48, 48, 48, 48, 48, 48, 48, 48, 48, 48, 48, 48, 48, 48, 48, 48, 48, 48, 48, 48, 48, 48]⟩ _ rfl (by decide)
  rw [parse_33] at hP4
  simp only [hZ] at hP2 hP3 hP4
  clear hZ
  have hE := fun w' => eqB (w := w') 23 16 Try.underlying23 idL idL rfl rfl
  simp only [beq_self_eq_true] at hE
  have hF0 := fun w' => eqF (w := w') 4 0
  have hF1 := fun w' => eqF (w := w') 4 31
  have hF2 := fun w' => eqF (w := w') 4 32
  have hIn : (bcs idL).toArray.size = 16 := rfl
  have hI1 := bcs_one idL
  simp only [] at hP1
  generalize (bcs idL).toArray = IA at *
  have k0 := (Chg.refl (fun _ => False) w).alloc (.cells #[.int .u8 97, .int .u8 98, .int .u8 99] 5)
  obtain ⟨wf, hcv, kf, hsz, hr⟩ := conv_bytes (bs := [97, 98, 99]) (Blk.new w 5 #[.int .u8 97, .int .u8 98, .int .u8 99]) 3 3
  have kf := kf _ _ k0 (Nat.le_refl _)
  have hsz : w.heap.size < wf.heap.size := by rw [← hsz]; simp
  go_enter Try.func3, Try.ntmps3
  go_wp2_with (first
    | (go_at_call 10; refine (hID _ _ _ hr (fun k hk => by omega)).mono ?_; rintro e w1 ⟨rfl, k1⟩)
    | ((with_reducible refine wpList_storeW (o := ⟨none, .store 23 (.tmp 1) (.tmp 14), _, _, _, none⟩) rfl 23 (.tmp 1) (.tmp 14) rfl w1.heap.size IA rfl rfl 16 rt23 hIn hI1 23 ?_ ?_); exact ⟨_, Blk.new w1 23 Z, hZn⟩; intro v0 bI j0; have K0 := nochg (nochg kf k1) (((Chg.refl (fun _ => False) w1).alloc (.cells Z 23)).trans j0 (fun k hk he => by omega)))
    | (go_at_call 11; (with_reducible refine (hP1 _).mono ?_); rintro e p1 ⟨rfl, q1⟩)
    | ((with_reducible refine wpList_storeW (o := ⟨none, .store 23 (.tmp 2) (.tmp 17), _, _, _, none⟩) rfl 23 (.tmp 2) (.tmp 17) rfl p1.heap.size IA rfl rfl 16 rt23 hIn hI1 23 ?_ ?_); exact ⟨_, (Blk.new p1 23 Z).alloc _, hZn⟩; intro u1 bX1 s1; have cF1 := (Blk.newAt (w := p1.alloc (.cells Z 23)) (t := 28) (cs := #[.int .i64 0, .int .i64 0]) (B := p1.heap.size + 1) (by simp)).chg s1 (by omega))
    | ((with_reducible refine wpList_storeF (o := ⟨none, .store 28 (.tmp 3) (.tmp 18), _, _, _, none⟩) rfl (.tmp 3) (.tmp 18) rfl (p1.heap.size + 1) 0 0 rfl rfl ?_ ?_); exact ⟨_, cF1, rfl⟩; intro v1 bF1 t1; have e1 := nochg q1 (((((Chg.refl (fun _ => False) p1).alloc (.cells Z 23)).alloc (.cells #[.int .i64 0, .int .i64 0] 28)).trans s1 (fun k hk he => by omega)).trans t1 (fun k hk he => by omega)); have bX1 := bX1.chg t1 (by omega); have K1 := nochg K0 e1; have bI := bI.chg e1 (fun h => h))
    | (go_at_call 11; (with_reducible refine (hP2 _).mono ?_); rintro e p2 ⟨rfl, q2⟩)
    | ((with_reducible refine wpList_storeW (o := ⟨none, .store 23 (.tmp 4) (.tmp 21), _, _, _, none⟩) rfl 23 (.tmp 4) (.tmp 21) rfl p2.heap.size Z rfl rfl 16 rt23 hZn hZ1 23 ?_ ?_); exact ⟨_, (Blk.new p2 23 Z).alloc _, hZn⟩; intro u2 bX2 s2; have cF2 := (Blk.newAt (w := p2.alloc (.cells Z 23)) (t := 28) (cs := #[.int .i64 0, .int .i64 0]) (B := p2.heap.size + 1) (by simp)).chg s2 (by omega))
    | ((with_reducible refine wpList_storeF (o := ⟨none, .store 28 (.tmp 5) (.tmp 22), _, _, _, none⟩) rfl (.tmp 5) (.tmp 22) rfl (p2.heap.size + 1) 4 0 rfl rfl ?_ ?_); exact ⟨_, cF2, rfl⟩; intro v2 bF2 t2; have e2 := nochg q2 (((((Chg.refl (fun _ => False) p2).alloc (.cells Z 23)).alloc (.cells #[.int .i64 0, .int .i64 0] 28)).trans s2 (fun k hk he => by omega)).trans t2 (fun k hk he => by omega)); have bX2 := bX2.chg t2 (by omega); have K2 := nochg K1 e2; have bI := bI.chg e2 (fun h => h); have bX1 := bX1.chg e2 (fun h => h); have bF1 := bF1.chg e2 (fun h => h))
    | (go_at_call 11; (with_reducible refine (hP3 _).mono ?_); rintro e p3 ⟨rfl, q3⟩)
    | ((with_reducible refine wpList_storeW (o := ⟨none, .store 23 (.tmp 6) (.tmp 25), _, _, _, none⟩) rfl 23 (.tmp 6) (.tmp 25) rfl p3.heap.size Z rfl rfl 16 rt23 hZn hZ1 23 ?_ ?_); exact ⟨_, (Blk.new p3 23 Z).alloc _, hZn⟩; intro u3 bX3 s3; have cF3 := (Blk.newAt (w := p3.alloc (.cells Z 23)) (t := 28) (cs := #[.int .i64 0, .int .i64 0]) (B := p3.heap.size + 1) (by simp)).chg s3 (by omega))
    | ((with_reducible refine wpList_storeF (o := ⟨none, .store 28 (.tmp 7) (.tmp 26), _, _, _, none⟩) rfl (.tmp 7) (.tmp 26) rfl (p3.heap.size + 1) 4 31 rfl rfl ?_ ?_); exact ⟨_, cF3, rfl⟩; intro v3 bF3 t3; have e3 := nochg q3 (((((Chg.refl (fun _ => False) p3).alloc (.cells Z 23)).alloc (.cells #[.int .i64 0, .int .i64 0] 28)).trans s3 (fun k hk he => by omega)).trans t3 (fun k hk he => by omega)); have bX3 := bX3.chg t3 (by omega); have K3 := nochg K2 e3; have bI := bI.chg e3 (fun h => h); have bX1 := bX1.chg e3 (fun h => h); have bF1 := bF1.chg e3 (fun h => h); have bF2 := bF2.chg e3 (fun h => h))
    | (go_at_call 11; (with_reducible refine (hP4 _).mono ?_); rintro e p4 ⟨rfl, q4⟩)
    | ((with_reducible refine wpList_storeW (o := ⟨none, .store 23 (.tmp 8) (.tmp 29), _, _, _, none⟩) rfl 23 (.tmp 8) (.tmp 29) rfl p4.heap.size Z rfl rfl 16 rt23 hZn hZ1 23 ?_ ?_); exact ⟨_, (Blk.new p4 23 Z).alloc _, hZn⟩; intro u4 bX4 s4; have cF4 := (Blk.newAt (w := p4.alloc (.cells Z 23)) (t := 28) (cs := #[.int .i64 0, .int .i64 0]) (B := p4.heap.size + 1) (by simp)).chg s4 (by omega))
    | ((with_reducible refine wpList_storeF (o := ⟨none, .store 28 (.tmp 9) (.tmp 30), _, _, _, none⟩) rfl (.tmp 9) (.tmp 30) rfl (p4.heap.size + 1) 4 32 rfl rfl ?_ ?_); exact ⟨_, cF4, rfl⟩; intro v4 bF4 t4; have e4 := nochg q4 (((((Chg.refl (fun _ => False) p4).alloc (.cells Z 23)).alloc (.cells #[.int .i64 0, .int .i64 0] 28)).trans s4 (fun k hk he => by omega)).trans t4 (fun k hk he => by omega)); have bX4 := bX4.chg t4 (by omega); have K4 := nochg K3 e4; have bI := bI.chg e4 (fun h => h); have bX1 := bX1.chg e4 (fun h => h); have bF1 := bF1.chg e4 (fun h => h); have bF2 := bF2.chg e4 (fun h => h); have bF3 := bF3.chg e4 (fun h => h))
    | (go_at_call 12; (with_reducible refine (sums_56 _).mono ?_); rintro e w6 ⟨rfl, k6⟩; have bI := bI.chg k6 (fun h => h); have bX1 := bX1.chg k6 (fun h => h); have bF1 := bF1.chg k6 (fun h => h); have bF2 := bF2.chg k6 (fun h => h); have bF3 := bF3.chg k6 (fun h => h); have bF4 := bF4.chg k6 (fun h => h))
    | ((with_reducible refine wpList_loadE (o := ⟨some 34, .load 23 (.tmp 1), _, _, _, none⟩) rfl 23 (.tmp 1) rfl w1.heap.size rfl IA 16 rt23 hIn ?_ ?_); exact ⟨_, bI⟩)
    | (go_at_call 13; (with_reducible refine (hT _).mono ?_); rintro e w7 ⟨rfl, k7⟩; have bI := bI.chg k7 (fun h => h); have bX1 := bX1.chg k7 (fun h => h); have bF1 := bF1.chg k7 (fun h => h); have bF2 := bF2.chg k7 (fun h => h); have bF3 := bF3.chg k7 (fun h => h); have bF4 := bF4.chg k7 (fun h => h); have c3 := (bF1.cell 0).trans rfl)
    | ((with_reducible refine wpList_loadG (o := ⟨some 38, .load 23 (.tmp 2), _, _, _, _⟩) ?_ 23 (.tmp 2) rfl p1.heap.size rfl IA 16 rt23 hIn ?_ ?_); rfl; exact ⟨_, bX1⟩)
    | ((with_reducible refine wpList_loadG (o := ⟨some 39, .load 23 (.tmp 1), _, _, _, _⟩) ?_ 23 (.tmp 1) rfl w1.heap.size rfl IA 16 rt23 hIn ?_ ?_); rfl; exact ⟨_, bI⟩)
    | (go_at_call 14; (with_reducible refine (awake_any _).mono ?_); rintro e w8 ⟨rfl, k8⟩; have bI := bI.chg k8 (fun h => h); have bX1 := bX1.chg k8 (fun h => h); have bF1 := bF1.chg k8 (fun h => h); have bF2 := bF2.chg k8 (fun h => h); have bF3 := bF3.chg k8 (fun h => h); have bF4 := bF4.chg k8 (fun h => h); have d20 := (bF2.cell 0).trans rfl; have d21 := (bF2.cell 1).trans rfl; have d30 := (bF3.cell 0).trans rfl; have d31 := (bF3.cell 1).trans rfl; have d40 := (bF4.cell 0).trans rfl; have d41 := (bF4.cell 1).trans rfl))
  go_ret
  exact ⟨rfl, nochg (nochg (nochg K4 k6) k7) k8⟩
end Go.Proofs.Ythgfkepflpdalaa
