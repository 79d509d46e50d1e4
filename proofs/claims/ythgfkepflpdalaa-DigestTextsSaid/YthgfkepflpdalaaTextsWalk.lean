/- The walk of DigestTexts (8). -/
import Derived.Test.YthgfkepflpdalaaRefParse
import Derived.Test.YthgfkepflpdalaaKnownWalk
import Derived.Test.YthgfkepflpdalaaNear
namespace Go.Proofs.Ythgfkepflpdalaa
open Go.RowKit

set_option maxRecDepth 100000 in
set_option maxHeartbeats 1600000 in
theorem digestTexts_any {xs : List UInt8} (hxl : xs.length = 16) {s : ByteArray} (hsm : s.size ≤ maxLen) (w : World) : Calls Try.prog 8 #[.agg (bcs xs).toArray, .string s] w fun e w' => e = .returned (.bool true) ∧ Chg (fun _ => False) w w' := by
  by_cases hbig : 100 < s.size
  · have hX : (bcs xs).toArray.size = 16 := bcs_size hxl
    go_enter Try.func8, Try.ntmps8
    go_wp2_with (go_at_call 14; refine (awake_any _).mono ?_; rintro e w1 ⟨rfl, k1⟩)
    go_ret
    exact ⟨rfl, ((Chg.refl (fun _ => False) w).alloc _).trans k1 (fun _ _ h => h)⟩
  have hT1 := fun w' => text_any w' xs hxl
  have hT2 := fun w' => rtext_any w' xs hxl
  have hn16 : (bcs xs).toArray.size = 16 := bcs_size hxl
  have hP1 := fun w' => parse_any w' s s.data.toList rfl (by simpa using hsm)
  have hP2 := fun w' => rparse_any w' s s.data.toList rfl (by simpa using hsm)
  have hyl : (parseR s.data.toList).1.length = 16 := by
    rcases parse_all s.data.toList with ⟨p, hp, _, _⟩ | ⟨l, hp, hll, _⟩
    · rw [hp]; simp
    · rw [hp]; exact hll
  generalize parseR s.data.toList = r at *
  obtain ⟨ys, c, p⟩ := r
  dsimp only at hP1 hP2 hyl
  have hE := fun w' => eqB (w := w') 23 16 Try.underlying23 ys ys hyl hyl
  simp only [beq_self_eq_true] at hE
  have hF := fun w' => eqF (w := w') c p
  have hYn := bcs_size hyl
  have hY1 := bcs_one ys
  obtain ⟨Z, hz23, hZn⟩ : ∃ Z : Array Value, (∀ w, (zeroValue 23).run Try.prog w = .ok (.agg Z) w) ∧ Z.size = 16 := ⟨_, zero23, bcs_size (by simp)⟩
  generalize (bcs xs).toArray = X at *
  generalize (bcs ys).toArray = Y at *
  generalize (ByteArray.mk (hexT xs).toArray) = T at *
  have hA := Blk.new w 22 X
  have kA := (Chg.refl (fun _ => False) w).alloc (.cells X 22)
  go_enter Try.func8, Try.ntmps8
  go_wp2_with (first
    | (go_at_call 11; (with_reducible refine (hP1 _).mono ?_); rintro e p1 ⟨rfl, q1⟩)
    | ((with_reducible refine wpList_storeW (o := ⟨none, .store 23 (.tmp 5) (.tmp 16), _, _, _, none⟩) rfl 23 (.tmp 5) (.tmp 16) rfl p1.heap.size Y rfl rfl 16 rt23 hYn hY1 23 ?_ ?_); exact ⟨_, (Blk.new p1 23 Z).alloc _, hZn⟩; intro u1 bX1 s1; have cF1 := (Blk.newAt (w := p1.alloc (.cells Z 23)) (t := 28) (cs := #[.int .i64 0, .int .i64 0]) (B := p1.heap.size + 1) (by simp)).chg s1 (by omega))
    | ((with_reducible refine wpList_storeF (o := ⟨none, .store 28 (.tmp 6) (.tmp 17), _, _, _, none⟩) rfl (.tmp 6) (.tmp 17) rfl (p1.heap.size + 1) c p rfl rfl ?_ ?_); exact ⟨_, cF1, rfl⟩; intro v1 bF1 t1; have e1 := nochg q1 (((((Chg.refl (fun _ => False) p1).alloc (.cells Z 23)).alloc (.cells #[.int .i64 0, .int .i64 0] 28)).trans s1 (fun k hk he => by omega)).trans t1 (fun k hk he => by omega)); have bX1 := bX1.chg t1 (by omega); have K1 := nochg kA e1; have hA := hA.chg e1 (fun h => h))
    | (go_at_call 25; (with_reducible refine (hP2 _).mono ?_); rintro e p2 ⟨rfl, q2⟩)
    | ((with_reducible refine wpList_storeW (o := ⟨none, .store 23 (.tmp 7) (.tmp 21), _, _, _, none⟩) rfl 23 (.tmp 7) (.tmp 21) rfl p2.heap.size Y rfl rfl 16 rt23 hYn hY1 23 ?_ ?_); exact ⟨_, (Blk.new p2 23 Z).alloc _, hZn⟩; intro u2 bX2 s2; have cF2 := (Blk.newAt (w := p2.alloc (.cells Z 23)) (t := 28) (cs := #[.int .i64 0, .int .i64 0]) (B := p2.heap.size + 1) (by simp)).chg s2 (by omega))
    | ((with_reducible refine wpList_storeF (o := ⟨none, .store 28 (.tmp 8) (.tmp 22), _, _, _, none⟩) rfl (.tmp 8) (.tmp 22) rfl (p2.heap.size + 1) c p rfl rfl ?_ ?_); exact ⟨_, cF2, rfl⟩; intro v2 bF2 t2; have e2 := nochg q2 (((((Chg.refl (fun _ => False) p2).alloc (.cells Z 23)).alloc (.cells #[.int .i64 0, .int .i64 0] 28)).trans s2 (fun k hk he => by omega)).trans t2 (fun k hk he => by omega)); have bX2 := bX2.chg t2 (by omega); have K2 := nochg K1 e2; have hA := hA.chg e2 (fun h => h); have bX1 := bX1.chg e2 (fun h => h); have bF1 := bF1.chg e2 (fun h => h)))
  refine wp_region_near (by kernel_rfl) (by kernel_rfl) ?_
  repeat (first
    | ((with_reducible refine wpQuiet_loadA (o := ⟨some 23, .load 22 (.tmp 2), _, _, _, _⟩) ?_ 22 (.tmp 2) rfl w.heap.size rfl X 16 rt22 hn16 ?_ ?_); rfl; exact ⟨_, hA⟩)
    | ((with_reducible refine wpQuiet_loadA (o := ⟨some 25, .load 22 (.tmp 2), _, _, _, _⟩) ?_ 22 (.tmp 2) rfl w.heap.size rfl X 16 rt22 hn16 ?_ ?_); rfl; exact ⟨_, hA⟩)
    | ((with_reducible refine wpQuiet_loadA (o := ⟨some 29, .load 23 (.tmp 5), _, _, _, _⟩) ?_ 23 (.tmp 5) rfl p1.heap.size rfl Y 16 rt23 hYn ?_ ?_); rfl; exact ⟨_, bX1⟩)
    | ((with_reducible refine wpQuiet_loadA (o := ⟨some 30, .load 23 (.tmp 7), _, _, _, _⟩) ?_ 23 (.tmp 7) rfl p2.heap.size rfl Y 16 rt23 hYn ?_ ?_); rfl; exact ⟨_, bX2⟩)
    | ((with_reducible refine wpQuiet_loadA (o := ⟨some 34, .load 28 (.tmp 6), _, _, _, _⟩) ?_ 28 (.tmp 6) rfl (p1.heap.size + 1) rfl #[.int .i64 c, .int .i64 p] 2 rt28 rfl ?_ ?_); rfl; exact ⟨_, bF1⟩)
    | ((with_reducible refine wpQuiet_loadA (o := ⟨some 35, .load 28 (.tmp 8), _, _, _, _⟩) ?_ 28 (.tmp 8) rfl (p2.heap.size + 1) rfl #[.int .i64 c, .int .i64 p] 2 rt28 rfl ?_ ?_); rfl; exact ⟨_, bF2⟩)
    | quiet_step (first
        | (go_at_call 13; with_reducible exact near_of (hT1 _))
        | (go_at_call 26; with_reducible exact near_of (hT2 _))
        | (go_at_call 14; with_reducible exact near_of (awake_any _))))
  refine wpQuiet_nil ?_
  rintro _ ⟨q, rfl⟩
  go_wp2_with fail
  go_ret
  exact ⟨rfl, nochg K2 q.h⟩
end Go.Proofs.Ythgfkepflpdalaa
