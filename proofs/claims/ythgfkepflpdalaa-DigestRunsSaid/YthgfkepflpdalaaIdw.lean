/- ID (10). -/
import Derived.Test.YthgfkepflpdalaaAwake
import Derived.Lib.ReflectliteSwap
namespace Go.Proofs.Ythgfkepflpdalaa
open Go.RowKit

theorem wpList_loadP {w : World} {ops : Array Oper} {rest : List Oper} {o : Oper} {a : Act} {Q : Exit → Act → World → Prop} (hgd : o.guard = none) (ty : TypeId) (x : Operand) (ho : o.op = .load ty x) (g : Nat) (hx : a.eval x = .pointer (some ⟨g, 0, none⟩)) (cs : List Value) (n : Nat) (hT : RowTy ty n) (hn : cs.length = n) (hB : ∀ (k : Nat) v, cs[k]? = some v → w.cell? ⟨g, 0 + k, none⟩ = some v)
    (h : wpList Try.prog ops Q rest (a.put o.dst (.agg cs.toArray)) w) : wpList Try.prog ops Q (o :: rest) a w := by
  obtain ⟨d, h1', h2, h3⟩ := hT
  obtain ⟨ie, hie, hsz⟩ := Option.map_eq_some_iff.1 h3
  have hagg : ∀ w, (isAgg ty).run Try.prog w = .ok true w := by
    intro w
    cases d <;> simp_all [isAgg, run_underlying]
  have hl := Go.Lib.rl_loadVar_cells (P := Try.prog) ty ie hie hagg g 0 cs (by rw [hn, hsz]) w hB
  refine wpList_plain hgd fun K hK => ?_
  unfold Oper.wp execOp
  simp only [ho, hx, Instr.loadAt, Instr.sureAddr, Sem.run_bind, Sem.run_pure, Result.andThen_ok, hl]
  exact hK _ _ h

set_option maxRecDepth 100000 in
set_option maxHeartbeats 1600000 in
theorem id_any {D : Nat → Prop} {w : World} {A : Option Addr} {bs : List UInt8} {c : Nat} (hr : Rd D w A bs) (hD : ∀ k, D k → k < w.heap.size) (hc : bs.length ≤ c) (hlen : bs.length ≤ 1099511627776) :
    Calls Try.prog 10 #[.slice A bs.length c] w fun e w' => e = .returned (.agg (bcs ((sumB bs).take 16)).toArray) ∧ Chg (fun _ => False) w w' := by
  have hz23 : ∀ w, (zeroValue 23).run Try.prog w = .ok (.agg (bcs (List.replicate 16 0)).toArray) w := fun w => by kernel_rfl
  have hZn : (bcs (List.replicate 16 0)).toArray.size = 16 := by kernel_rfl
  generalize (bcs (List.replicate 16 0)).toArray = Z at *
  have hA := Blk.new w 23 Z
  have k0 := (Chg.refl (fun _ => False) w).alloc (.cells Z 23)
  have hn32 : (bcs (sumB bs)).toArray.size = 32 := by simp [bcs, sumB_length]
  have hn1 := bcs_one (sumB bs)
  have hP : ∀ (k : Nat) v, (bcs ((sumB bs).take 16))[k]? = some v → (bcs (sumB bs)).toArray[k]? = some v := by
    intro k v h
    have hk : k < 16 := by
      have := (List.getElem?_eq_some_iff.1 h).1
      simp [bcs] at this
      omega
    simp only [bcs, List.getElem?_map, List.getElem?_take, if_pos hk] at h
    simp [bcs, h]
  have hPn : (bcs ((sumB bs).take 16)).length = 16 := by simp [bcs, sumB_length]
  have hPn' : (bcs ((sumB bs).take 16)).toArray.size = 16 := by simp [bcs, sumB_length]
  have hP1 := bcs_one ((sumB bs).take 16)
  generalize hout : (bcs (sumB bs)).toArray = out at *
  have HO := Lib.hid hout
  clear hout
  generalize hcut : (bcs ((sumB bs).take 16)) = PL at *
  have HC := Lib.hid hcut
  clear hcut
  obtain ⟨PA, hPA⟩ : ∃ PA, PL.toArray = PA := ⟨_, rfl⟩
  rw [hPA] at hPn' hP1
  have HPA := Lib.hid hPA
  clear hPA
  have hAr : ∀ (g : Nat) (w : World), (Instr.arrayAt 23 (.slice (some ⟨g, 0, none⟩) 16 32)).run Try.prog w = .ok (.pointer (some ⟨g, 0, none⟩)) w := by
    intro g w
    simp [Instr.arrayAt, run_underlying Try.underlying23]
  go_enter Try.func10, Try.ntmps10
  go_wp2_with (first
    | (go_at_call 18; refine (digSum_any (hr.chg k0 (fun _ _ h => h)) (fun k hk => by have := hD k hk; simp; omega) hc hlen).mono ?_; rw [HO.out]; rintro e w2 ⟨rfl, k2⟩; have hA2 := hA.chg k2 (fun h => h); have l2 := hA2.lt)
    | ((with_reducible refine wpList_storeW (o := ⟨none, .store 39 (.tmp 3) (.tmp 5), _, _, _, none⟩) rfl 39 (.tmp 3) (.tmp 5) rfl w2.heap.size out rfl rfl 32 rt39 hn32 hn1 39 ?_ ?_); exact ⟨_, Blk.new w2 39 _, rfl⟩; intro w3 hb3 k3; have k23 := ((Chg.refl (fun _ => False) w2).alloc _).trans k3 (fun k hk he => by omega); have hA3 := hA2.chg k23 (fun h => h))
    | ((with_reducible refine wpList_loadP (o := ⟨some 8, .load 23 (.tmp 7), _, _, _, none⟩) rfl 23 (.tmp 7) rfl w2.heap.size rfl PL 16 rt23 hPn ?_ ?_); (intro k v hv; rw [Nat.zero_add, hb3.cell]; exact hP k v hv); rw [HPA.out])
    | ((with_reducible refine wpList_storeE (o := ⟨none, .store 23 (.tmp 2) (.tmp 8), _, _, _, none⟩) rfl 23 (.tmp 2) (.tmp 8) rfl w.heap.size PA rfl rfl 16 rt23 hPn' hP1 ?_ ?_); exact ⟨_, _, hA3, hZn⟩))
  refine bodyPost_ret (v := .agg PA) (results_arr (fn := Try.f10) (p := 2) Try.results10 _ w.heap.size (by rfl) (hA3.row _) rt23 hPn') ?_ ?_
  · rfl
  · rw [HPA.out]
    exact ⟨rfl, ((nochg (nochg k0 k2) k23).setRow (.inl (Nat.le_refl _)) _)⟩
end Go.Proofs.Ythgfkepflpdalaa
