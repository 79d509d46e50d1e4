/- The chapter's words, and the state at first: digest.words (39), digest.first (30), the reference's k (42). -/
import Derived.Test.YthgfkepflpdalaaArr
namespace Go.Proofs.Ythgfkepflpdalaa
open Go.RowKit

def kW : List W32 := [1116352408#32, 1899447441#32, 3049323471#32, 3921009573#32, 961987163#32, 1508970993#32, 2453635748#32, 2870763221#32, 3624381080#32, 310598401#32, 607225278#32, 1426881987#32, 1925078388#32, 2162078206#32, 2614888103#32, 3248222580#32, 3835390401#32, 4022224774#32, 264347078#32, 604807628#32, 770255983#32, 1249150122#32, 1555081692#32, 1996064986#32, 2554220882#32, 2821834349#32, 2952996808#32, 3210313671#32, 3336571891#32, 3584528711#32, 113926993#32, 338241895#32, 666307205#32, 773529912#32, 1294757372#32, 1396182291#32, 1695183700#32, 1986661051#32, 2177026350#32, 2456956037#32, 2730485921#32, 2820302411#32, 3259730800#32, 3345764771#32, 3516065817#32, 3600352804#32, 4094571909#32, 275423344#32, 430227734#32, 506948616#32, 659060556#32, 883997877#32, 958139571#32, 1322822218#32, 1537002063#32, 1747873779#32, 1955562222#32, 2024104815#32, 2227730452#32, 2361852424#32, 2428436474#32, 2756734187#32, 3204031479#32, 3329325298#32]
def iv : List W32 := [1779033703#32, 3144134277#32, 1013904242#32, 2773480762#32, 1359893119#32, 2600822924#32, 528734635#32, 1541459225#32]
theorem kW_length : kW.length = 64 := rfl
theorem iv_length : iv.length = 8 := rfl

theorem wpList_buildA {ops : Array Oper} {rest : List Oper} {o : Oper} {a : Act} {w : World} {Q : Exit → Act → World → Prop} (hg : o.guard = none) (t : TypeId) (parts : Array (Nat × Operand)) (ho : o.op = .build t parts) (cells : Array Value)
    (hc : Try.prog.built t (parts.map fun (i, x) => (i, a.eval x)).toList = some cells) (h : wpList Try.prog ops Q rest (a.put o.dst (.agg cells)) w) : wpList Try.prog ops Q (o :: rest) a w :=
  wpList_build hg t parts ho (by rw [hc]; rfl) (by rw [hc]; exact h)

set_option maxRecDepth 100000 in
theorem words_any (w : World) : Calls Try.prog 39 #[] w fun e w' => e = .returned (.agg (arr 64 kW)) ∧ Chg (fun _ => False) w w' := by
  have hB := Blk.new w 71 (arr 64 [])
  have hk := (Chg.refl (fun _ => False) w).alloc (.cells (arr 64 []) 71)
  have hsz : (arr 64 kW).size = 64 := by kernel_rfl
  have h1c := arr_one 64 kW
  go_enter Try.func39, Try.ntmps39
  go_wp2_with (first
    | (with_reducible refine wpList_buildA (o := ⟨some 1, .build 71 _, _, _, _, none⟩) rfl 71 _ rfl (arr 64 kW) (by kernel_rfl) ?_)
    | (refine wpList_storeA (o := ⟨none, .store 71 (.tmp 0) (.tmp 1), _, _, _, none⟩) rfl 71 (.tmp 0) (.tmp 1) rfl w.heap.size (arr 64 kW) rfl rfl hB rt71 hsz rfl h1c ?_))
  go_wp2_with fail
  refine bodyPost_ret (results_arr (fn := Try.f39) (p := 0) Try.results39 _ w.heap.size (by rfl) (hB.row _) rt71 hsz) ?_ ?_
  · rfl
  · exact ⟨rfl, hk.setRow (.inl (Nat.le_refl _)) _⟩
set_option maxRecDepth 100000 in
theorem rk_any (w : World) : Calls Try.prog 42 #[] w fun e w' => e = .returned (.agg (arr 64 kW)) ∧ Chg (fun _ => False) w w' := by
  have hB := Blk.new w 71 (arr 64 [])
  have hk := (Chg.refl (fun _ => False) w).alloc (.cells (arr 64 []) 71)
  have hsz : (arr 64 kW).size = 64 := by kernel_rfl
  have h1c := arr_one 64 kW
  go_enter Try.func42, Try.ntmps42
  go_wp2_with (first
    | (with_reducible refine wpList_buildA (o := ⟨some 1, .build 71 _, _, _, _, none⟩) rfl 71 _ rfl (arr 64 kW) (by kernel_rfl) ?_)
    | (refine wpList_storeA (o := ⟨none, .store 71 (.tmp 0) (.tmp 1), _, _, _, none⟩) rfl 71 (.tmp 0) (.tmp 1) rfl w.heap.size (arr 64 kW) rfl rfl hB rt71 hsz rfl h1c ?_))
  go_wp2_with fail
  refine bodyPost_ret (results_arr (fn := Try.f42) (p := 0) Try.results42 _ w.heap.size (by rfl) (hB.row _) rt71 hsz) ?_ ?_
  · rfl
  · exact ⟨rfl, hk.setRow (.inl (Nat.le_refl _)) _⟩
set_option maxRecDepth 100000 in
theorem first_any (w : World) : Calls Try.prog 30 #[] w fun e w' => e = .returned (.agg (arr 8 iv)) ∧ Chg (fun _ => False) w w' := by
  have hB := Blk.new w 51 (arr 8 [])
  have hk := (Chg.refl (fun _ => False) w).alloc (.cells (arr 8 []) 51)
  have hsz : (arr 8 iv).size = 8 := by kernel_rfl
  have h1c := arr_one 8 iv
  go_enter Try.func30, Try.ntmps30
  go_wp2_with (first
    | (with_reducible refine wpList_buildA (o := ⟨some 1, .build 51 _, _, _, _, none⟩) rfl 51 _ rfl (arr 8 iv) (by kernel_rfl) ?_)
    | (refine wpList_storeA (o := ⟨none, .store 51 (.tmp 0) (.tmp 1), _, _, _, none⟩) rfl 51 (.tmp 0) (.tmp 1) rfl w.heap.size (arr 8 iv) rfl rfl hB rt51 hsz rfl h1c ?_))
  go_wp2_with fail
  refine bodyPost_ret (results_arr (fn := Try.f30) (p := 0) Try.results30 _ w.heap.size (by rfl) (hB.row _) rt51 hsz) ?_ ?_
  · rfl
  · exact ⟨rfl, hk.setRow (.inl (Nat.le_refl _)) _⟩
end Go.Proofs.Ythgfkepflpdalaa
