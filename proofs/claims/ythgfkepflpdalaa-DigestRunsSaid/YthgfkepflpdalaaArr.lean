/- Arrays that lie whole in a block: loaded, stored, handed back. -/
import Derived.Test.YthgfkepflpdalaaSched
import Derived.Laws.Rows
import Derived.Laws.Tables
namespace Go.Proofs.Ythgfkepflpdalaa
open Go.RowKit

/-- An array's or a struct's type of n cells. -/
def RowTy (ty : TypeId) (n : Nat) : Prop := ∃ d, Try.prog.underlying ty = some d ∧ (match d with | .struct _ | .array _ _ => true | _ => false) = true ∧ (Try.prog.info? ty).map (·.size) = some n
theorem rt71 : RowTy 71 64 := ⟨_, Try.underlying71, rfl, by kernel_rfl⟩
theorem rt51 : RowTy 51 8 := ⟨_, Try.underlying51, rfl, by kernel_rfl⟩
theorem rt50 : RowTy 50 8 := ⟨_, Try.underlying50, rfl, by kernel_rfl⟩
theorem rt39 : RowTy 39 32 := ⟨_, Try.underlying39, rfl, by kernel_rfl⟩
theorem rt23 : RowTy 23 16 := ⟨_, Try.underlying23, rfl, by kernel_rfl⟩
theorem rt22 : RowTy 22 16 := ⟨_, Try.underlying22, rfl, by kernel_rfl⟩
theorem rt54 : RowTy 54 74 := ⟨_, Try.underlying54, rfl, by kernel_rfl⟩

section
variable {w : World} {g : Nat} {t ty : TypeId} {cs old : Array Value} {n : Nat}
theorem Blk.row (h : Blk w g t old) (cs : Array Value) : Blk (w.setRow g cs) g t cs := setRow_heap w g _ _ t _ h
theorem Blk.row_far (h : Blk w g t old) {g' : Nat} (hg : g ≠ g') (cs : Array Value) : Blk (w.setRow g' cs) g t old := (setRow_other w g' g cs hg).trans h

variable {ops : Array Oper} {rest : List Oper} {o : Oper} {a : Act} {Q : Exit → Act → World → Prop}
theorem wpList_loadA (hgd : o.guard = none) (ty : TypeId) (x : Operand) (ho : o.op = .load ty x) (g : Nat) (hx : a.eval x = .pointer (some ⟨g, 0, none⟩)) {t : TypeId} {cs : Array Value} (hB : Blk w g t cs) {n : Nat} (hT : RowTy ty n) (hn : cs.size = n)
    (h : wpList Try.prog ops Q rest (a.put o.dst (.agg cs)) w) : wpList Try.prog ops Q (o :: rest) a w := by
  obtain ⟨d, h1, h2, h3⟩ := hT
  exact wpList_load_row hgd ty x ho g hx t cs (0, 0) d hB h1 (by cases d <;> simp_all) (by rw [h3, hn]) h
theorem wpList_storeA (hgd : o.guard = none) (ty : TypeId) (x y : Operand) (ho : o.op = .store ty x y) (g : Nat) (cells : Array Value) (hx : a.eval x = .pointer (some ⟨g, 0, none⟩)) (hy : a.eval y = .agg cells)
    {t : TypeId} {old : Array Value} (hB : Blk w g t old) {n : Nat} (hT : RowTy ty n) (hn : cells.size = n) (ho2 : old.size = n) (h1 : cells.all (·.oneCell') = true)
    (h : wpList Try.prog ops Q rest (a.put o.dst undef) (w.setRow g cells)) : wpList Try.prog ops Q (o :: rest) a w := by
  obtain ⟨d, h1', h2, h3⟩ := hT
  exact wpList_store_row hgd ty x y ho g cells hx hy t old hB (by rw [h3, hn]) (by rw [hn, ho2]) h1 h
theorem wpList_loadE (hgd : o.guard = none) (ty : TypeId) (x : Operand) (ho : o.op = .load ty x) (g : Nat) (hx : a.eval x = .pointer (some ⟨g, 0, none⟩)) (cs : Array Value) (n : Nat) (hT : RowTy ty n) (hn : cs.size = n) (hB : ∃ t, Blk w g t cs)
    (h : wpList Try.prog ops Q rest (a.put o.dst (.agg cs)) w) : wpList Try.prog ops Q (o :: rest) a w := by
  obtain ⟨t, hB⟩ := hB
  exact wpList_loadA hgd ty x ho g hx hB hT hn h
theorem wpList_storeE (hgd : o.guard = none) (ty : TypeId) (x y : Operand) (ho : o.op = .store ty x y) (g : Nat) (cells : Array Value) (hx : a.eval x = .pointer (some ⟨g, 0, none⟩)) (hy : a.eval y = .agg cells)
    (n : Nat) (hT : RowTy ty n) (hn : cells.size = n) (h1 : cells.all (·.oneCell') = true) (hB : ∃ t old, Blk w g t old ∧ old.size = n)
    (h : wpList Try.prog ops Q rest (a.put o.dst undef) (w.setRow g cells)) : wpList Try.prog ops Q (o :: rest) a w := by
  obtain ⟨t, old, hB, ho2⟩ := hB
  exact wpList_storeA hgd ty x y ho g cells hx hy hB hT hn ho2 h1 h
theorem wp_loadA {K : Act → World → Prop} (ty : TypeId) (x : Operand) (ho : o.op = .load ty x) (g : Nat) (hx : a.eval x = .pointer (some ⟨g, 0, none⟩)) {t : TypeId} {cs : Array Value} (hB : Blk w g t cs) {n : Nat} (hT : RowTy ty n) (hn : cs.size = n)
    (h : K (a.put o.dst (.agg cs)) w) : o.wp Try.prog a w K Q := by
  obtain ⟨d, h1, h2, h3⟩ := hT
  exact wp_load_row ty x ho g hx t cs (0, 0) d hB h1 (by cases d <;> simp_all) (by rw [h3, hn]) h
theorem results_arr {fn : Func} {p : Tmp} (h : fn.results = #[.cell p ty]) (tmps : Array Value) (g : Nat) (hp : tmps.getD p undef = .pointer (some ⟨g, 0, none⟩)) (hB : Blk w g t cs) (hT : RowTy ty n) (hn : cs.size = n) :
    (results fn tmps).run Try.prog w = .ok (.agg cs) w := by
  obtain ⟨d, h1, h2, h3⟩ := hT
  exact results_cell_row h tmps w g t cs (0, 0) d hp hB h1 (by cases d <;> simp_all) (by rw [h3, hn])
end
end Go.Proofs.Ythgfkepflpdalaa
