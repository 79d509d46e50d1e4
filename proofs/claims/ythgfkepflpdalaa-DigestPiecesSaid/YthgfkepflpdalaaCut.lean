/- Slices of bytes that are read: b[p:q], b[p:]; numbers that came in. -/
import Derived.Test.YthgfkepflpdalaaIdw
import Derived.Test.YthgfkepflpdalaaOpen
import Derived.Test.YthgfkepflpdalaaNear
namespace Go.Proofs.Ythgfkepflpdalaa
open Go.RowKit

theorem elem25 : Try.prog.underlying 25 = some (.slice (Try.prog.elem 25)) := by
  rw [show Try.prog.elem 25 = 5 by kernel_rfl]; exact Try.underlying25
theorem size_elem25 (w : World) : (sizeOf (Try.prog.elem 25)).run Try.prog w = .ok 1 w := by kernel_rfl

theorem rd_sub {D : Nat → Prop} {w : World} {A : Option Addr} {bs ys : List UInt8} (h : Rd D w A bs) (p : Nat) (hy : ∃ q, (bs.take q).drop p = ys) (c : Nat) :
    Rd D w (if c = p then A else A.map (·.add (p * 1))) ys ∨ (c = p ∧ ys = []) ∨ c < p + ys.length := by
  obtain ⟨q, rfl⟩ := hy
  by_cases hc : c = p
  · by_cases hn : (bs.take q).drop p = []
    · exact .inr (.inl ⟨hc, hn⟩)
    · refine .inr (.inr ?_)
      have := List.length_pos_iff.2 hn
      omega
  · rw [if_neg hc]
    refine .inl fun h0 => ?_
    rw [bcs_length, List.length_drop, List.length_take] at h0
    obtain ⟨ad, e, hD, hcell⟩ := h (by rw [bcs_length]; omega)
    subst e
    refine ⟨_, rfl, by rw [block_of_add]; exact hD, fun j u hu => ?_⟩
    rw [Nat.mul_one, Go.Deep.add_add]
    refine hcell _ _ ?_
    rw [← hu]
    have hj : j < ((bs.take q).drop p).length := by have := (List.getElem?_eq_some_iff.1 hu).1; rwa [bcs_length] at this
    rw [List.length_drop, List.length_take] at hj
    simp only [bcs, List.getElem?_map, List.getElem?_drop, List.getElem?_take]
    rw [if_pos (by omega)]

theorem rd_sub' {D : Nat → Prop} {w : World} {A : Option Addr} {bs ys : List UInt8} (h : Rd D w A bs) (p : Nat) (hy : ∃ q, (bs.take q).drop p = ys) {c : Nat} (hc : p + ys.length ≤ c) :
    Rd D w (if c = p then A else A.map (·.add (p * 1))) ys := by
  rcases rd_sub h p hy c with h | ⟨_, rfl⟩ | h
  · exact h
  · exact RdC.nil _
  · omega

/-- b[p:q] -/
theorem wpList_cut {D : Nat → Prop} {w : World} {ops : Array Oper} {rest : List Oper} {o : Oper} {a : Act} {Q : Exit → Act → World → Prop} (hgd : o.guard = none) (x lo hi : Operand) (ho : o.op = .slice 25 x (some lo) (some hi) none)
    (A : Option Addr) (bs : List UInt8) (c : Nat) (hx : a.eval x = .slice A bs.length c) (hr : Rd D w A bs) (hc : bs.length ≤ c) (p q : Nat) (hlo : a.eval lo = .int .i64 (p : Int)) (qi : Int) (hhi : a.eval hi = .int .i64 qi) (hqi : qi = (q : Int)) (hpq : p ≤ q) (hq : q ≤ bs.length)
    (h : ∀ A' c' ys, ys = (bs.take q).drop p → Rd D w A' ys → ys.length ≤ c' → wpList Try.prog ops Q rest (a.put o.dst (.slice A' ys.length c')) w) : wpList Try.prog ops Q (o :: rest) a w := by
  subst hqi
  have hl : ((bs.take q).drop p).length = q - p := by rw [List.length_drop, List.length_take]; omega
  have := h (if c = p then A else A.map (·.add (p * 1))) (c - p) _ rfl (rd_sub' hr p ⟨q, rfl⟩ (by omega)) (by omega)
  rw [hl] at this
  have hrun : (Instr.sliceAt 25 (.slice A bs.length c) (some (.int .i64 (p : Int))) (some (.int .i64 (q : Int))) none).run Try.prog w = .ok (.slice (if c = p then A else A.map (·.add (p * 1))) (q - p) (c - p)) w := by
    rw [run_sliceAt_slice _ _ _ _ _ _ elem25, run_slice_lh _ _ _ _ _ elem25 _ _ _ _ (by omega) (by omega) (by omega), size_elem25]
    simp [Result.andThen, sliced]
  refine wpList_plain hgd fun K hK => ?_
  unfold Oper.wp execOp
  simp only [ho, hx, Option.map_some, Option.map_none, hlo, hhi, Sem.run_bind, Sem.run_pure, Result.andThen_ok, hrun]
  exact hK _ _ this

/-- b[p:] -/
theorem wpList_rest {D : Nat → Prop} {w : World} {ops : Array Oper} {rest : List Oper} {o : Oper} {a : Act} {Q : Exit → Act → World → Prop} (hgd : o.guard = none) (x lo : Operand) (ho : o.op = .slice 25 x (some lo) none none)
    (A : Option Addr) (bs : List UInt8) (c : Nat) (hx : a.eval x = .slice A bs.length c) (hr : Rd D w A bs) (hc : bs.length ≤ c) (p : Nat) (hlo : a.eval lo = .int .i64 (p : Int)) (hp : p ≤ bs.length)
    (h : ∀ A' c' ys, ys = bs.drop p → Rd D w A' ys → ys.length ≤ c' → wpList Try.prog ops Q rest (a.put o.dst (.slice A' ys.length c')) w) : wpList Try.prog ops Q (o :: rest) a w := by
  have hl : (bs.drop p).length = bs.length - p := List.length_drop
  have := h (if c = p then A else A.map (·.add (p * 1))) (c - p) _ rfl (rd_sub' hr p ⟨bs.length, by rw [List.take_length]⟩ (by omega)) (by omega)
  rw [hl] at this
  have hrun : (Instr.sliceAt 25 (.slice A bs.length c) (some (.int .i64 (p : Int))) none none).run Try.prog w = .ok (.slice (if c = p then A else A.map (·.add (p * 1))) (bs.length - p) (c - p)) w := by
    rw [run_sliceAt_slice _ _ _ _ _ _ elem25, run_slice_l _ _ _ _ _ elem25 _ _ (by omega) (by omega), size_elem25]
    simp [Result.andThen, sliced]
  refine wpList_plain hgd fun K hK => ?_
  unfold Oper.wp execOp
  simp only [ho, hx, Option.map_some, Option.map_none, hlo, Sem.run_bind, Sem.run_pure, Result.andThen_ok, hrun]
  exact hK _ _ this

def nums (zs : List Int) : List Value := zs.map (Value.int .i64)

section
open Go.ChangeShapes Go.WideShapes Go.Deep
variable {H : Type} {enc : TypeId × Value → H} {w : World} {base fuel : Nat} {spare : Nat → Bool} {held : Bool}
/-- A slice of numbers that came in. -/
theorem open_nums {v : Value} {x : DataW H × List MemPlace} (hlt : ∀ (a : Addr) (c : Value), w.cell? a = some c → a.block < w.heap.size) (h : DataW.trod enc Try.prog w base spare held fuel 35 [v] = some x) :
    ∃ A c zs, v = .slice A (List.length zs) c ∧ zs.length ≤ maxLen ∧ RdC (fun b => b < w.heap.size) w A (nums zs) ∧ ∀ z ∈ zs, -9223372036854775808 ≤ z ∧ z ≤ 9223372036854775807 := by
  rcases open_ints Try.underlying35 Try.underlying3 (by kernel_rfl) h with ⟨hcs, hx⟩ | ⟨a, len, cap, zs, hcs, _, hl, hm, hz, hx, hcell, hwz⟩
  · simp only [List.cons.injEq, and_true] at hcs
    exact ⟨none, 0, [], hcs, by simp, RdC.nil _, by simp⟩
  · simp only [List.cons.injEq, and_true] at hcs
    have hlz : len ≤ zs.length := by rw [hz]; split <;> omega
    have hlen : (zs.take len).length = len := by simp; omega
    refine ⟨some a, cap, zs.take len, by rw [hlen]; exact hcs, by rw [hlen]; omega, fun hn => ⟨a, rfl, ?_, fun j u hu => ?_⟩, fun z hz => bounds_i64 (hwz z (List.mem_of_mem_take hz))⟩
    · simp only [nums, List.length_map, hlen] at hn
      have := hlt _ _ (hcell 0 (by omega))
      rwa [block_of_add] at this
    · have hj : j < len := by
        have := (List.getElem?_eq_some_iff.1 hu).1
        simp only [nums, List.length_map, hlen] at this
        exact this
      rw [hcell j (by omega)]
      have hjz : j < zs.length := by omega
      simp only [nums, List.getElem?_map, List.getElem?_take, hj, if_true, List.getElem?_eq_getElem hjz, Option.map_some] at hu
      rw [← hu]
      simp [List.getD, List.getElem?_eq_getElem hjz]
end
end Go.Proofs.Ythgfkepflpdalaa
