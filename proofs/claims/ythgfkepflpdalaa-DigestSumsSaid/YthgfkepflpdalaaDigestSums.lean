/- Sum and ID answer as the document's do, for any bytes, and leave them as they were: satchellaw03.DigestSums returns true. No condition. -/
import Derived.Test.YthgfkepflpdalaaSumsWalk
import Derived.Test.YthgfkepflpdalaaOpen
namespace Go.Proofs.Ythgfkepflpdalaa
open Go.ChangeShapes Go.WideShapes Go.ChangeAt Go.RowKit
namespace DigestSums

set_option maxRecDepth 100000 in
theorem lifted (os : Os) (started : os.Started) (H : Type) (enc : TypeId × Value → H) :
    ReturnsInHanded {} Try.checked os 5 .any (Rows.digestSumsSpec.pre6 enc Try.prog Try.f5 Rows.digestSumsRow.domain false) (Rows.digestSumsSpec.post enc Try.prog Try.f5 false true false false) := by
  refine law_of_walk started (by kernel_rfl) Try.func5 rfl rfl
    (ChangeSpec.witness6 (enc := enc) (C := Try.checked) false ⟨#[], #[.slice none 0 0], []⟩ 8 (by kernel_rfl) (by kernel_rfl) (by kernel_rfl) (by kernel_rfl)) ?_ ?_ ?_
  · rw [Try.params5]
    intro t ht
    have h : t = 25 := by simpa using ht
    rcases h with rfl <;> exact ⟨by kernel_rfl, of_decide_eq_true (by kernel_rfl)⟩
  · intro ds hd
    rw [Try.params5] at hd
    match ds, hd with
    | [d0], _ => exact ⟨rfl, rfl, rfl⟩
  · intro W base args ds ps hval hA hsz
    rw [Try.params5] at hval hA hsz
    obtain ⟨v0, vs0, d0, ds0, p0, q0, hargs, rfl, rfl, h0, r0⟩ := trodAll_cons hA
    obtain ⟨rfl, rfl, rfl⟩ := trodAll_nil r0
    obtain rfl : args = #[v0] := by cases args; simp_all
    obtain ⟨a0, len0, cap0, rfl⟩ := okWide_slice Try.underlying25 (hval 0 25 v0 rfl rfl)
    obtain ⟨fuel0, hf0⟩ := h0
    obtain ⟨A0, c0, bs0, hv0, hc0, hm0, hr0, hw0⟩ := open_bytes (fun a c h => World.block_lt_of_cell? W a h) (by simpa [Value.cells] using hf0)
    have hl0 := hw0 fun n hn => of_decide_eq_true (List.all_eq_true.1 hsz n (DataW.weights_mem_each (j := 0) (t := 25) (d := d0) rfl rfl n hn))
    rw [hv0]
    exact digestSums_any hr0

theorem over : Rows.digestSumsRow.holds Try.pinned (OpenSpec.ofChange Rows.digestSumsSpec) :=
  OpenClaim.holds_of_wide 5 Try.f5 rfl rfl rfl rfl rfl rfl rfl ⟨rfl, rfl, rfl, rfl, rfl⟩ rfl rfl rfl rfl rfl (by kernel_rfl) Try.func5 (by kernel_rfl)
    (of_decide_eq_true (by kernel_rfl)) (by unfold Func.isWrapper; first | (rw [if_pos (by decide +kernel)]; kernel_rfl) | (rw [if_neg (by decide +kernel)]; exact ⟨rfl, rfl⟩))
    (fun os started H enc _ => lifted os started H enc)
end DigestSums

theorem digestSums_holds : Rows.DigestSumsSaid := DigestSums.over
#print axioms digestSums_holds
end Go.Proofs.Ythgfkepflpdalaa
