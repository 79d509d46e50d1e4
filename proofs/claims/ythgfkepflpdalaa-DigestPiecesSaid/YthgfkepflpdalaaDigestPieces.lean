/- It does not matter in which pieces bytes are written, and a look between changes nothing: satchellaw03.DigestPieces returns true. No condition. -/
import Derived.Test.YthgfkepflpdalaaPiecesWalk
import Derived.Test.YthgfkepflpdalaaOpen
namespace Go.Proofs.Ythgfkepflpdalaa
open Go.ChangeShapes Go.WideShapes Go.ChangeAt Go.RowKit
namespace DigestPieces

set_option maxRecDepth 100000 in
theorem lifted (os : Os) (started : os.Started) (H : Type) (enc : TypeId × Value → H) :
    ReturnsInHanded {} Try.checked os 4 .any (Rows.digestPiecesSpec.pre6 enc Try.prog Try.f4 Rows.digestPiecesRow.domain false) (Rows.digestPiecesSpec.post enc Try.prog Try.f4 false true false false) := by
  refine law_of_walk started (by kernel_rfl) Try.func4 rfl rfl
    (ChangeSpec.witness6 (enc := enc) (C := Try.checked) false ⟨#[], #[.slice none 0 0, .slice none 0 0], []⟩ 8 (by kernel_rfl) (by kernel_rfl) (by kernel_rfl) (by kernel_rfl)) ?_ ?_ ?_
  · rw [Try.params4]
    intro t ht
    have h : t = 25 ∨ t = 35 := by simpa using ht
    rcases h with rfl | rfl <;> exact ⟨by kernel_rfl, of_decide_eq_true (by kernel_rfl)⟩
  · intro ds hd
    rw [Try.params4] at hd
    match ds, hd with
    | [d0, d1], _ => exact ⟨rfl, rfl, rfl⟩
  · intro W base args ds ps hval hA hsz
    rw [Try.params4] at hval hA hsz
    obtain ⟨v0, vs0, d0, ds0, p0, q0, hargs, rfl, rfl, h0, r0⟩ := trodAll_cons hA
    obtain ⟨v1, vs1, d1, ds1, p1, q1, rfl, rfl, rfl, h1, r1⟩ := trodAll_cons r0
    obtain ⟨rfl, rfl, rfl⟩ := trodAll_nil r1
    obtain rfl : args = #[v0, v1] := by cases args; simp_all
    obtain ⟨a0, len0, cap0, rfl⟩ := okWide_slice Try.underlying25 (hval 0 25 v0 rfl rfl)
    obtain ⟨fuel0, hf0⟩ := h0
    obtain ⟨A0, c0, bs0, hv0, hc0, hm0, hr0, hw0⟩ := open_bytes (fun a c h => World.block_lt_of_cell? W a h) (by simpa [Value.cells] using hf0)
    have hl0 := hw0 fun n hn => of_decide_eq_true (List.all_eq_true.1 hsz n (DataW.weights_mem_each (j := 0) (t := 25) (d := d0) rfl rfl n hn))
    obtain ⟨a1, len1, cap1, rfl⟩ := okWide_slice Try.underlying35 (hval 1 35 v1 rfl rfl)
    obtain ⟨fuel1, hf1⟩ := h1
    obtain ⟨A1, c1, zs1, hv1, hm1, hr1, hb1⟩ := open_nums (fun a c h => World.block_lt_of_cell? W a h) (by simpa [Value.cells] using hf1)
    rw [hv0, hv1]
    exact digestPieces_any hr0 hc0 hr1 hm1 hb1

theorem over : Rows.digestPiecesRow.holds Try.pinned (OpenSpec.ofChange Rows.digestPiecesSpec) :=
  OpenClaim.holds_of_wide 4 Try.f4 rfl rfl rfl rfl rfl rfl rfl ⟨rfl, rfl, rfl, rfl, rfl⟩ rfl rfl rfl rfl rfl (by kernel_rfl) Try.func4 (by kernel_rfl)
    (of_decide_eq_true (by kernel_rfl)) (by unfold Func.isWrapper; first | (rw [if_pos (by decide +kernel)]; kernel_rfl) | (rw [if_neg (by decide +kernel)]; exact ⟨rfl, rfl⟩))
    (fun os started H enc _ => lifted os started H enc)
end DigestPieces

theorem digestPieces_holds : Rows.DigestPiecesSaid := DigestPieces.over
#print axioms digestPieces_holds
end Go.Proofs.Ythgfkepflpdalaa
