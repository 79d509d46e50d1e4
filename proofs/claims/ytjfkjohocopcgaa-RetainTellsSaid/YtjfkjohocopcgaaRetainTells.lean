/- Whether any policy, and any snapshots, may be, and which of them stay, and go, is told as the document says: satchellaw22.RetainTells returns true, for every list of snapshots and every policy. No condition. -/
import Derived.Test.YtjfkjohocopcgaaTellsWalk
import Derived.Test.YtjfkjohocopcgaaOpen
namespace Go.Proofs.Ytjfkjohocopcgaa
open Go.ChangeShapes Go.WideShapes Go.ChangeAt Go.RowKit
namespace RetainTells

set_option maxRecDepth 100000 in
theorem lifted (os : Os) (started : os.Started) (H : Type) (enc : TypeId × Value → H) :
    ReturnsInHanded {} Try.checked os 5 .any (Rows.retainTellsSpec.pre6 enc Try.prog Try.f5 Rows.retainTellsRow.domain false) (Rows.retainTellsSpec.post enc Try.prog Try.f5 false true false false) := by
  refine law_of_walk started (by kernel_rfl) Try.func5 rfl rfl
    (ChangeSpec.witness6 (enc := enc) (C := Try.checked) false ⟨#[], #[.slice none 0 0, .agg #[.int .i64 0, .int .i64 0, .int .i64 0]], []⟩ 8 (by kernel_rfl) (by kernel_rfl) (by kernel_rfl) (by kernel_rfl)) ?_ ?_ ?_
  · rw [Try.params5]
    intro t ht
    have h : t = 22 ∨ t = 24 := by simpa using ht
    rcases h with rfl | rfl <;> exact ⟨by kernel_rfl, of_decide_eq_true (by kernel_rfl)⟩
  · intro ds hd
    rw [Try.params5] at hd
    match ds, hd with
    | [d0, d1], _ => exact ⟨rfl, rfl, rfl⟩
  · intro W base args ds ps hval hA hsz
    rw [Try.params5] at hval hA hsz
    obtain ⟨v0, vs0, d0, ds0, p0, q0, hargs, rfl, rfl, h0, r0⟩ := trodAll_cons hA
    obtain ⟨v1, vs1, d1, ds1, p1, q1, rfl, rfl, rfl, h1, r1⟩ := trodAll_cons r0
    obtain ⟨rfl, rfl, rfl⟩ := trodAll_nil r1
    obtain rfl : args = #[v0, v1] := by cases args; simp_all
    obtain ⟨a0, len0, cap0, rfl⟩ := okWide_slice Try.underlying22 (hval 0 22 v0 rfl rfl)
    obtain ⟨fuel0, hf0⟩ := h0
    obtain ⟨A0, c0, l0, hv0, hl0, hc0⟩ := open_snaps (by simpa [Value.cells] using hf0)
    obtain ⟨cs1, rfl, hcs1⟩ := okWide_struct Try.underlying24 (hval 1 24 v1 rfl rfl)
    obtain ⟨fuel1, hf1⟩ := h1
    obtain ⟨p1, hp1⟩ := open_pol (by simpa [Value.cells] using hf1)
    have hcs21 : cs1 = #[.int .i64 p1.last, .int .i64 p1.span, .int .i64 p1.spans] := Array.ext' hp1
    rw [hv0, hcs21]
    exact retainTells_any hc0 hl0 p1

theorem over : Rows.retainTellsRow.holds Try.pinned (OpenSpec.ofChange Rows.retainTellsSpec) :=
  OpenClaim.holds_of_wide 5 Try.f5 rfl rfl rfl rfl rfl rfl rfl ⟨rfl, rfl, rfl, rfl, rfl⟩ rfl rfl rfl rfl rfl (by kernel_rfl) Try.func5 (by kernel_rfl)
    (of_decide_eq_true (by kernel_rfl)) (by unfold Func.isWrapper; first | (rw [if_pos (by decide +kernel)]; kernel_rfl) | (rw [if_neg (by decide +kernel)]; exact ⟨rfl, rfl⟩))
    (fun os started H enc _ => lifted os started H enc)
end RetainTells

theorem retainTells_holds : Rows.RetainTellsSaid := RetainTells.over
#print axioms retainTells_holds
end Go.Proofs.Ytjfkjohocopcgaa
