/- Text and Parse answer as the document's do, for any ID and any text: satchellaw03.DigestTexts returns true. No condition. -/
import Derived.Test.YthgfkepflpdalaaTextsWalk
import Derived.Test.YthgfkepflpdalaaOpen
namespace Go.Proofs.Ythgfkepflpdalaa
open Go.ChangeShapes Go.WideShapes Go.ChangeAt Go.RowKit
namespace DigestTexts

set_option maxRecDepth 100000 in
theorem lifted (os : Os) (started : os.Started) (H : Type) (enc : TypeId × Value → H) :
    ReturnsInHanded {} Try.checked os 8 .any (Rows.digestTextsSpec.pre6 enc Try.prog Try.f8 Rows.digestTextsRow.domain false) (Rows.digestTextsSpec.post enc Try.prog Try.f8 false true false false) := by
  refine law_of_walk started (by kernel_rfl) Try.func8 rfl rfl
    (ChangeSpec.witness6 (enc := enc) (C := Try.checked) false ⟨#[], #[.agg #[.int .u8 0, .int .u8 0, .int .u8 0, .int .u8 0, .int .u8 0, .int .u8 0, .int .u8 0, .int .u8 0, .int .u8 0, .int .u8 0, .int .u8 0, .int .u8 0, .int .u8 0, .int .u8 0, .int .u8 0, .int .u8 0], .string ⟨#[]⟩], []⟩ 8 (by kernel_rfl) (by kernel_rfl) (by kernel_rfl) (by kernel_rfl)) ?_ ?_ ?_
  · rw [Try.params8]
    intro t ht
    have h : t = 22 ∨ t = 9 := by simpa using ht
    rcases h with rfl | rfl <;> exact ⟨by kernel_rfl, of_decide_eq_true (by kernel_rfl)⟩
  · intro ds hd
    rw [Try.params8] at hd
    match ds, hd with
    | [d0, d1], _ => exact ⟨rfl, rfl, rfl⟩
  · intro W base args ds ps hval hA hsz
    rw [Try.params8] at hval hA hsz
    obtain ⟨v0, vs0, d0, ds0, p0, q0, hargs, rfl, rfl, h0, r0⟩ := trodAll_cons hA
    obtain ⟨v1, vs1, d1, ds1, p1, q1, rfl, rfl, rfl, h1, r1⟩ := trodAll_cons r0
    obtain ⟨rfl, rfl, rfl⟩ := trodAll_nil r1
    obtain rfl : args = #[v0, v1] := by cases args; simp_all
    obtain ⟨fuel0, hf0⟩ := h0
    obtain ⟨bs0, hn0, hv0⟩ := open_id (hval 0 22 v0 rfl rfl) hf0
    obtain ⟨s1, rfl, rfl, rfl, ws1⟩ := Go.ChangeMaps.open_string Try.underlying9 (hval 1 9 v1 rfl rfl) h1
    rw [hv0]
    exact digestTexts_any hn0 ws1 _

theorem over : Rows.digestTextsRow.holds Try.pinned (OpenSpec.ofChange Rows.digestTextsSpec) :=
  OpenClaim.holds_of_wide 8 Try.f8 rfl rfl rfl rfl rfl rfl rfl ⟨rfl, rfl, rfl, rfl, rfl⟩ rfl rfl rfl rfl rfl (by kernel_rfl) Try.func8 (by kernel_rfl)
    (of_decide_eq_true (by kernel_rfl)) (by unfold Func.isWrapper; first | (rw [if_pos (by decide +kernel)]; kernel_rfl) | (rw [if_neg (by decide +kernel)]; exact ⟨rfl, rfl⟩))
    (fun os started H enc _ => lifted os started H enc)
end DigestTexts

theorem digestTexts_holds : Rows.DigestTextsSaid := DigestTexts.over
#print axioms digestTexts_holds
end Go.Proofs.Ythgfkepflpdalaa
