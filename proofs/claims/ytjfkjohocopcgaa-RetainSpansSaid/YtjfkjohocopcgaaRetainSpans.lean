/- By spans alone, at most so many stay as Spans says (one, if it says none), each the last one of its own span: satchellaw22.RetainSpans returns true, for every list of snapshots and every two ints. No condition. -/
import Derived.Test.YtjfkjohocopcgaaSpansWalk
import Derived.Test.YtjfkjohocopcgaaOpen
namespace Go.Proofs.Ytjfkjohocopcgaa
open Go.ChangeShapes Go.WideShapes Go.ChangeAt Go.RowKit
namespace RetainSpans

set_option maxRecDepth 100000 in
theorem lifted (os : Os) (started : os.Started) (H : Type) (enc : TypeId × Value → H) :
    ReturnsInHanded {} Try.checked os 4 .any (Rows.retainSpansSpec.pre6 enc Try.prog Try.f4 Rows.retainSpansRow.domain false) (Rows.retainSpansSpec.post enc Try.prog Try.f4 false true false false) := by
  refine law_of_walk started (by kernel_rfl) Try.func4 rfl rfl
    (ChangeSpec.witness6 (enc := enc) (C := Try.checked) false ⟨#[], #[.slice none 0 0, .int .i64 0, .int .i64 0], []⟩ 8 (by kernel_rfl) (by kernel_rfl) (by kernel_rfl) (by kernel_rfl)) ?_ ?_ ?_
  · rw [Try.params4]
    intro t ht
    have h : t = 22 ∨ t = 3 := by simpa using ht
    rcases h with rfl | rfl <;> exact ⟨by kernel_rfl, of_decide_eq_true (by kernel_rfl)⟩
  · intro ds hd
    rw [Try.params4] at hd
    match ds, hd with
    | [d0, d1, d2], _ => exact ⟨rfl, rfl, rfl⟩
  · intro W base args ds ps hval hA hsz
    rw [Try.params4] at hval hA hsz
    obtain ⟨v0, vs0, d0, ds0, p0, q0, hargs, rfl, rfl, h0, r0⟩ := trodAll_cons hA
    obtain ⟨v1, vs1, d1, ds1, p1, q1, rfl, rfl, rfl, h1, r1⟩ := trodAll_cons r0
    obtain ⟨v2, vs2, d2, ds2, p2, q2, rfl, rfl, rfl, h2, r2⟩ := trodAll_cons r1
    obtain ⟨rfl, rfl, rfl⟩ := trodAll_nil r2
    obtain rfl : args = #[v0, v1, v2] := by cases args; simp_all
    obtain ⟨a0, len0, cap0, rfl⟩ := okWide_slice Try.underlying22 (hval 0 22 v0 rfl rfl)
    obtain ⟨fuel0, hf0⟩ := h0
    obtain ⟨A0, c0, l0, hv0, hl0, hc0⟩ := open_snaps (by simpa [Value.cells] using hf0)
    obtain ⟨n1, rfl, rfl, rfl, w1⟩ := open_int Try.underlying3 (hval 1 3 v1 rfl rfl) h1
    obtain ⟨n2, rfl, rfl, rfl, w2⟩ := open_int Try.underlying3 (hval 2 3 v2 rfl rfl) h2
    rw [hv0]
    exact retainSpans_any hc0 hl0 n1 n2

theorem over : Rows.retainSpansRow.holds Try.pinned (OpenSpec.ofChange Rows.retainSpansSpec) :=
  OpenClaim.holds_of_wide 4 Try.f4 rfl rfl rfl rfl rfl rfl rfl ⟨rfl, rfl, rfl, rfl, rfl⟩ rfl rfl rfl rfl rfl (by kernel_rfl) Try.func4 (by kernel_rfl)
    (of_decide_eq_true (by kernel_rfl)) (by unfold Func.isWrapper; first | (rw [if_pos (by decide +kernel)]; kernel_rfl) | (rw [if_neg (by decide +kernel)]; exact ⟨rfl, rfl⟩))
    (fun os started H enc _ => lifted os started H enc)
end RetainSpans

theorem retainSpans_holds : Rows.RetainSpansSaid := RetainSpans.over
#print axioms retainSpans_holds
end Go.Proofs.Ytjfkjohocopcgaa
