/- Of a policy with a greater Last, or Spans, all stay that stayed of the other one: satchellaw22.RetainMore returns true, for every list of snapshots, every policy and every two ints. No condition. -/
import Derived.Test.YtjfkjohocopcgaaMoreWalk
import Derived.Test.YtjfkjohocopcgaaOpen
namespace Go.Proofs.Ytjfkjohocopcgaa
open Go.ChangeShapes Go.WideShapes Go.ChangeAt Go.RowKit
namespace RetainMore

set_option maxRecDepth 100000 in
theorem lifted (os : Os) (started : os.Started) (H : Type) (enc : TypeId × Value → H) :
    ReturnsInHanded {} Try.checked os 3 .any (Rows.retainMoreSpec.pre6 enc Try.prog Try.f3 Rows.retainMoreRow.domain false) (Rows.retainMoreSpec.post enc Try.prog Try.f3 false true false false) := by
  refine law_of_walk started (by kernel_rfl) Try.func3 rfl rfl
    (ChangeSpec.witness6 (enc := enc) (C := Try.checked) false ⟨#[], #[.slice none 0 0, .agg #[.int .i64 0, .int .i64 0, .int .i64 0], .int .i64 0, .int .i64 0], []⟩ 8 (by kernel_rfl) (by kernel_rfl) (by kernel_rfl) (by kernel_rfl)) ?_ ?_ ?_
  · rw [Try.params3]
    intro t ht
    have h : t = 22 ∨ t = 24 ∨ t = 3 := by simpa using ht
    rcases h with rfl | rfl | rfl <;> exact ⟨by kernel_rfl, of_decide_eq_true (by kernel_rfl)⟩
  · intro ds hd
    rw [Try.params3] at hd
    match ds, hd with
    | [d1, d2, d3, d4], _ => exact ⟨rfl, rfl, rfl⟩
  · intro W base args ds ps hval hA hsz
    rw [Try.params3] at hval hA hsz
    obtain ⟨v0, vs0, d0, ds0, p0, q0, hargs, rfl, rfl, h0, r0⟩ := trodAll_cons hA
    obtain ⟨v1, vs1, d1, ds1, p1, q1, rfl, rfl, rfl, h1, r1⟩ := trodAll_cons r0
    obtain ⟨v2, vs2, d2, ds2, p2, q2, rfl, rfl, rfl, h2, r2⟩ := trodAll_cons r1
    obtain ⟨v3, vs3, d3, ds3, p3, q3, rfl, rfl, rfl, h3, r3⟩ := trodAll_cons r2
    obtain ⟨rfl, rfl, rfl⟩ := trodAll_nil r3
    obtain rfl : args = #[v0, v1, v2, v3] := by cases args; simp_all
    obtain ⟨a0, len, cap, rfl⟩ := okWide_slice Try.underlying22 (hval 0 22 v0 rfl rfl)
    obtain ⟨cs, rfl, hcs⟩ := okWide_struct Try.underlying24 (hval 1 24 v1 rfl rfl)
    obtain ⟨la, rfl, rfl, rfl, w2⟩ := open_int Try.underlying3 (hval 2 3 v2 rfl rfl) h2
    obtain ⟨ss, rfl, rfl, rfl, w3⟩ := open_int Try.underlying3 (hval 3 3 v3 rfl rfl) h3
    obtain ⟨fuel, hf⟩ := h0
    obtain ⟨A, c, l, hv, hl, hc⟩ := open_snaps (by simpa [Value.cells] using hf)
    obtain ⟨fuel1, hf1⟩ := h1
    obtain ⟨p, hp⟩ := open_pol (by simpa [Value.cells] using hf1)
    have hcs2 : cs = #[.int .i64 p.last, .int .i64 p.span, .int .i64 p.spans] := Array.ext' hp
    rw [hv, hcs2]
    exact retainMore_any hc hl p la ss

theorem over : Rows.retainMoreRow.holds Try.pinned (OpenSpec.ofChange Rows.retainMoreSpec) :=
  OpenClaim.holds_of_wide 3 Try.f3 rfl rfl rfl rfl rfl rfl rfl ⟨rfl, rfl, rfl, rfl, rfl⟩ rfl rfl rfl rfl rfl (by kernel_rfl) Try.func3 (by kernel_rfl)
    (of_decide_eq_true (by kernel_rfl)) (by unfold Func.isWrapper; first | (rw [if_pos (by decide +kernel)]; kernel_rfl) | (rw [if_neg (by decide +kernel)]; exact ⟨rfl, rfl⟩))
    (fun os started H enc _ => lifted os started H enc)
end RetainMore

theorem retainMore_holds : Rows.RetainMoreSaid := RetainMore.over
#print axioms retainMore_holds
end Go.Proofs.Ytjfkjohocopcgaa
