/- A running digest has the digest of all that was written, behind each piece, and keeps nothing of what was lent: satchellaw03.DigestRuns returns true. No condition. -/
import Derived.Test.YthgfkepflpdalaaRunsWalk
import Derived.Test.YthgfkepflpdalaaOpen
namespace Go.Proofs.Ythgfkepflpdalaa
open Go.ChangeShapes Go.WideShapes Go.ChangeAt Go.RowKit
namespace DigestRuns

set_option maxRecDepth 100000 in
theorem lifted (os : Os) (started : os.Started) (H : Type) (enc : TypeId × Value → H) :
    ReturnsInHanded {} Try.checked os 6 .any (Rows.digestRunsSpec.pre6 enc Try.prog Try.f6 Rows.digestRunsRow.domain false) (Rows.digestRunsSpec.post enc Try.prog Try.f6 false true false false) := by
  refine law_of_walk started (by kernel_rfl) Try.func6 rfl rfl
    (ChangeSpec.witness6 (enc := enc) (C := Try.checked) false ⟨#[], #[.slice none 0 0], []⟩ 8 (by kernel_rfl) (by kernel_rfl) (by kernel_rfl) (by kernel_rfl)) ?_ ?_ ?_
  · rw [Try.params6]
    intro t ht
    have h : t = 47 := by simpa using ht
    rcases h with rfl <;> exact ⟨by kernel_rfl, of_decide_eq_true (by kernel_rfl)⟩
  · intro ds hd
    rw [Try.params6] at hd
    match ds, hd with
    | [d0], _ => exact ⟨rfl, rfl, rfl⟩
  · intro W base args ds ps hval hA hsz
    rw [Try.params6] at hval hA hsz
    obtain ⟨v0, vs0, d0, ds0, p0, q0, hargs, rfl, rfl, h0, r0⟩ := trodAll_cons hA
    obtain ⟨rfl, rfl, rfl⟩ := trodAll_nil r0
    obtain rfl : args = #[v0] := by cases args; simp_all
    obtain ⟨a0, len0, cap0, rfl⟩ := okWide_slice Try.underlying47 (hval 0 47 v0 rfl rfl)
    obtain ⟨fuel0, hf0⟩ := h0
    obtain ⟨A0, c0, l0, hv0, hm0, hr0, hb0⟩ := open_lists (by simpa [Value.cells] using hf0) fun n hn => of_decide_eq_true (List.all_eq_true.1 hsz n (DataW.weights_mem_each (j := 0) (t := 47) (d := d0) rfl rfl n hn))
    rw [hv0]
    exact digestRuns_any hr0 hm0 hb0

theorem over : Rows.digestRunsRow.holds Try.pinned (OpenSpec.ofChange Rows.digestRunsSpec) :=
  OpenClaim.holds_of_wide 6 Try.f6 rfl rfl rfl rfl rfl rfl rfl ⟨rfl, rfl, rfl, rfl, rfl⟩ rfl rfl rfl rfl rfl (by kernel_rfl) Try.func6 (by kernel_rfl)
    (of_decide_eq_true (by kernel_rfl)) (by unfold Func.isWrapper; first | (rw [if_pos (by decide +kernel)]; kernel_rfl) | (rw [if_neg (by decide +kernel)]; exact ⟨rfl, rfl⟩))
    (fun os started H enc _ => lifted os started H enc)
end DigestRuns

theorem digestRuns_holds : Rows.DigestRunsSaid := DigestRuns.over
#print axioms digestRuns_holds
end Go.Proofs.Ythgfkepflpdalaa
