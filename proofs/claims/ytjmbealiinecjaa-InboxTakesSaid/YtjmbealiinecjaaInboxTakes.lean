/- An inbox of any size answers whatever comes as the document says, holds and tells what it says, keeps nothing that was lent and tells new memory: satchellaw14.InboxTakes returns true, for every size and every slice of things. No condition. -/
import Derived.Test.YtjmbealiinecjaaTakesWalk
import Derived.Test.YtjmbealiinecjaaOpen
namespace Go.Proofs.Ytjmbealiinecjaa
open Go.ChangeShapes Go.WideShapes Go.ChangeAt Go.RowKit
namespace InboxTakes

set_option maxRecDepth 100000 in
theorem lifted (os : Os) (started : os.Started) (H : Type) (enc : TypeId × Value → H) :
    ReturnsInHanded {} Try.checked os 3 .any (Rows.inboxTakesSpec.pre6 enc Try.prog Try.f3 Rows.inboxTakesRow.domain false) (Rows.inboxTakesSpec.post enc Try.prog Try.f3 false true false false) := by
  refine law_of_walk started (by kernel_rfl) Try.func3 rfl rfl
    (ChangeSpec.witness6 (enc := enc) (C := Try.checked) false ⟨#[], #[.int .i64 0, .slice none 0 0], []⟩ 8 (by kernel_rfl) (by kernel_rfl) (by kernel_rfl) (by kernel_rfl)) ?_ ?_ ?_
  · rw [Try.params3]
    intro t ht
    have h : t = 3 ∨ t = 22 := by simpa using ht
    rcases h with rfl | rfl <;> exact ⟨by kernel_rfl, of_decide_eq_true (by kernel_rfl)⟩
  · intro ds hd
    rw [Try.params3] at hd
    match ds, hd with
    | [d1, d2], _ => exact ⟨rfl, rfl, rfl⟩
  · intro W base args ds ps hval hA hsz
    rw [Try.params3] at hval hA hsz
    obtain ⟨v0, vs0, d0, ds0, p0, q0, hargs, rfl, rfl, h0, r0⟩ := trodAll_cons hA
    obtain ⟨v1, vs1, d1, ds1, p1, q1, rfl, rfl, rfl, h1, r1⟩ := trodAll_cons r0
    obtain ⟨rfl, rfl, rfl⟩ := trodAll_nil r1
    obtain rfl : args = #[v0, v1] := by cases args; simp_all
    obtain ⟨sz, rfl, rfl, rfl, w0⟩ := open_int Try.underlying3 (hval 0 3 v0 rfl rfl) h0
    obtain ⟨a1, len, cap, rfl⟩ := okWide_slice Try.underlying22 (hval 1 22 v1 rfl rfl)
    obtain ⟨fuel, hf⟩ := h1
    obtain ⟨A, c, l, hv, hl, hc⟩ := open_cames (by simpa [Value.cells] using hf) (fun n hn => by
      have := List.all_eq_true.1 hsz n (DataW.weights_mem_each (j := 1) (t := 22) (d := d1) rfl rfl n hn)
      simpa using this)
    rw [hv]
    exact inboxTakes_any sz hc hl

theorem over : Rows.inboxTakesRow.holds Try.pinned (OpenSpec.ofChange Rows.inboxTakesSpec) :=
  OpenClaim.holds_of_wide 3 Try.f3 rfl rfl rfl rfl rfl rfl rfl ⟨rfl, rfl, rfl, rfl, rfl⟩ rfl rfl rfl rfl rfl (by kernel_rfl) Try.func3 (by kernel_rfl)
    (of_decide_eq_true (by kernel_rfl)) (by unfold Func.isWrapper; first | (rw [if_pos (by decide +kernel)]; kernel_rfl) | (rw [if_neg (by decide +kernel)]; exact ⟨rfl, rfl⟩))
    (fun os started H enc _ => lifted os started H enc)
end InboxTakes

theorem inboxTakes_holds : Rows.InboxTakesSaid := InboxTakes.over
#print axioms inboxTakes_holds
end Go.Proofs.Ytjmbealiinecjaa
