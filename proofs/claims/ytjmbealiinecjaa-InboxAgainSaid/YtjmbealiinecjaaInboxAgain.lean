/- What came once may come again, with any body: it changes nothing: satchellaw14.InboxAgain returns true, for every size, slice of things, choice and body. No condition. -/
import Derived.Test.YtjmbealiinecjaaAgainWalk
import Derived.Test.YtjmbealiinecjaaOpen
namespace Go.Proofs.Ytjmbealiinecjaa
open Go.ChangeShapes Go.WideShapes Go.ChangeAt Go.RowKit
namespace InboxAgain

set_option maxRecDepth 100000 in
theorem lifted (os : Os) (started : os.Started) (H : Type) (enc : TypeId × Value → H) :
    ReturnsInHanded {} Try.checked os 7 .any (Rows.inboxAgainSpec.pre6 enc Try.prog Try.f7 Rows.inboxAgainRow.domain false) (Rows.inboxAgainSpec.post enc Try.prog Try.f7 false true false false) := by
  refine law_of_walk started (by kernel_rfl) Try.func7 rfl rfl
    (ChangeSpec.witness6 (enc := enc) (C := Try.checked) false ⟨#[], #[.int .i64 0, .slice none 0 0, .int .i64 0, .slice none 0 0], []⟩ 8 (by kernel_rfl) (by kernel_rfl) (by kernel_rfl) (by kernel_rfl)) ?_ ?_ ?_
  · rw [Try.params7]
    intro t ht
    have h : t = 3 ∨ t = 22 ∨ t = 3 ∨ t = 31 := by simpa using ht
    rcases h with rfl | rfl | rfl | rfl <;> exact ⟨by kernel_rfl, of_decide_eq_true (by kernel_rfl)⟩
  · intro ds hd
    rw [Try.params7] at hd
    match ds, hd with
    | [d1, d2, d3, d4], _ => exact ⟨rfl, rfl, rfl⟩
  · intro W base args ds ps hval hA hsz
    rw [Try.params7] at hval hA hsz
    obtain ⟨v0, vs0, d0, ds0, p0, q0, hargs, rfl, rfl, h0, r0⟩ := trodAll_cons hA
    obtain ⟨v1, vs1, d1, ds1, p1, q1, rfl, rfl, rfl, h1, r1⟩ := trodAll_cons r0
    obtain ⟨v2, vs2, d2, ds2, p2, q2, rfl, rfl, rfl, h2, r2⟩ := trodAll_cons r1
    obtain ⟨v3, vs3, d3, ds3, p3, q3, rfl, rfl, rfl, h3, r3⟩ := trodAll_cons r2
    obtain ⟨rfl, rfl, rfl⟩ := trodAll_nil r3
    obtain rfl : args = #[v0, v1, v2, v3] := by cases args; simp_all
    obtain ⟨sz, rfl, rfl, rfl, w0⟩ := open_int Try.underlying3 (hval 0 3 v0 rfl rfl) h0
    obtain ⟨wh, rfl, rfl, rfl, w2⟩ := open_int Try.underlying3 (hval 2 3 v2 rfl rfl) h2
    obtain ⟨a3, nb, cb, rfl⟩ := okWide_slice Try.underlying31 (hval 3 31 v3 rfl rfl)
    obtain ⟨a1, len, cap, rfl⟩ := okWide_slice Try.underlying22 (hval 1 22 v1 rfl rfl)
    obtain ⟨fuel, hf⟩ := h1
    obtain ⟨A, c, l, hv, hl, hc⟩ := open_cames (by simpa [Value.cells] using hf) (fun n hn => by
      have := List.all_eq_true.1 hsz n (DataW.weights_mem_each (j := 1) (t := 22) (d := d1) rfl rfl n hn)
      simpa using this)
    rw [hv]
    exact inboxAgain_any sz wh hc hl

theorem over : Rows.inboxAgainRow.holds Try.pinned (OpenSpec.ofChange Rows.inboxAgainSpec) :=
  OpenClaim.holds_of_wide 7 Try.f7 rfl rfl rfl rfl rfl rfl rfl ⟨rfl, rfl, rfl, rfl, rfl⟩ rfl rfl rfl rfl rfl (by kernel_rfl) Try.func7 (by kernel_rfl)
    (of_decide_eq_true (by kernel_rfl)) (by unfold Func.isWrapper; first | (rw [if_pos (by decide +kernel)]; kernel_rfl) | (rw [if_neg (by decide +kernel)]; exact ⟨rfl, rfl⟩))
    (fun os started H enc _ => lifted os started H enc)
end InboxAgain

theorem inboxAgain_holds : Rows.InboxAgainSaid := InboxAgain.over
#print axioms inboxAgain_holds
end Go.Proofs.Ytjmbealiinecjaa
