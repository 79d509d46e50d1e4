/- Bodies of the numbers 1 to n that come in any order, each as long as it is refused for want of room, are told all, in order: satchellaw14.InboxAll returns true, for every size, every slice of bodies and every slice of choices. No condition. -/
import Derived.Test.YtjmbealiinecjaaAllWalk
import Derived.Test.YtjmbealiinecjaaOpen2
namespace Go.Proofs.Ytjmbealiinecjaa
open Go.ChangeShapes Go.WideShapes Go.ChangeAt Go.RowKit
namespace InboxAll

set_option maxRecDepth 100000 in
theorem lifted (os : Os) (started : os.Started) (H : Type) (enc : TypeId × Value → H) :
    ReturnsInHanded {} Try.checked os 6 .any (Rows.inboxAllSpec.pre6 enc Try.prog Try.f6 Rows.inboxAllRow.domain false) (Rows.inboxAllSpec.post enc Try.prog Try.f6 false true false false) := by
  refine law_of_walk started (by kernel_rfl) Try.func6 rfl rfl
    (ChangeSpec.witness6 (enc := enc) (C := Try.checked) false ⟨#[], #[.int .i64 0, .slice none 0 0, .slice none 0 0], []⟩ 8 (by kernel_rfl) (by kernel_rfl) (by kernel_rfl) (by kernel_rfl)) ?_ ?_ ?_
  · rw [Try.params6]
    intro t ht
    have h : t = 3 ∨ t = 35 ∨ t = 53 := by simpa using ht
    rcases h with rfl | rfl | rfl <;> exact ⟨by kernel_rfl, of_decide_eq_true (by kernel_rfl)⟩
  · intro ds hd
    rw [Try.params6] at hd
    match ds, hd with
    | [d1, d2, d3], _ => exact ⟨rfl, rfl, rfl⟩
  · intro W base args ds ps hval hA hsz
    rw [Try.params6] at hval hA hsz
    obtain ⟨v0, vs0, d0, ds0, p0, q0, hargs, rfl, rfl, h0, r0⟩ := trodAll_cons hA
    obtain ⟨v1, vs1, d1, ds1, p1, q1, rfl, rfl, rfl, h1, r1⟩ := trodAll_cons r0
    obtain ⟨v2, vs2, d2, ds2, p2, q2, rfl, rfl, rfl, h2, r2⟩ := trodAll_cons r1
    obtain ⟨rfl, rfl, rfl⟩ := trodAll_nil r2
    obtain rfl : args = #[v0, v1, v2] := by cases args; simp_all
    obtain ⟨sz, rfl, rfl, rfl, w0⟩ := open_int Try.underlying3 (hval 0 3 v0 rfl rfl) h0
    obtain ⟨a1, len, cap, rfl⟩ := okWide_slice Try.underlying35 (hval 1 35 v1 rfl rfl)
    obtain ⟨a2, len2, cap2, rfl⟩ := okWide_slice Try.underlying53 (hval 2 53 v2 rfl rfl)
    obtain ⟨fuel, hf⟩ := h1
    obtain ⟨fuel2, hf2⟩ := h2
    obtain ⟨A, c, l, hv, hl, hc, hL⟩ := open_lists (by simpa [Value.cells] using hf) (fun n hn => by
      have := List.all_eq_true.1 hsz n (DataW.weights_mem_each (j := 1) (t := 35) (d := d1) rfl rfl n hn)
      simpa using this)
    obtain ⟨Aw, cw, wh, hv2, hwl, hW⟩ := open_nums (by simpa [Value.cells] using hf2)
    rw [hv, hv2]
    exact inboxAll_any sz hL hl hc hW hwl

theorem over : Rows.inboxAllRow.holds Try.pinned (OpenSpec.ofChange Rows.inboxAllSpec) :=
  OpenClaim.holds_of_wide 6 Try.f6 rfl rfl rfl rfl rfl rfl rfl ⟨rfl, rfl, rfl, rfl, rfl⟩ rfl rfl rfl rfl rfl (by kernel_rfl) Try.func6 (by kernel_rfl)
    (of_decide_eq_true (by kernel_rfl)) (by unfold Func.isWrapper; first | (rw [if_pos (by decide +kernel)]; kernel_rfl) | (rw [if_neg (by decide +kernel)]; exact ⟨rfl, rfl⟩))
    (fun os started H enc _ => lifted os started H enc)
end InboxAll

theorem inboxAll_holds : Rows.InboxAllSaid := InboxAll.over
#print axioms inboxAll_holds
end Go.Proofs.Ytjmbealiinecjaa
