/- Stay, Go; the chapter's examples: sample, stay, awake. -/
import Derived.Test.YtjfkjohocopcgaaTold2
import Derived.Deep.CutBlock
namespace Go.Proofs.Ytjfkjohocopcgaa
open Go.RowKit Go.Maps

theorem Stay_any {D : Nat → Prop} {w : World} {A : Option Addr} {l : List Snp} {c : Nat} (h : Snaps D w A l) (hl : l.length ≤ 1000) (p : Pol) :
    Calls Try.prog 13 #[.slice A l.length c, p.v] w fun e w' => ∃ v, e = .returned (.tuple #[v, .int .i64 (toldCode p l)]) ∧ OwnI w w' v (toldL p l true) ∧ Chg (fun _ => False) w w' := by
  have k0 : Chg (fun _ => False) w (w.alloc (.cells #[.int .i64 p.last, .int .i64 p.span, .int .i64 p.spans] 24)) := (Chg.refl _ w).alloc _
  have hc := told_any (c := c) (h.chg k0 (fun _ _ h => h)) hl p true
  have hs := k0.size
  have hvp : p.v = .agg #[.int .i64 p.last, .int .i64 p.span, .int .i64 p.spans] := rfl
  rw [hvp] at hc ⊢
  go_enter Try.func13, Try.ntmps13
  go_wp2_with (go_at_call 25; refine hc.mono ?_; rintro e w' ⟨v, rfl, hO, k⟩)
  go_ret2
  exact ⟨_, rfl, ⟨hO.row, fun g hg => Nat.le_trans hs (hO.fresh g hg)⟩, k0.trans k (fun _ _ h => h)⟩
theorem Go_any {D : Nat → Prop} {w : World} {A : Option Addr} {l : List Snp} {c : Nat} (h : Snaps D w A l) (hl : l.length ≤ 1000) (p : Pol) :
    Calls Try.prog 16 #[.slice A l.length c, p.v] w fun e w' => ∃ v, e = .returned (.tuple #[v, .int .i64 (toldCode p l)]) ∧ OwnI w w' v (toldL p l false) ∧ Chg (fun _ => False) w w' := by
  have k0 : Chg (fun _ => False) w (w.alloc (.cells #[.int .i64 p.last, .int .i64 p.span, .int .i64 p.spans] 24)) := (Chg.refl _ w).alloc _
  have hc := told_any (c := c) (h.chg k0 (fun _ _ h => h)) hl p false
  have hs := k0.size
  have hvp : p.v = .agg #[.int .i64 p.last, .int .i64 p.span, .int .i64 p.spans] := rfl
  rw [hvp] at hc ⊢
  go_enter Try.func16, Try.ntmps16
  go_wp2_with (go_at_call 25; refine hc.mono ?_; rintro e w' ⟨v, rfl, hO, k⟩)
  go_ret2
  exact ⟨_, rfl, ⟨hO.row, fun g hg => Nat.le_trans hs (hO.fresh g hg)⟩, k0.trans k (fun _ _ h => h)⟩

theorem drewN_chg {S : Nat → Prop} {w w' : World} {n : Nat} (h : Chg S (w.drewN n) w') : Chg S w w' := ⟨h.os, h.tape, h.output, h.size, h.block⟩

def sampleL : List Snp := [(1, 0), (2, 5), (3, 12), (4, 13), (5, 27)]
theorem row_snaps {w : World} {es : Array Value} {l : List Snp} {t : TypeId} (h : es = (snapCells l).toArray) : Snaps (fun k => k = w.heap.size) (w.alloc (.cells es t)) (some ⟨w.heap.size, 0, none⟩) l := fun _ =>
  ⟨_, rfl, rfl, fun j u hu => by
    rw [Addr.add_lit, Nat.zero_add, (Blk.new w t es).cell, h]
    simpa using hu⟩
theorem row_nums {w : World} {es : Array Value} {l : List Int} {t : TypeId} (h : es = (intCells l).toArray) : Nums (fun k => k = w.heap.size) (w.alloc (.cells es t)) (some ⟨w.heap.size, 0, none⟩) l := fun _ =>
  ⟨_, rfl, rfl, fun j u hu => by
    rw [Addr.add_lit, Nat.zero_add, (Blk.new w t es).cell, h]
    simpa using hu⟩
theorem OwnI.nums {W w : World} {A : Option Addr} {n c : Nat} {xs : List Int} (h : OwnI W w (.slice A n c) xs) : n = xs.length ∧ Nums (fun _ => True) w A xs := by
  rcases h.row.2 with ⟨he, h0⟩ | ⟨g, cap, cur, he, _, hb, h1, h2, h3, h4⟩
  · injection he with ha hn hc
    have : xs = [] := List.eq_nil_of_length_eq_zero h0
    subst this
    exact ⟨by simp [hn], RdC.nil _⟩
  · injection he with ha hn hc
    refine ⟨hn, fun _ => ⟨⟨g, 0, none⟩, ha, trivial, fun j u hu => ?_⟩⟩
    have := h.row.cells (g := g) (by rw [ha]; rfl) j u hu
    exact this

theorem sample_any (w : World) : Calls Try.prog 22 #[] w fun e w' => ∃ A c, e = .returned (.slice A sampleL.length c) ∧ Snaps (fun k => k = w.heap.size) w' A sampleL ∧ Chg (fun _ => False) w w' := by
  go_enter Try.func22, Try.ntmps22
  go_wp2_with fail
  go_ret
  exact ⟨_, _, rfl, row_snaps (by rfl), (Chg.refl _ w).alloc _⟩

set_option maxHeartbeats 800000 in
theorem stay_any {D : Nat → Prop} {w : World} {A : Option Addr} {want : List Int} {c : Nat} (h : Nums D w A want) (p : Pol) (hok : toldCode p sampleL = 0) :
    Calls Try.prog 23 #[p.v, .slice A want.length c] w fun e w' => e = .returned (.bool (toldL p sampleL true == want)) ∧ Chg (fun _ => False) w w' := by
  have k0 : Chg (fun _ => False) w (w.alloc (.cells #[.int .i64 p.last, .int .i64 p.span, .int .i64 p.spans] 24)) := (Chg.refl _ w).alloc _
  have hB := Blk.new w 24 #[.int .i64 p.last, .int .i64 p.span, .int .i64 p.spans]
  generalize hw0 : w.alloc (.cells #[.int .i64 p.last, .int .i64 p.span, .int .i64 p.spans] 24) = w0 at k0 hB
  have v0 := hB.cell 0
  have v1 := hB.cell 1
  have v2 := hB.cell 2
  simp only [List.getElem?_toArray] at v0 v1 v2
  have hvp : p.v = .agg #[.int .i64 p.last, .int .i64 p.span, .int .i64 p.spans] := rfl
  generalize hTL : toldL p sampleL true = TL
  rw [hvp]
  go_enter Try.func23, Try.ntmps23
  go_wp2_with fail
  go_cut [5, 6] (fun v u w2 => u = .int .i64 0 ∧ OwnI w w2 v TL ∧ Chg (fun _ => False) w w2)
  case first =>
    go_region_held3 (fun w' => w'.cell? ⟨w.heap.size, 0, none⟩ = some (.int .i64 p.last) ∧ w'.cell? ⟨w.heap.size, 1, none⟩ = some (.int .i64 p.span) ∧ w'.cell? ⟨w.heap.size, 2, none⟩ = some (.int .i64 p.spans)) (first | go_keep | exact ⟨z0, z1, z2⟩)
      (first | (go_at_call 22; refine (sample_any _).mono ?_; rintro e w1 ⟨As, cs, rfl, hSn, k1⟩; have hB1 := hB.chg (drewN_chg k1) (fun h => h); have z0 := (hB.chg (drewN_chg k1) (fun h => h)).cell 0; have z1 := (hB.chg (drewN_chg k1) (fun h => h)).cell 1; have z2 := (hB.chg (drewN_chg k1) (fun h => h)).cell 2; simp only [List.getElem?_toArray] at z0 z1 z2) | (go_at_call 13; rw [← hvp]; refine (Stay_any hSn (by decide) p).mono ?_; rintro e w3 ⟨v, rfl, hO, k3⟩; rw [hok]; have z0 := (hB1.chg k3 (fun h => h)).cell 0; have z1 := (hB1.chg k3 (fun h => h)).cell 1; have z2 := (hB1.chg k3 (fun h => h)).cell 2; simp only [List.getElem?_toArray] at z0 z1 z2))
    all_goals (go_wp2_with fail)
    all_goals (go_meet; exact ⟨rfl, hTL ▸ ⟨hO.row, fun g hg => Nat.le_trans (k0.trans (drewN_chg k1) (fun _ _ h => h)).size (hO.fresh g hg)⟩, (k0.trans (drewN_chg k1) (fun _ _ h => h)).trans k3 (fun _ _ h => h)⟩)
  case rest =>
    obtain ⟨rfl, hO, k⟩ := hcut
    obtain ⟨Ao, co, rfl, hco, hmo⟩ := own_shape hO.row
    have hN := hO.nums.2
    have hW := h.chg k (fun _ _ h => h)
    unfold maxLen at hmo
    go_wp2_with (go_at_call 19; refine (sameInts_any hN hW (by omega)).mono ?_; rintro e w' ⟨rfl, n, rfl⟩)
    go_ret
    exact ⟨rfl, k.drewN n⟩
end Go.Proofs.Ytjfkjohocopcgaa
