/- The arguments opened: snapshots, a policy. -/
import Derived.Test.YtjfkjohocopcgaaBase
import Derived.Test.YtjfkjohocopcgaaRow
import Derived.Deep.Slices
import Derived.Deep.Fields
import Derived.SizedLaws
namespace Go.Proofs.Ytjfkjohocopcgaa
open Go.RowKit Go.ChangeShapes Go.WideShapes Go.Deep

section
variable {H : Type} {enc : TypeId × Value → H} {P : Program} {w : World} {base : Nat} {spare : Nat → Bool} {held : Bool}
theorem open_slice_fields {t e : TypeId} {fs : Array Field} {fuel : Nat} {cs : List Value} {x : DataW H × List MemPlace} (ht : P.underlying t = some (.slice e)) (he : P.underlying e = some (.struct fs))
    (hone : oneCellFields P fs = true) (hC : P.cellsOf e = fs.size) (h : DataW.trod enc P w base spare held fuel t cs = some x) :
    (cs = [.slice none 0 0] ∧ x = (.nil, [])) ∨
    ∃ (a : Addr) (len cap m : Nat) (D : Nat → DataW H) (Pl : Nat → List MemPlace), cs = [.slice (some a) len cap] ∧ base ≤ a.block ∧ len ≤ cap ∧ cap ≤ maxLen ∧ m = (if spare a.block then cap else len) ∧
      x = (.slice ((List.range len).map D) ((List.range (m - len)).map fun j => D (len + j)), MemPlace.row a (m * fs.size) ++ (List.range m).flatMap Pl) ∧
      ∀ i, i < m → ∃ (ys : List (DataW H × List MemPlace)) (n : Nat), D i = .agg (ys.map (·.1)) ∧ Pl i = ys.flatMap (·.2) ∧ ys.length = fs.size ∧
        ∀ (j : Nat) (f : Field), fs[j]? = some f → ∃ (v : Value) (y : DataW H × List MemPlace), w.cell? (a.add (i * fs.size + j)) = some v ∧ ys[j]? = some y ∧ DataW.trod enc P w base spare held n f.type [v] = some y := by
  rcases open_slice ht h with h0 | ⟨a, len, cap, m, n, D, Pl, hcs, hb, hl, hm, hmm, hx, hi⟩
  · exact .inl h0
  · refine .inr ⟨a, len, cap, m, D, Pl, hcs, hb, hl, hm, hmm, by rw [hC] at hx; exact hx, fun i him => ?_⟩
    obtain ⟨cs', hc, ht'⟩ := hi i him
    rw [hC] at hc
    obtain ⟨ys, n', hn', hy, hlen, hyl, hf⟩ := DataW.trod_struct he ht'
    obtain ⟨_, hcl, hat⟩ := World.cells?_some hc
    simp only [Prod.mk.injEq] at hy
    refine ⟨ys, n', hy.1, hy.2, hyl, fun j f hj => ?_⟩
    obtain ⟨ho, hk⟩ := hone_of hone j f hj
    have hjl : j < fs.size := (Array.getElem?_eq_some_iff.1 hj).1
    have hcell := hat j hjl
    have hv : cs'[j]? = some (cs'[j]'(by omega)) := List.getElem?_eq_getElem (by omega)
    have h1 := hf j f hj
    rw [ho, hk] at h1
    have hone' : (cs'.drop j).take 1 = [cs'[j]'(by omega)] := by
      rw [List.drop_eq_getElem_cons (by omega)]
      rfl
    rw [hone'] at h1
    have hys : ys[j]? = some (ys[j]'(by omega)) := List.getElem?_eq_getElem (by omega)
    refine ⟨_, _, ?_, hys, h1.trans hys⟩
    rw [← Go.Deep.add_add, hcell, hv]
end

theorem list_of {α : Type} : ∀ (n : Nat) (P : Nat → α → Prop), (∀ i, i < n → ∃ x, P i x) → ∃ l : List α, l.length = n ∧ ∀ (i : Nat) (h : i < l.length), P i l[i]
  | 0, _, _ => ⟨[], rfl, fun i h => absurd h (by simp)⟩
  | n + 1, P, h => by
    obtain ⟨l, hl, hp⟩ := list_of n P fun i hi => h i (by omega)
    obtain ⟨x, hx⟩ := h n (by omega)
    refine ⟨l ++ [x], by simp [hl], fun i hi => ?_⟩
    by_cases h1 : i < l.length
    · rw [List.getElem_append_left h1]; exact hp i h1
    · have : i = n := by simp at hi; omega
      subst this
      rw [List.getElem_append_right (by omega)]
      simpa [hl] using hx


section
variable {H : Type} {enc : TypeId × Value → H} {w : World} {fuel : Nat} {held : Bool}
theorem open_snaps {v : Value} {x : DataW H × List MemPlace} (h : DataW.trod enc Try.prog w 0 (fun _ => true) held fuel 22 [v] = some x) :
    ∃ A c l, v = .slice A (List.length l) c ∧ l.length ≤ 9223372036854775807 ∧ Snaps (fun b => b < w.heap.size) w A l := by
  rcases open_slice_fields (fuel := fuel) Try.underlying22 Try.underlying37 (by kernel_rfl) (by kernel_rfl) h with ⟨hcs, hx⟩ | ⟨a, len, cap, m, D, Pl, hcs, _, hl, hm, hmm, hx, hf⟩
  · simp only [List.cons.injEq, and_true] at hcs
    exact ⟨none, 0, [], hcs, by simp, RdC.nil _⟩
  · simp only [List.cons.injEq, and_true] at hcs
    simp only [if_true] at hmm
    subst hmm
    have hel : ∀ i, i < len → ∃ y : Snp, w.cell? (a.add (i * 2)) = some (.int .i64 y.1) ∧ w.cell? (a.add (i * 2 + 1)) = some (.int .i64 y.2) := by
      intro i hi
      obtain ⟨ys, n, hD, hP, hyl, hfs⟩ := hf i (by omega)
      obtain ⟨v0, y0, hc0, hy0, ht0⟩ := hfs 0 _ rfl
      obtain ⟨v1, y1, hc1, hy1, ht1⟩ := hfs 1 _ rfl
      simp only [List.size_toArray, List.length_cons, List.length_nil, Nat.reduceAdd] at hc0 hc1
      rw [Nat.add_zero] at hc0
      obtain ⟨q, hq, hq2, hwf⟩ := DataW.trod_int Try.underlying3 ht0
      obtain ⟨q', hq', hq2', hwf'⟩ := DataW.trod_int Try.underlying3 ht1
      simp only [List.cons.injEq, and_true] at hq hq'
      subst hq hq'
      exact ⟨(q, q'), hc0, hc1⟩
    obtain ⟨l, hll, hp⟩ := list_of len _ hel
    refine ⟨some a, m, l, by rw [hll]; exact hcs, by simp only [maxLen] at hm; omega, fun hn => ⟨a, rfl, ?_, fun j u hu => ?_⟩⟩
    · rw [snapCells_length] at hn
      have := World.block_lt_of_cell? w _ (hp 0 (by omega)).1
      rwa [block_of_add] at this
    · have hj : j < (snapCells l).length := (List.getElem?_eq_some_iff.1 hu).1
      rw [snapCells_length] at hj
      have hk : j / 2 < l.length := by omega
      obtain ⟨e1, e2⟩ := snapCells_at l (j / 2) _ (List.getElem?_eq_getElem hk)
      obtain ⟨d1, d2⟩ := hp (j / 2) hk
      rcases Nat.mod_two_eq_zero_or_one j with h0 | h0
      · rw [show j / 2 * 2 = j by omega] at e1 d1
        rw [d1, ← hu, e1]
      · rw [show j / 2 * 2 + 1 = j by omega] at e2 d2
        rw [d2, ← hu, e2]

/-- A policy that came in. -/
theorem open_pol {cs : List Value} {x : DataW H × List MemPlace} (h : DataW.trod enc Try.prog w 0 (fun _ => true) held fuel 24 cs = some x) : ∃ p : Pol, cs = [.int .i64 p.last, .int .i64 p.span, .int .i64 p.spans] := by
  obtain ⟨ys, n', hn', hy, hlen, hyl, hf⟩ := DataW.trod_struct Try.underlying24 h
  rw [show Try.prog.cellsOf 24 = 3 by kernel_rfl] at hlen
  match cs, hlen with
  | [a, b, c], _ =>
    have h0 := hf 0 _ rfl
    have h1 := hf 1 _ rfl
    have h2 := hf 2 _ rfl
    have e3 : Try.prog.cellsOf 3 = 1 := by kernel_rfl
    change DataW.trod enc Try.prog w 0 (fun _ => true) held n' 3 (([a, b, c].drop 0).take (Try.prog.cellsOf 3)) = _ at h0
    change DataW.trod enc Try.prog w 0 (fun _ => true) held n' 3 (([a, b, c].drop 1).take (Try.prog.cellsOf 3)) = _ at h1
    change DataW.trod enc Try.prog w 0 (fun _ => true) held n' 3 (([a, b, c].drop 2).take (Try.prog.cellsOf 3)) = _ at h2
    rw [e3] at h0 h1 h2
    change DataW.trod enc Try.prog w 0 (fun _ => true) held n' 3 [a] = _ at h0
    change DataW.trod enc Try.prog w 0 (fun _ => true) held n' 3 [b] = _ at h1
    change DataW.trod enc Try.prog w 0 (fun _ => true) held n' 3 [c] = _ at h2
    have hs : ys.length = 3 := hyl
    rw [List.getElem?_eq_getElem (by omega)] at h0 h1 h2
    obtain ⟨q0, e0, _, _⟩ := DataW.trod_int Try.underlying3 h0
    obtain ⟨q1, e1, _, _⟩ := DataW.trod_int Try.underlying3 h1
    obtain ⟨q2, e2, _, _⟩ := DataW.trod_int Try.underlying3 h2
    simp only [List.cons.injEq, and_true] at e0 e1 e2
    subst e0 e1 e2
    exact ⟨⟨q0, q1, q2⟩, rfl⟩
end
end Go.Proofs.Ytjfkjohocopcgaa
