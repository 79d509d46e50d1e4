/- The arguments opened: lists of slices of bytes (type 47). -/
import Derived.Test.YthgfkepflpdalaaOpen
import Derived.Test.YthgfkepflpdalaaKit
namespace Go.Proofs.Ythgfkepflpdalaa
open Go.RowKit Go.ChangeShapes Go.WideShapes Go.Deep

section
variable {H : Type} {enc : TypeId × Value → H} {w : World} {fuel : Nat} {held : Bool}

theorem open_lists {v : Value} {x : DataW H × List MemPlace} (h : DataW.trod enc Try.prog w 0 (fun _ => true) held fuel 47 [v] = some x) (hsz : ∀ n ∈ x.1.weights Try.prog 47, n ≤ reachBytes) :
    ∃ A c l, v = .slice A (List.length l) c ∧ l.length ≤ 9223372036854775807 ∧ RdL (fun b => b < w.heap.size) w A l ∧ ∀ (k : Nat) (hk : k < l.length), l[k].length ≤ 140737488351232 := by
  rcases open_slice (fuel := fuel) Try.underlying47 h with ⟨hcs, hx⟩ | ⟨a, len, cap, m, n, D, Pl, hcs, _, hl, hm, hmm, hx, hf⟩
  · simp only [List.cons.injEq, and_true] at hcs
    exact ⟨none, 0, [], hcs, by simp, ⟨[], rfl, RdC.nil _, fun i bs v h => by simp at h⟩, fun k hk => absurd hk (by simp)⟩
  · simp only [List.cons.injEq, and_true] at hcs
    simp only [if_true] at hmm
    subst hmm
    have hlt : ∀ (b : Addr) (c : Value), w.cell? b = some c → b.block < w.heap.size := fun b c hb => World.block_lt_of_cell? w b hb
    have hel : ∀ i, i < len → ∃ y : Value × List UInt8, w.cell? (a.add i) = some y.1 ∧ (∃ B ck, y.1 = .slice B y.2.length ck ∧ y.2.length ≤ ck ∧ Rd (fun b => b < w.heap.size) w B y.2) ∧ y.2.length ≤ 140737488351232 := by
      intro i hi
      obtain ⟨cs', hc, ht⟩ := hf i (by omega)
      rw [show Try.prog.cellsOf 25 = 1 by kernel_rfl] at hc
      obtain ⟨_, hcl, hat⟩ := World.cells?_some hc
      have h0 := hat (i := 0) (by omega)
      rw [Nat.mul_one, show (a.add i).add 0 = a.add i from rfl] at h0
      obtain ⟨u, rfl⟩ : ∃ u, cs' = [u] := by
        match cs', hcl with
        | [u], _ => exact ⟨u, rfl⟩
      obtain ⟨B, ck, bs, hv1, hbc, hcm, hRd, hw⟩ := open_bytes hlt ht
      refine ⟨(u, bs), by simpa using h0, ⟨B, ck, hv1, hbc, hRd⟩, hw fun n hn => hsz n ?_⟩
      rw [hx]
      simp only [DataW.weights, Try.underlying47]
      exact List.mem_cons_of_mem _ (List.mem_append.2 (.inl (weights_all (d := D i) (List.mem_map.2 ⟨i, List.mem_range.2 hi, rfl⟩) n hn)))
    obtain ⟨l, hll, hp⟩ := list_of len _ hel
    refine ⟨some a, m, l.map (·.2), by rw [List.length_map, hll]; exact hcs, by rw [List.length_map]; simp only [maxLen] at hm; omega, ⟨l.map (·.1), by simp, fun hn => ⟨a, rfl, ?_, fun j u hu => ?_⟩, fun i bs v h1 h2 => ?_⟩, fun k hk => ?_⟩
    · have h0 := (hp 0 (by simpa using hn)).1
      have := hlt _ _ h0
      rwa [block_of_add] at this
    · simp only [List.getElem?_map, Option.map_eq_some_iff] at hu
      obtain ⟨y, hy, rfl⟩ := hu
      obtain ⟨hj, rfl⟩ := List.getElem?_eq_some_iff.1 hy
      exact (hp j hj).1
    · simp only [List.getElem?_map, Option.map_eq_some_iff] at h1 h2
      obtain ⟨y, hy, rfl⟩ := h1
      obtain ⟨z, hz, rfl⟩ := h2
      rw [hy] at hz
      injection hz with hz
      subst hz
      obtain ⟨hj, rfl⟩ := List.getElem?_eq_some_iff.1 hy
      obtain ⟨B, ck, e1, e2, e3⟩ := (hp i hj).2.1
      exact ⟨B, ck, e1, e2, e3⟩
    · rw [List.length_map] at hk
      rw [List.getElem_map]
      exact (hp k hk).2.2
end
end Go.Proofs.Ythgfkepflpdalaa
