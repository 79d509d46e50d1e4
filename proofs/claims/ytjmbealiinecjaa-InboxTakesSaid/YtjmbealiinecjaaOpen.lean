/- The arguments opened: slices of structs, of bytes, of slices of bytes. -/
import Derived.Test.YtjmbealiinecjaaCame
import Derived.Test.YtjmbealiinecjaaRow
import Derived.Deep.Slices
import Derived.Deep.Fields
import Derived.SizedLaws
namespace Go.Proofs.Ytjmbealiinecjaa
open Go.RowKit Go.ChangeShapes Go.WideShapes Go.Deep

section
variable {H : Type} {enc : TypeId × Value → H} {P : Program} {w : World} {base : Nat} {spare : Nat → Bool} {held : Bool}
theorem open_slice_fields {t e : TypeId} {fs : Array Field} {fuel : Nat} {cs : List Value} {x : DataW H × List MemPlace} (ht : P.underlying t = some (.slice e)) (he : P.underlying e = some (.struct fs))
    (hone : oneCellFields P fs = true) (hC : P.cellsOf e = fs.size) (h : DataW.trod enc P w base spare held fuel t cs = some x) :
    (cs = [.slice none 0 0] ∧ x = (.nil, [])) ∨
    ∃ (a : Addr) (len cap m : Nat) (D : Nat → DataW H) (Pl : Nat → List MemPlace), cs = [.slice (some a) len cap] ∧ base ≤ a.block ∧ len ≤ cap ∧ cap ≤ maxLen ∧ m = (if spare a.block then cap else len) ∧
      x = (.slice ((List.range len).map D) ((List.range (m - len)).map fun j => D (len + j)), MemPlace.row a (m * fs.size) ++ (List.range m).flatMap Pl) ∧
      ∀ i, i < m → ∃ (ys : List (DataW H × List MemPlace)) (n : Nat), D i = .agg (ys.map (·.1)) ∧ Pl i = ys.flatMap (·.2) ∧ ys.length = fs.size ∧
        ∀ (j : Nat) (f : Field), fs[j]? = some f → ∃ (v : Value) (y : DataW H × List MemPlace), w.cell? (a.add (i * fs.size + j)) = some v ∧ ys[j]? = some y ∧ DataW.trod enc P w base spare held n f.type [v] = some y := by
  rcases open_slice ht h with h0 | ⟨a, len, cap, m, n, D, Pl, hcs, hb, hl, hm, hmm, hx, hi⟩
  · exact .inl h0
  · refine .inr ⟨a, len, cap, m, D, Pl, hcs, hb, hl, hm, hmm, by rw [hC] at hx; exact hx, fun i him => ?_⟩
    obtain ⟨cs', hc, ht'⟩ := hi i him
    rw [hC] at hc
    obtain ⟨ys, n', hn', hy, hlen, hyl, hf⟩ := DataW.trod_struct he ht'
    obtain ⟨_, hcl, hat⟩ := World.cells?_some hc
    simp only [Prod.mk.injEq] at hy
    refine ⟨ys, n', hy.1, hy.2, hyl, fun j f hj => ?_⟩
    obtain ⟨ho, hk⟩ := hone_of hone j f hj
    have hjl : j < fs.size := (Array.getElem?_eq_some_iff.1 hj).1
    have hcell := hat j hjl
    have hv : cs'[j]? = some (cs'[j]'(by omega)) := List.getElem?_eq_getElem (by omega)
    have h1 := hf j f hj
    rw [ho, hk] at h1
    have hone' : (cs'.drop j).take 1 = [cs'[j]'(by omega)] := by
      rw [List.drop_eq_getElem_cons (by omega)]
      rfl
    rw [hone'] at h1
    have hys : ys[j]? = some (ys[j]'(by omega)) := List.getElem?_eq_getElem (by omega)
    refine ⟨_, _, ?_, hys, h1.trans hys⟩
    rw [← Go.Deep.add_add, hcell, hv]
end

theorem list_of {α : Type} : ∀ (n : Nat) (P : Nat → α → Prop), (∀ i, i < n → ∃ x, P i x) → ∃ l : List α, l.length = n ∧ ∀ (i : Nat) (h : i < l.length), P i l[i]
  | 0, _, _ => ⟨[], rfl, fun i h => absurd h (by simp)⟩
  | n + 1, P, h => by
    obtain ⟨l, hl, hp⟩ := list_of n P fun i hi => h i (by omega)
    obtain ⟨x, hx⟩ := h n (by omega)
    refine ⟨l ++ [x], by simp [hl], fun i hi => ?_⟩
    by_cases h1 : i < l.length
    · rw [List.getElem_append_left h1]; exact hp i h1
    · have : i = n := by simp at hi; omega
      subst this
      rw [List.getElem_append_right (by omega)]
      simpa [hl] using hx

section
variable {H : Type} {enc : TypeId × Value → H} {w : World} {base fuel : Nat} {spare : Nat → Bool} {held : Bool}

theorem weights_all {P : Program} {e : TypeId} : ∀ {l : List (DataW H)} {d : DataW H}, d ∈ l → ∀ n ∈ d.weights P e, n ∈ DataW.weightsAll P e l
  | x :: l, d, hd, n, hn => by
    rw [DataW.weightsAll, List.mem_append]
    rcases List.mem_cons.1 hd with rfl | hd
    · exact .inl hn
    · exact .inr (weights_all hd n hn)

/-- A slice of bytes that came in. -/
theorem open_bytes {v : Value} {x : DataW H × List MemPlace} (hlt : ∀ (a : Addr) (c : Value), w.cell? a = some c → a.block < w.heap.size) (h : DataW.trod enc Try.prog w base spare held fuel 31 [v] = some x) :
    ∃ A c bs, v = .slice A (List.length bs) c ∧ bs.length ≤ c ∧ c ≤ maxLen ∧ Rd (fun b => b < w.heap.size) w A bs ∧ ((∀ n ∈ x.1.weights Try.prog 31, n ≤ reachBytes) → bs.length ≤ 140737488351232) := by
  rcases open_ints Try.underlying31 Try.underlying5 (by kernel_rfl) h with ⟨hcs, hx⟩ | ⟨a, len, cap, zs, hcs, _, hl, hm, hz, hx, hcell, hwz⟩
  · simp only [List.cons.injEq, and_true] at hcs
    exact ⟨none, 0, [], hcs, by simp, by simp, RdC.nil _, fun _ => by simp⟩
  · simp only [List.cons.injEq, and_true] at hcs
    have hlz : len ≤ zs.length := by rw [hz]; split <;> omega
    have hlen : ((zs.take len).map fun n => UInt8.ofNat n.toNat).length = len := by simp; omega
    refine ⟨some a, cap, (zs.take len).map fun n => UInt8.ofNat n.toNat, by rw [hlen]; exact hcs, by rw [hlen]; exact hl, hm, fun hn => ⟨a, rfl, ?_, fun j u hu => ?_⟩, fun hw => ?_⟩
    · rw [bcs_length, hlen] at hn
      have := hlt _ _ (hcell 0 (by omega))
      rwa [block_of_add] at this
    · have hj : j < len := by
        have := (List.getElem?_eq_some_iff.1 hu).1
        rwa [bcs_length, hlen] at this
      rw [hcell j (by omega)]
      have hjz : j < zs.length := by omega
      have hwf := hwz (zs[j]) (List.getElem_mem hjz)
      have hb : 0 ≤ zs[j] ∧ zs[j] ≤ 255 := by
        have h1 := bounds_u8 hwf
        omega
      simp only [bcs, List.map_map, List.getElem?_map, List.getElem?_take, hj, if_true, List.getElem?_eq_getElem hjz, Option.map_some, Function.comp, bv] at hu
      rw [← hu]
      simp [List.getD, List.getElem?_eq_getElem hjz]
      omega
    · rw [hlen]
      have hmem : (zs.length) * Try.prog.bytesOf 5 ∈ x.1.weights Try.prog 31 := by
        rw [hx]
        simp only [DataW.weights, Try.underlying31]
        simp [lits]
        left
        congr 1
        omega
      have := hw _ hmem
      rw [show Try.prog.bytesOf 5 = 1 by kernel_rfl] at this
      simp only [reachBytes] at this
      omega

end


theorem addr_field (a : Addr) (k : Nat) : a.add (k + 1) = ⟨(a.add k).block, (a.add k).off + 1, none⟩ := by
  unfold Addr.add
  by_cases h : k = 0
  · simp [h]
  · simp [h, Nat.add_assoc]

section
variable {H : Type} {enc : TypeId × Value → H} {w : World} {fuel : Nat} {held : Bool}

/-- The things that came in. -/
theorem open_cames {v : Value} {x : DataW H × List MemPlace} (h : DataW.trod enc Try.prog w 0 (fun _ => true) held fuel 22 [v] = some x) (hsz : ∀ n ∈ x.1.weights Try.prog 22, n ≤ reachBytes) :
    ∃ A c l, v = .slice A (List.length l) c ∧ l.length ≤ 9223372036854775807 ∧ Cames w w.heap.size A l := by
  rcases open_slice_fields (fuel := fuel) Try.underlying22 Try.underlying34 (by kernel_rfl) (by kernel_rfl) h with ⟨hcs, hx⟩ | ⟨a, len, cap, m, D, Pl, hcs, _, hl, hm, hmm, hx, hf⟩
  · simp only [List.cons.injEq, and_true] at hcs
    exact ⟨none, 0, [], hcs, by simp, fun k hk => absurd hk (by simp)⟩
  · simp only [List.cons.injEq, and_true] at hcs
    simp only [if_true] at hmm
    subst hmm
    have hel : ∀ i, i < len → ∃ y : Int × List UInt8, ∃ Bk ck, a.block < w.heap.size ∧ w.cell? (a.add (i * 2)) = some (.int .i64 y.1) ∧ w.cell? ⟨(a.add (i * 2)).block, (a.add (i * 2)).off + 1, none⟩ = some (.slice Bk y.2.length ck) ∧
        y.2.length ≤ ck ∧ y.2.length ≤ 140737488351232 ∧ Rd (fun b => b < w.heap.size) w Bk y.2 ∧ -9223372036854775808 ≤ y.1 ∧ y.1 ≤ 9223372036854775807 := by
      intro i hi
      obtain ⟨ys, n, hD, hP, hyl, hfs⟩ := hf i (by omega)
      obtain ⟨v0, y0, hc0, hy0, ht0⟩ := hfs 0 _ rfl
      obtain ⟨v1, y1, hc1, hy1, ht1⟩ := hfs 1 _ rfl
      simp only [List.size_toArray, List.length_cons, List.length_nil, Nat.reduceAdd] at hc0 hc1
      rw [Nat.add_zero] at hc0
      obtain ⟨q, hq, hq2, hwf⟩ := DataW.trod_int Try.underlying3 ht0
      simp only [List.cons.injEq, and_true] at hq
      subst hq
      have hlt : ∀ (b : Addr) (c : Value), w.cell? b = some c → b.block < w.heap.size := fun b c hb => World.block_lt_of_cell? w b hb
      obtain ⟨B, c, bs, hv1, hbc, hcm, hRd, hw⟩ := open_bytes hlt ht1
      subst hv1
      have hbq := bounds_i64 hwf
      refine ⟨(q, bs), B, c, ?_, hc0, ?_, hbc, hw fun n hn => hsz n ?_, hRd, hbq.1, hbq.2⟩
      · have := hlt _ _ hc0
        rwa [block_of_add] at this
      · rw [← addr_field]; exact hc1
      · rw [hx]
        simp only [DataW.weights, Try.underlying22]
        refine List.mem_cons_of_mem _ (List.mem_append.2 (.inl ?_))
        refine weights_all (d := D i) (List.mem_map.2 ⟨i, List.mem_range.2 hi, rfl⟩) n ?_
        rw [hD]
        simp only [DataW.weights, Try.underlying34]
        exact DataW.weights_mem_each (j := 1) (t := 31) (d := y1.1) rfl (by simp [hy1]) n hn
    obtain ⟨l, hll, hp⟩ := list_of len _ hel
    refine ⟨some a, m, l, by rw [hll]; exact hcs, by simp only [maxLen] at hm; omega, fun k hk => ?_⟩
    obtain ⟨Bk, ck, h1, h2, h3, h4⟩ := hp k hk
    exact ⟨a, Bk, ck, rfl, h1, h2, h3, h4⟩
end

end Go.Proofs.Ytjmbealiinecjaa
