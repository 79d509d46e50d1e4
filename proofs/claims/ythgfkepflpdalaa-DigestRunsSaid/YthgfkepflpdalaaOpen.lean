/- The arguments opened: bytes. -/
import Derived.Test.YthgfkepflpdalaaApp
import Derived.Test.YthgfkepflpdalaaRow
import Derived.Deep.Slices
import Derived.Deep.Fields
import Derived.SizedLaws
import Derived.ChangeReads
import Derived.ChangeMaps5
namespace Go.Proofs.Ythgfkepflpdalaa
open Go.RowKit Go.ChangeShapes Go.WideShapes Go.Deep

theorem list_of {α : Type} : ∀ (n : Nat) (P : Nat → α → Prop), (∀ i, i < n → ∃ x, P i x) → ∃ l : List α, l.length = n ∧ ∀ (i : Nat) (h : i < l.length), P i l[i]
  | 0, _, _ => ⟨[], rfl, fun i h => absurd h (by simp)⟩
  | n + 1, P, h => by
    obtain ⟨l, hl, hp⟩ := list_of n P fun i hi => h i (by omega)
    obtain ⟨x, hx⟩ := h n (by omega)
    refine ⟨l ++ [x], by simp [hl], fun i hi => ?_⟩
    by_cases h1 : i < l.length
    · rw [List.getElem_append_left h1]; exact hp i h1
    · have : i = n := by simp at hi; omega
      subst this
      rw [List.getElem_append_right (by omega)]
      simpa [hl] using hx

section
variable {H : Type} {enc : TypeId × Value → H} {w : World} {base fuel : Nat} {spare : Nat → Bool} {held : Bool}

theorem weights_all {P : Program} {e : TypeId} : ∀ {l : List (DataW H)} {d : DataW H}, d ∈ l → ∀ n ∈ d.weights P e, n ∈ DataW.weightsAll P e l
  | x :: l, d, hd, n, hn => by
    rw [DataW.weightsAll, List.mem_append]
    rcases List.mem_cons.1 hd with rfl | hd
    · exact .inl hn
    · exact .inr (weights_all hd n hn)

/-- A slice of bytes that came in. -/
theorem open_bytes {v : Value} {x : DataW H × List MemPlace} (hlt : ∀ (a : Addr) (c : Value), w.cell? a = some c → a.block < w.heap.size) (h : DataW.trod enc Try.prog w base spare held fuel 25 [v] = some x) :
    ∃ A c bs, v = .slice A (List.length bs) c ∧ bs.length ≤ c ∧ c ≤ maxLen ∧ Rd (fun b => b < w.heap.size) w A bs ∧ ((∀ n ∈ x.1.weights Try.prog 25, n ≤ reachBytes) → bs.length ≤ 140737488351232) := by
  rcases open_ints Try.underlying25 Try.underlying5 (by kernel_rfl) h with ⟨hcs, hx⟩ | ⟨a, len, cap, zs, hcs, _, hl, hm, hz, hx, hcell, hwz⟩
  · simp only [List.cons.injEq, and_true] at hcs
    exact ⟨none, 0, [], hcs, by simp, by simp, RdC.nil _, fun _ => by simp⟩
  · simp only [List.cons.injEq, and_true] at hcs
    have hlz : len ≤ zs.length := by rw [hz]; split <;> omega
    have hlen : ((zs.take len).map fun n => UInt8.ofNat n.toNat).length = len := by simp; omega
    refine ⟨some a, cap, (zs.take len).map fun n => UInt8.ofNat n.toNat, by rw [hlen]; exact hcs, by rw [hlen]; exact hl, hm, fun hn => ⟨a, rfl, ?_, fun j u hu => ?_⟩, fun hw => ?_⟩
    · rw [bcs_length, hlen] at hn
      have := hlt _ _ (hcell 0 (by omega))
      rwa [block_of_add] at this
    · have hj : j < len := by
        have := (List.getElem?_eq_some_iff.1 hu).1
        rwa [bcs_length, hlen] at this
      rw [hcell j (by omega)]
      have hjz : j < zs.length := by omega
      have hwf := hwz (zs[j]) (List.getElem_mem hjz)
      have hb : 0 ≤ zs[j] ∧ zs[j] ≤ 255 := by
        have h1 := bounds_u8 hwf
        omega
      simp only [bcs, List.map_map, List.getElem?_map, List.getElem?_take, hj, if_true, List.getElem?_eq_getElem hjz, Option.map_some, Function.comp, bv] at hu
      rw [← hu]
      simp [List.getD, List.getElem?_eq_getElem hjz]
      omega
    · rw [hlen]
      have hmem : (zs.length) * Try.prog.bytesOf 5 ∈ x.1.weights Try.prog 25 := by
        rw [hx]
        simp only [DataW.weights, Try.underlying25]
        simp [lits]
        left
        congr 1
        omega
      have := hw _ hmem
      rw [show Try.prog.bytesOf 5 = 1 by kernel_rfl] at this
      simp only [reachBytes] at this
      omega

end
theorem mapM_each {α β : Type} {f : α → Option β} : ∀ {l : List α} {r : List β}, l.mapM f = some r → ∀ x ∈ l, ∃ y, f x = some y
  | [], _, _, x, hx => by simp at hx
  | a :: l, r, h, x, hx => by
    rw [List.mapM_cons] at h
    simp only [bind, Option.bind_eq_some_iff, pure, Option.some.injEq] at h
    obtain ⟨y, hy, ys, hys, _⟩ := h
    rcases List.mem_cons.1 hx with rfl | hx
    · exact ⟨y, hy⟩
    · exact mapM_each hys x hx

/-- An array of bytes that came in. -/
theorem open_id {H : Type} {enc : TypeId × Value → H} {w : World} {base fuel : Nat} {spare : Nat → Bool} {held : Bool} {r : Reach} {b0 : Nat} {v : Value} {x : DataW H × List MemPlace} (hval : Value.okWide Try.prog w r b0 22 v) (h : DataW.trod enc Try.prog w base spare held fuel 22 v.cells.toList = some x) :
    ∃ bs : List UInt8, bs.length = 16 ∧ v = .agg (bcs bs).toArray := by
  have hc : Try.prog.cellsOf 22 = 16 := by kernel_rfl
  obtain ⟨cs, rfl, hcs⟩ : ∃ cs : Array Value, v = .agg cs ∧ cs.size = 16 := by
    simp only [Value.okWide, Try.underlying22] at hval
    obtain ⟨cs, h1, h2, _⟩ := hval
    exact ⟨cs, h1, by rw [h2, hc]⟩
  cases fuel with
  | zero => simp [DataW.trod] at h
  | succ m =>
    rw [DataW.trod_step] at h
    unfold DataW.trodStep at h
    simp only [Try.underlying22, Value.cells] at h
    rw [if_pos (by rw [hc]; simpa using hcs)] at h
    simp only [Option.map_eq_some_iff] at h
    obtain ⟨ys, hy, _⟩ := h
    have hat : ∀ i, i < 16 → ∃ b : UInt8, cs.toList[i]? = some (bv b) := by
      intro i hi
      obtain ⟨y, hy1⟩ := mapM_each hy i (by simpa using hi)
      obtain ⟨a, ea, _, wa⟩ := DataW.trod_int Try.underlying5 hy1
      rw [show Try.prog.cellsOf 5 = 1 by kernel_rfl] at ea
      have hb := bounds_u8 wa
      refine ⟨UInt8.ofNat a.toNat, ?_⟩
      have h0 : i < cs.toList.length := by rw [Array.length_toList, hcs]; exact hi
      have e1 : (cs.toList.drop (i * 1)).take 1 = [cs.toList[i]] := by
        rw [Nat.mul_one, List.drop_eq_getElem_cons h0]
        rfl
      rw [e1] at ea
      rw [List.getElem?_eq_getElem h0]
      simp only [List.cons.injEq, and_true] at ea
      rw [ea, bv]
      simp
      omega
    obtain ⟨bs, hb1, hb2⟩ := list_of 16 (fun i (b : UInt8) => cs.toList[i]? = some (bv b)) hat
    refine ⟨bs, hb1, ?_⟩
    congr 1
    apply Array.ext'
    apply List.ext_getElem?
    intro i
    by_cases hi : i < 16
    · rw [hb2 i (by omega)]
      simp [bcs, hb1, hi]
    · rw [List.getElem?_eq_none (by rw [Array.length_toList, hcs]; omega), List.getElem?_eq_none (by simp [bcs, hb1]; omega)]

end Go.Proofs.Ythgfkepflpdalaa
