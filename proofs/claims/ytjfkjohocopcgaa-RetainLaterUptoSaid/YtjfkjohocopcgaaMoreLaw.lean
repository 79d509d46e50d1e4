/- A greater policy: plain numbers. -/
import Derived.Test.YtjfkjohocopcgaaLaw
import Derived.Test.YtjfkjohocopcgaaTold2
namespace Go.Proofs.Ytjfkjohocopcgaa

theorem mem_nums {p : Pol} {l : List Snp} {st : Bool} {n : Int} : n ∈ numsJ p l st l.length ↔ ∃ (i : Nat) (h : i < l.length), stB p l i = st ∧ l[i].1 = n := by
  unfold numsJ
  rw [List.mem_map]
  constructor
  · rintro ⟨i, hi, rfl⟩
    obtain ⟨h1, h2⟩ := List.mem_filter.1 hi
    have hl : i < l.length := by simpa using h1
    exact ⟨i, hl, by simpa using h2, by rw [List.getD_eq_getElem?_getD, List.getElem?_eq_getElem hl]; rfl⟩
  · rintro ⟨i, hl, h1, rfl⟩
    exact ⟨i, List.mem_filter.2 ⟨by simpa using hl, by simpa using h1⟩, by rw [List.getD_eq_getElem?_getD, List.getElem?_eq_getElem hl]; rfl⟩

theorem more_mem {p q : Pol} {l : List Snp} {prev : Int} (h : soundB prev l = true) (h1 : p.last ≤ q.last) (h2 : q.span = p.span) (h3 : p.spans ≤ q.spans) {n : Int} (hn : n ∈ numsJ p l true l.length) : n ∈ numsJ q l true l.length := by
  rw [mem_nums] at hn ⊢
  obtain ⟨i, hi, a, b⟩ := hn
  exact ⟨i, hi, stB_more h h1 h2 h3 hi a, b⟩
end Go.Proofs.Ytjfkjohocopcgaa
