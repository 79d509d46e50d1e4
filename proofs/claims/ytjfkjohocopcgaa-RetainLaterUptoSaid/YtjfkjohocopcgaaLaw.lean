/- Who stays: plain lists. -/
import Derived.Test.YtjfkjohocopcgaaTold
namespace Go.Proofs.Ytjfkjohocopcgaa

theorem addS_mem (S : List Int) (x y : Int) : y ∈ addS S x ↔ y ∈ S ∨ y = x := by
  have := addS_contains S x y
  rw [Bool.eq_iff_iff] at this
  simpa using this

theorem seen_mem (p : Pol) (Sp : List Int) : ∀ (l : List Snp) (s : Int), s ∈ (scan p Sp l).1 ↔ ∃ x ∈ l, tq p x = s
  | [], s => by simp [scan]
  | y :: l, s => by
    have ih := seen_mem p Sp l s
    by_cases h : (scan p Sp l).1.contains (tq p y) = true
    · rw [scanSeen h, ih]
      have hy := (seen_mem p Sp l (tq p y)).1 (by simpa using h)
      constructor
      · rintro ⟨x, hx, e⟩; exact ⟨x, List.mem_cons_of_mem _ hx, e⟩
      · rintro ⟨x, hx, e⟩
        rcases List.mem_cons.1 hx with rfl | hx
        · obtain ⟨z, hz, ez⟩ := hy
          exact ⟨z, hz, ez.trans e⟩
        · exact ⟨x, hx, e⟩
    · have h' : (scan p Sp l).1.contains (tq p y) = false := by simpa using h
      have e1 : (scan p Sp (y :: l)).1 = addS (scan p Sp l).1 (tq p y) := by
        by_cases hl : (laterN Sp (tq p y) : Int) < p.spans
        · rw [scanIn h' hl]
        · rw [scanOut h' hl]
      rw [e1, addS_mem, ih]
      constructor
      · rintro (⟨x, hx, e⟩ | rfl)
        · exact ⟨x, List.mem_cons_of_mem _ hx, e⟩
        · exact ⟨y, List.mem_cons_self .., rfl⟩
      · rintro ⟨x, hx, e⟩
        rcases List.mem_cons.1 hx with rfl | hx
        · exact .inr e.symm
        · exact .inl ⟨x, hx, e⟩

/-- An end of its span that is late enough, by its number: y stands ahead of those behind it. -/
theorem told_mem (p : Pol) (Sp : List Int) : ∀ (l : List Snp) (n : Int), n ∈ (scan p Sp l).2 ↔ ∃ (a b : List Snp) (y : Snp), l = a ++ y :: b ∧ y.1 = n ∧ (∀ x ∈ b, tq p x ≠ tq p y) ∧ (laterN Sp (tq p y) : Int) < p.spans
  | [], n => by simp [scan]
  | z :: l, n => by
    have ih := told_mem p Sp l n
    have hsm := seen_mem p Sp l (tq p z)
    have up : (∃ (a b : List Snp) (y : Snp), l = a ++ y :: b ∧ y.1 = n ∧ (∀ x ∈ b, tq p x ≠ tq p y) ∧ (laterN Sp (tq p y) : Int) < p.spans) → ∃ (a b : List Snp) (y : Snp), z :: l = a ++ y :: b ∧ y.1 = n ∧ (∀ x ∈ b, tq p x ≠ tq p y) ∧ (laterN Sp (tq p y) : Int) < p.spans := by
      rintro ⟨a, b, y, rfl, h⟩
      exact ⟨z :: a, b, y, rfl, h⟩
    have down : ∀ (a b : List Snp) (y : Snp), z :: l = a ++ y :: b → (a = [] ∧ y = z ∧ b = l) ∨ ∃ a', l = a' ++ y :: b := by
      intro a b y h
      rcases a with _ | ⟨c, a⟩
      · simp at h; exact .inl ⟨rfl, h.1.symm, h.2.symm⟩
      · simp at h; exact .inr ⟨a, h.2⟩
    by_cases h : (scan p Sp l).1.contains (tq p z) = true
    · rw [scanSeen h, ih]
      obtain ⟨w, hw, ew⟩ := hsm.1 (by simpa using h)
      refine ⟨up, ?_⟩
      rintro ⟨a, b, y, e, h1, h2, h3⟩
      rcases down a b y e with ⟨_, rfl, rfl⟩ | ⟨a', e'⟩
      · exact absurd ew (h2 w hw)
      · exact ⟨a', b, y, e', h1, h2, h3⟩
    · have h' : (scan p Sp l).1.contains (tq p z) = false := by simpa using h
      have hno : ∀ x ∈ l, tq p x ≠ tq p z := fun x hx e => h (by simpa using hsm.2 ⟨x, hx, e⟩)
      by_cases hl : (laterN Sp (tq p z) : Int) < p.spans
      · rw [scanIn h' hl]
        simp only [addS_mem, ih]
        constructor
        · rintro (h1 | rfl)
          · exact up h1
          · exact ⟨[], l, z, rfl, rfl, hno, hl⟩
        · rintro ⟨a, b, y, e, h1, h2, h3⟩
          rcases down a b y e with ⟨_, rfl, rfl⟩ | ⟨a', e'⟩
          · exact .inr h1.symm
          · exact .inl ⟨a', b, y, e', h1, h2, h3⟩
      · rw [scanOut h' hl]
        simp only [ih]
        refine ⟨up, ?_⟩
        rintro ⟨a, b, y, e, h1, h2, h3⟩
        rcases down a b y e with ⟨_, rfl, rfl⟩ | ⟨a', e'⟩
        · exact absurd h3 hl
        · exact ⟨a', b, y, e', h1, h2, h3⟩

theorem spanS_mem (p : Pol) (l : List Snp) (s : Int) : s ∈ spanS p l ↔ ∃ x ∈ l, tq p x = s := by
  have h : ∀ (l : List Snp) (S : List Int), s ∈ l.foldl (fun S x => addS S (tq p x)) S ↔ s ∈ S ∨ ∃ x ∈ l, tq p x = s := by
    intro l
    induction l with
    | nil => intro S; simp
    | cons y l ih =>
      intro S
      rw [List.foldl_cons, ih, addS_mem]
      constructor
      · rintro ((h | rfl) | ⟨x, hx, e⟩)
        · exact .inl h
        · exact .inr ⟨y, List.mem_cons_self .., rfl⟩
        · exact .inr ⟨x, List.mem_cons_of_mem _ hx, e⟩
      · rintro (h | ⟨x, hx, e⟩)
        · exact .inl (.inl h)
        · rcases List.mem_cons.1 hx with rfl | hx
          · exact .inl (.inr e.symm)
          · exact .inr ⟨x, hx, e⟩
  simpa [spanS] using h l []
theorem spanS_nodup (p : Pol) (l : List Snp) : (spanS p l).Nodup := by
  have h : ∀ (l : List Snp) (S : List Int), S.Nodup → (l.foldl (fun S x => addS S (tq p x)) S).Nodup := by
    intro l
    induction l with
    | nil => intro S h; exact h
    | cons y l ih => intro S h; exact ih _ (addS_nodup h _)
  exact h l [] List.nodup_nil

theorem len_le : ∀ {S T : List Int}, S.Nodup → (∀ x ∈ S, x ∈ T) → S.length ≤ T.length
  | [], _, _, _ => Nat.zero_le _
  | x :: S, T, hn, h => by
    have hn' := List.nodup_cons.1 hn
    have hx := h x (List.mem_cons_self ..)
    have ih := len_le (S := S) (T := T.erase x) hn'.2 fun y hy => by
      have hne : y ≠ x := fun e => hn'.1 (e ▸ hy)
      exact (List.mem_erase_of_ne hne).2 (h y (List.mem_cons_of_mem _ hy))
    rw [List.length_erase_of_mem hx] at ih
    have : 0 < T.length := List.length_pos_of_mem hx
    simp only [List.length_cons]
    omega
theorem laterN_mono {S T : List Int} (hS : S.Nodup) (h : ∀ x ∈ S, x ∈ T) (s : Int) : laterN S s ≤ laterN T s := by
  unfold laterN
  refine len_le (hS.sublist List.filter_sublist) fun x hx => ?_
  rw [List.mem_filter] at hx ⊢
  exact ⟨h x hx.1, hx.2⟩

/-- The numbers rise. -/
theorem sound_pair : ∀ {l : List Snp} {prev : Int}, soundB prev l = true → (∀ x ∈ l, prev < x.1) ∧ l.Pairwise fun x y => x.1 < y.1
  | [], _, _ => ⟨(fun x hx => by cases hx), List.Pairwise.nil⟩
  | y :: l, prev, h => by
    simp only [soundB, Bool.and_eq_true, decide_eq_true_iff] at h
    obtain ⟨h1, h2⟩ := sound_pair h.2
    refine ⟨fun x hx => ?_, List.pairwise_cons.2 ⟨h1, h2⟩⟩
    rcases List.mem_cons.1 hx with rfl | hx
    · exact h.1.1.1
    · have := h1 x hx
      have := h.1.1.1
      omega

theorem num_inj {l : List Snp} {prev : Int} (h : soundB prev l = true) {i j : Nat} (hi : i < l.length) (hj : j < l.length) (he : l[i].1 = l[j].1) : i = j := by
  have hp := List.pairwise_iff_getElem.1 (sound_pair h).2
  rcases Nat.lt_trichotomy i j with h1 | h1 | h1
  · have := hp i j hi hj h1; omega
  · exact h1
  · have := hp j i hj hi h1; omega

/-- Who is the last one of its span, and late enough. -/
theorem ends_iff {p : Pol} {l : List Snp} {prev : Int} (h : soundB prev l = true) {i : Nat} (hi : i < l.length) :
    (endsS p l).contains l[i].1 = true ↔ p.span ≠ 0 ∧ (∀ x ∈ l.drop (i + 1), tq p x ≠ tq p l[i]) ∧ (laterN (spanS p l) (tq p l[i]) : Int) < p.spans := by
  unfold endsS
  by_cases h0 : p.span = 0
  · simp [h0]
  · rw [if_neg h0]
    have hm := told_mem p (spanS p l) l l[i].1
    rw [List.contains_iff_mem, hm]
    constructor
    · rintro ⟨a, b, y, e, h1, h2, h3⟩
      have hl : a.length < l.length := by rw [e]; simp
      have hy : l[a.length] = y := by
        have : l[a.length]? = some y := by rw [e, List.getElem?_append_right (Nat.le_refl _)]; simp
        rw [List.getElem?_eq_getElem hl] at this
        injection this
      have hia : a.length = i := num_inj h hl hi (by rw [hy, h1])
      subst hia
      rw [hy]
      refine ⟨h0, fun x hx => h2 x ?_, h3⟩
      have : l.drop (a.length + 1) = b := by rw [e, List.drop_append]; simp
      rwa [this] at hx
    · rintro ⟨_, h2, h3⟩
      exact ⟨l.take i, l.drop (i + 1), l[i], by rw [← List.drop_eq_getElem_cons hi, List.take_append_drop], rfl, h2, h3⟩

theorem stB_iff {p : Pol} {l : List Snp} {prev : Int} (h : soundB prev l = true) {i : Nat} (hi : i < l.length) :
    stB p l i = true ↔ (p.span ≠ 0 ∧ (∀ x ∈ l.drop (i + 1), tq p x ≠ tq p l[i]) ∧ (laterN (spanS p l) (tq p l[i]) : Int) < p.spans) ∨ i + 1 = l.length ∨ (l.length : Int) - p.last ≤ i := by
  unfold stB
  rw [List.getD_eq_getElem?_getD, List.getElem?_eq_getElem hi]
  simp only [Option.getD_some, Bool.or_eq_true, decide_eq_true_iff]
  rw [ends_iff h hi, or_assoc]

/-- A greater policy keeps more. -/
theorem stB_more {p q : Pol} {l : List Snp} {prev : Int} (h : soundB prev l = true) (h1 : p.last ≤ q.last) (h2 : q.span = p.span) (h3 : p.spans ≤ q.spans) {i : Nat} (hi : i < l.length) (hs : stB p l i = true) : stB q l i = true := by
  rw [stB_iff h hi] at hs ⊢
  have e : ∀ x, tq q x = tq p x := fun x => by unfold tq; rw [h2]
  have es : spanS q l = spanS p l := by unfold spanS; simp only [e]
  simp only [e, es, h2]
  rcases hs with ⟨a, b, c⟩ | b | c
  · exact .inl ⟨a, b, by omega⟩
  · exact .inr (.inl b)
  · exact .inr (.inr (by omega))
end Go.Proofs.Ytjfkjohocopcgaa
