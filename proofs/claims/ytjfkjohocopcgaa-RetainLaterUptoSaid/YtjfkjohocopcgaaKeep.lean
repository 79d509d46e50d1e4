/- Who stays, told from the front: plain lists. -/
import Derived.Test.YtjfkjohocopcgaaMoreLaw
import Derived.Test.YtjfkjohocopcgaaLeft
namespace Go.Proofs.Ytjfkjohocopcgaa

/-- Does x stay, ahead of those behind it? S: the spans of all. -/
def Keep (p : Pol) (S : List Int) (x : Snp) (post : List Snp) : Prop :=
  (p.span ≠ 0 ∧ (∀ y ∈ post, tq p y ≠ tq p x) ∧ (laterN S (tq p x) : Int) < p.spans) ∨ post = [] ∨ (post.length : Int) < p.last
theorem stB_keep {p : Pol} {l : List Snp} {prev : Int} (h : soundB prev l = true) {i : Nat} (hi : i < l.length) : stB p l i = true ↔ Keep p (spanS p l) l[i] (l.drop (i + 1)) := by
  rw [stB_iff h hi, Keep]
  have hd : (l.drop (i + 1)).length = l.length - (i + 1) := List.length_drop
  have e1 : i + 1 = l.length ↔ l.drop (i + 1) = [] := by
    rw [← List.length_eq_zero_iff, hd]; omega
  rw [e1, hd]
  have e2 : ((l.length : Int) - p.last ≤ i) ↔ (((l.length - (i + 1) : Nat) : Int) < p.last) := by omega
  rw [e2]

theorem Keep.less {p : Pol} {S S' : List Int} {x : Snp} {post post' : List Snp} (h : Keep p S x post) (hS : S'.Nodup) (hs : ∀ s ∈ S', s ∈ S) (hp : post'.Sublist post) : Keep p S' x post' := by
  rcases h with ⟨a, b, c⟩ | b | c
  · have := laterN_mono hS hs (tq p x)
    exact .inl ⟨a, fun y hy => b y (hp.subset hy), by omega⟩
  · subst b
    exact .inr (.inl (List.eq_nil_of_sublist_nil hp))
  · have := hp.length_le
    exact .inr (.inr (by omega))

/-- Those that stay. -/
theorem contains_nums {p : Pol} {l : List Snp} {prev : Int} (h : soundB prev l = true) {i : Nat} (hi : i < l.length) (st : Bool) : (numsJ p l st l.length).contains l[i].1 = (stB p l i == st) := by
  rw [Bool.eq_iff_iff, List.contains_iff_mem, mem_nums]
  constructor
  · rintro ⟨j, hj, h1, h2⟩
    have : j = i := num_inj h hj hi h2
    subst this
    simpa using h1
  · intro h1
    exact ⟨i, hi, by simpa using h1, rfl⟩

theorem sound_sub {l : List Snp} {prev : Int} (h0 : 0 ≤ prev) (h : soundB prev l = true) : ∀ {l' : List Snp}, l'.Sublist l → ∀ {q : Int}, (∀ x ∈ l', q < x.1) → soundB q l' = true
  | [], _, _, _ => rfl
  | y :: l', hs, q, hq => by
    have hp := (sound_pair h).2.sublist hs
    have hy := tame_of h0 h y (hs.subset (List.mem_cons_self ..))
    have hp' := List.pairwise_cons.1 hp
    simp only [soundB, Bool.and_eq_true, decide_eq_true_iff]
    exact ⟨⟨⟨hq y (List.mem_cons_self ..), hy.2.1⟩, hy.2.2⟩, sound_sub h0 h (List.sublist_of_cons_sublist hs) hp'.1⟩

theorem range_getD (l : List Snp) : (List.range l.length).map (fun i => l.getD i (0, 0)) = l := by
  apply List.ext_getElem
  · simp
  · intro i h1 h2
    simp [h2]
theorem filter_congr' {α : Type} {f g : α → Bool} : ∀ {l : List α}, (∀ x ∈ l, f x = g x) → l.filter f = l.filter g := fun h => List.filter_congr h
theorem nums_left {p : Pol} {l : List Snp} {prev : Int} (h : soundB prev l = true) (st : Bool) : numsJ p l st l.length = (leftL l (numsJ p l st l.length)).map (·.1) := by
  have e : leftL l (numsJ p l st l.length) = ((List.range l.length).filter fun i => stB p l i == st).map (fun i => l.getD i (0, 0)) := by
    generalize hN : numsJ p l st l.length = N
    unfold leftL
    conv => lhs; rw [← range_getD l]
    rw [List.filter_map]
    congr 1
    apply List.filter_congr
    intro i hi
    have hi' : i < l.length := by simpa using hi
    have := contains_nums (p := p) h hi' st
    rw [hN] at this
    simp only [Function.comp_apply]
    rw [List.getD_eq_getElem?_getD, List.getElem?_eq_getElem hi']
    exact this
  rw [e, List.map_map]
  rfl
theorem left_sub (l : List Snp) (ns : List Int) : (leftL l ns).Sublist l := List.filter_sublist
theorem left_drop {l : List Snp} {ns : List Int} {i : Nat} (hi : i < (leftL l ns).length) : ∃ (j : Nat) (hj : j < l.length), l[j] = (leftL l ns)[i] ∧ ns.contains l[j].1 = true ∧ ((leftL l ns).drop (i + 1)).Sublist (l.drop (j + 1)) := by
  have e : leftL l ns = (leftL l ns).take i ++ (leftL l ns)[i] :: (leftL l ns).drop (i + 1) := by
    rw [← List.drop_eq_getElem_cons hi, List.take_append_drop]
  generalize hx : (leftL l ns)[i] = x at *
  generalize hA : (leftL l ns).take i = A at *
  generalize hB : (leftL l ns).drop (i + 1) = B at *
  unfold leftL at e
  obtain ⟨l1, l2, rfl, _, h2⟩ := List.filter_eq_append_iff.1 e
  obtain ⟨m1, m2, rfl, _, h3, h4⟩ := List.filter_eq_cons_iff.1 h2
  have hl : l1.length + m1.length < (l1 ++ (m1 ++ x :: m2)).length := by simp only [List.length_append, List.length_cons]; omega
  have hg : (l1 ++ (m1 ++ x :: m2))[l1.length + m1.length] = x := by
    rw [List.getElem_append_right (by omega), List.getElem_append_right (by omega)]
    simp
  refine ⟨l1.length + m1.length, hl, hg, by rw [hg]; exact h3, ?_⟩
  have hd : (l1 ++ (m1 ++ x :: m2)).drop (l1.length + m1.length + 1) = m2 := by
    rw [← List.append_assoc, ← List.length_append, List.drop_append]
    simp
  rw [hd, ← h4]
  exact List.filter_sublist
theorem spanS_sub {p : Pol} {l l' : List Snp} (h : ∀ x ∈ l', x ∈ l) : ∀ s ∈ spanS p l', s ∈ spanS p l := by
  intro s hs
  rw [spanS_mem] at hs ⊢
  obtain ⟨x, hx, e⟩ := hs
  exact ⟨x, h x hx, e⟩
/-- Of those that stay all stay. -/
theorem again_nums {p : Pol} {l : List Snp} (h : soundB 0 l = true) : soundB 0 (leftL l (numsJ p l true l.length)) = true ∧ numsJ p (leftL l (numsJ p l true l.length)) true (leftL l (numsJ p l true l.length)).length = numsJ p l true l.length := by
  have hs : soundB 0 (leftL l (numsJ p l true l.length)) = true := sound_sub (Int.le_refl 0) h (left_sub _ _) fun x hx => (sound_pair h).1 x ((left_sub _ _).subset hx)
  refine ⟨hs, ?_⟩
  have hall : ∀ i, i < (leftL l (numsJ p l true l.length)).length → stB p (leftL l (numsJ p l true l.length)) i = true := by
    intro i hi
    obtain ⟨j, hj, e1, e2, e3⟩ := left_drop hi
    rw [contains_nums h hj] at e2
    have hk := (stB_keep (p := p) h hj).1 (by simpa using e2)
    rw [stB_keep hs hi, ← e1]
    exact hk.less (spanS_nodup _ _) (spanS_sub fun x hx => (left_sub _ _).subset hx) e3
  conv => rhs; rw [nums_left h true]
  generalize leftL l (numsJ p l true l.length) = l' at *
  unfold numsJ
  rw [List.filter_eq_self.2 (fun i hi => by rw [hall i (by simpa using hi)]; rfl)]
  conv => rhs; rw [← range_getD l']
  rw [List.map_map]
  rfl
theorem nums_parts (p : Pol) (l : List Snp) : (numsJ p l true l.length).length + (numsJ p l false l.length).length = l.length := by
  unfold numsJ
  rw [List.length_map, List.length_map]
  have : ∀ L : List Nat, (L.filter fun i => stB p l i == true).length + (L.filter fun i => stB p l i == false).length = L.length := by
    intro L
    induction L with
    | nil => rfl
    | cons a L ih => rcases hb : stB p l a with _ | _ <;> simp [hb] <;> simp at ih <;> omega
  simpa using this (List.range l.length)

/-- Who goes would go, too, if more had come. -/
theorem sound_pre : ∀ {l m : List Snp} {prev : Int}, soundB prev (l ++ m) = true → soundB prev l = true
  | [], _, _, _ => rfl
  | x :: l, m, prev, h => by
    simp only [List.cons_append, soundB, Bool.and_eq_true] at h ⊢
    exact ⟨h.1, sound_pre h.2⟩
theorem later_mem {p : Pol} {l m : List Snp} (h : soundB 0 (l ++ m) = true) {n : Int} (hn : n ∈ numsJ p l false l.length) : n ∈ numsJ p (l ++ m) false (l ++ m).length := by
  rw [mem_nums] at hn ⊢
  obtain ⟨i, hi, a, b⟩ := hn
  have hi' : i < (l ++ m).length := by simp; omega
  have he : (l ++ m)[i] = l[i] := List.getElem_append_left hi
  refine ⟨i, hi', ?_, by rw [he, b]⟩
  have hs := sound_pre h
  rcases hb : stB p (l ++ m) i with _ | _
  · rfl
  · have hk := (stB_keep h hi').1 hb
    rw [he] at hk
    have := (stB_keep hs hi).2 (hk.less (post' := l.drop (i + 1)) (spanS_nodup _ _) (spanS_sub fun x hx => List.mem_append_left _ hx) (by rw [List.drop_append]; exact List.sublist_append_left _ _))
    rw [this] at a
    cases a

/-- By spans alone. -/
theorem minOf : ∀ (l : List Int), l ≠ [] → ∃ s ∈ l, ∀ t ∈ l, s ≤ t
  | [], h => absurd rfl h
  | [x], _ => ⟨x, List.mem_cons_self .., fun t ht => by simp at ht; omega⟩
  | x :: y :: l, _ => by
    obtain ⟨s, hs, h⟩ := minOf (y :: l) (by simp)
    by_cases hx : x ≤ s
    · refine ⟨x, List.mem_cons_self .., fun t ht => ?_⟩
      rcases List.mem_cons.1 ht with rfl | ht
      · exact Int.le_refl _
      · have := h t ht; omega
    · refine ⟨s, List.mem_cons_of_mem _ hs, fun t ht => ?_⟩
      rcases List.mem_cons.1 ht with rfl | ht
      · omega
      · exact h t ht
theorem late_le {S F : List Int} {n : Int} (hF : F.Nodup) (h : ∀ s ∈ F, s ∈ S ∧ (laterN S s : Int) < n) (h0 : 0 ≤ n) : (F.length : Int) ≤ n := by
  by_cases he : F = []
  · subst he; simpa using h0
  · obtain ⟨s, hs, hm⟩ := minOf F he
    have h1 := (h s hs).2
    have h2 : (F.erase s).length ≤ laterN S s := by
      unfold laterN
      refine len_le (hF.erase s) fun x hx => ?_
      have hx' := List.mem_of_mem_erase hx
      rw [List.mem_filter]
      refine ⟨(h x hx').1, ?_⟩
      have hne : x ≠ s := fun e => (List.Nodup.not_mem_erase hF) (e ▸ hx)
      have := hm x hx'
      simpa using by omega
    rw [List.length_erase_of_mem hs] at h2
    omega
theorem spans_count {p : Pol} {l : List Snp} (h : soundB 0 l = true) (hp : p.last = 0) (h0 : 0 ≤ p.spans) : ((numsJ p l true l.length).length : Int) ≤ p.spans + 1 := by
  unfold numsJ
  rw [List.length_map]
  generalize hn : l.length = n at *
  rcases n with _ | n
  · simp; omega
  · rw [List.range_succ, List.filter_append, List.length_append]
    have h1 : ((List.filter (fun i => stB p l i == true) [n]).length : Int) ≤ 1 := by
      have := List.length_filter_le (fun i => stB p l i == true) [n]
      simp only [List.length_cons, List.length_nil] at this
      omega
    have h2 : ((List.filter (fun i => stB p l i == true) (List.range n)).length : Int) ≤ p.spans := by
      have key : ∀ i, i < n → stB p l i = true → ∀ (hi : i < l.length), (∀ y ∈ l.drop (i + 1), tq p y ≠ tq p l[i]) ∧ (laterN (spanS p l) (tq p l[i]) : Int) < p.spans := by
        intro i hin hst hi
        rcases (stB_keep h hi).1 hst with ⟨_, b, c⟩ | b | c
        · exact ⟨b, c⟩
        · have : (l.drop (i + 1)).length = 0 := by rw [b]; rfl
          rw [List.length_drop] at this
          omega
        · omega
      have := late_le (S := spanS p l) (F := ((List.range n).filter fun i => stB p l i == true).map fun i => tq p (l.getD i (0, 0))) (n := p.spans) ?_ ?_ h0
      · simpa using this
      · rw [List.nodup_iff_pairwise_ne, List.pairwise_map]
        refine List.Pairwise.imp_of_mem ?_ ((List.pairwise_lt_range (n := n)).filter _)
        intro i j hi hj hij
        rw [List.mem_filter] at hi hj
        have hi1 : i < n := by simpa using hi.1
        have hj1 : j < n := by simpa using hj.1
        have hil : i < l.length := by omega
        have hjl : j < l.length := by omega
        have := (key i hi1 (by simpa using hi.2) hil).1 l[j] (by
          rw [List.mem_iff_getElem]
          refine ⟨j - (i + 1), by rw [List.length_drop]; omega, ?_⟩
          rw [List.getElem_drop]
          congr 1
          omega)
        rw [List.getD_eq_getElem?_getD, List.getElem?_eq_getElem hil, List.getD_eq_getElem?_getD, List.getElem?_eq_getElem hjl]
        exact fun e => this e.symm
      · intro s hs
        rw [List.mem_map] at hs
        obtain ⟨i, hi, rfl⟩ := hs
        rw [List.mem_filter] at hi
        have hi1 : i < n := by simpa using hi.1
        have hil : i < l.length := by omega
        rw [List.getD_eq_getElem?_getD, List.getElem?_eq_getElem hil]
        exact ⟨(spanS_mem _ _ _).2 ⟨l[i], List.getElem_mem hil, rfl⟩, (key i hi1 (by simpa using hi.2) hil).2⟩
    omega
theorem spans_last {p : Pol} {l : List Snp} (h : soundB 0 l = true) (hp : p.last = 0) {i : Nat} (hi : i < (leftL l (numsJ p l true l.length)).length) {k : Nat} (hk : k < l.length)
    (hn : (leftL l (numsJ p l true l.length))[i].1 < l[k].1) : tq p l[k] ≠ tq p (leftL l (numsJ p l true l.length))[i] := by
  obtain ⟨j, hj, e1, e2, e3⟩ := left_drop hi
  rw [contains_nums h hj] at e2
  have hkeep := (stB_keep (p := p) h hj).1 (by simpa using e2)
  rw [← e1] at hn ⊢
  have hp' := List.pairwise_iff_getElem.1 (sound_pair h).2
  have hjk : j < k := by
    rcases Nat.lt_trichotomy j k with h1 | h1 | h1
    · exact h1
    · subst h1; omega
    · have := hp' k j hk hj h1; omega
  rcases hkeep with ⟨_, b, _⟩ | b | c
  · refine b _ ?_
    rw [List.mem_iff_getElem]
    refine ⟨k - (j + 1), by rw [List.length_drop]; omega, ?_⟩
    rw [List.getElem_drop]
    congr 1
    omega
  · have : (l.drop (j + 1)).length = 0 := by rw [b]; rfl
    rw [List.length_drop] at this
    omega
  · omega
end Go.Proofs.Ytjfkjohocopcgaa
