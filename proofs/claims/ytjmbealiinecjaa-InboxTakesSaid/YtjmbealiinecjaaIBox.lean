import Derived.Test.YtjmbealiinecjaaRing
namespace Go.Proofs.Ytjmbealiinecjaa
open Go.RowKit

structure IBox (w : World) (X : Nat) (sz nx : Int) (f : Ring) : Prop where
  box : Box w X sz nx (cnt f) f
  win : Win sz nx f

theorem IBox.chg {S : Nat → Prop} {w w' : World} {X : Nat} {sz nx : Int} {f : Ring} (h : IBox w X sz nx f) (hc : Chg S w w') (hs : ∀ k, k < w.heap.size → S k → Other w k) : IBox w' X sz nx f := ⟨h.box.chg hc hs, h.win⟩
theorem IBox.drewN {w : World} {X : Nat} {sz nx : Int} {f : Ring} (h : IBox w X sz nx f) (n : Nat) : IBox (w.drewN n) X sz nx f := ⟨h.box.drewN n, h.win⟩
theorem IBox.new_ {w w' : World} {X : Nat} {sz nx : Int} {f : Ring} (h : IBox w X sz nx f) (hc : Chg (fun _ => False) w w') : IBox w' X sz nx f := h.chg hc fun _ _ h => h.elim

/-- What a take that is let did, by numbers. -/
structure Took (w : World) (X : Nat) (sz nx : Int) (f : Ring) (q : Int) (bs : List UInt8) (w' : World) (vo : Value) (told : List (Value × List UInt8)) (nx' : Int) (f' : Ring) : Prop where
  row : w'.ownsRow 0 31 1 vo told.length (told.map (·.1))
  fresh : ∀ g, vo.ownBlock = some g → w.heap.size ≤ g
  ibox : IBox w' X sz nx' f'
  nxt : nx' = nx + told.length
  tell : ∀ (k : Nat) (x : Value × List UInt8), told[k]? = some x → (nx + k = q ∧ x.2 = bs) ∨ (nx + k ≠ q ∧ held nx f (nx + k) = some x)
  kept : ∀ (s : Int) (x : Value × List UInt8), held nx' f' s = some x → nx' ≤ s ∧ ((s = q ∧ x.2 = bs) ∨ (s ≠ q ∧ held nx f s = some x))
  has : ∀ s : Int, (s < nx' ∨ (held nx' f' s).isSome = true) ↔ (s = q ∨ s < nx ∨ (held nx f s).isSome = true)
  count : cnt f' + told.length = cnt f + 1
  own : ∀ (k : Nat) (x : Value × List UInt8), told[k]? = some x → OwnB 5 w' x.1 x.2
  chg : Chg (fun k => k = X) w w'
  few : told.length ≤ 64

theorem took_of {w w' : World} {X : Nat} {sz nx q : Int} {f : Ring} {bs : List UInt8} {e : Ending} (h : IBox w X sz nx f) (hn : nx ≤ q) (hs : q - nx < sz) (hf : f (q % 64).toNat = none) (ht : Taken w X sz nx f q bs e w') :
    ∃ vo told nx' f', e = .returned (.tuple #[vo, .int .i64 0]) ∧ Took w X sz nx f q bs w' vo told nx' f' := by
  obtain ⟨v, vo, f1, hf1, he, hrow, hfr, hbox, hown, hap, hv, hc⟩ := ht
  have h64 := h.win.hi
  have hnx := h.win.nx1
  have hj : (q % 64).toNat < 64 := by omega
  have hheld : ∀ s, held nx f1 s = if s = q then some (v, bs) else held nx f s := fun s => by rw [hf1, held_put hn (by omega)]
  have hfq : held nx f q = none := by rw [held_in hn (by omega)]; exact hf
  obtain ⟨r1, r2, r3, r4, r5⟩ := run_spec (cnt f1) nx f1 (by omega)
  have hcp := cnt_put (f := f) hj (some (v, bs))
  rw [hf, ← hf1] at hcp
  simp only [Option.isSome_some, if_true, Option.isSome_none] at hcp
  have hcp' : cnt f1 = cnt f + 1 := by simpa using hcp
  have hlen := run_length (cnt f1) nx f1
  have hcl := cnt_le f1
  -- all that is told is held in f1
  have htell := r2
  refine ⟨vo, (run (cnt f1) nx f1).1, (run (cnt f1) nx f1).2.1, (run (cnt f1) nx f1).2.2, he, ⟨hrow, hfr, ⟨hbox, ⟨h.win.lo, h64, by omega, fun s hs' => ?_, r5 (Nat.le_refl _)⟩⟩, r1, fun k x hk => ?_, fun s x hx => ?_, fun s => ?_, by omega, fun k x hk => ?_, hc, by omega⟩⟩
  · rw [r3] at hs'
    by_cases h1 : (run (cnt f1) nx f1).2.1 ≤ s
    · rw [if_pos h1, hheld] at hs'
      by_cases e1 : s = q
      · omega
      · rw [if_neg e1] at hs'
        have := h.win.win s hs'
        omega
    · rw [if_neg h1] at hs'; simp at hs'
  · have := htell k x hk
    rw [hheld] at this
    by_cases e1 : nx + (k : Int) = q
    · rw [if_pos e1] at this
      injection this with this
      exact .inl ⟨e1, by rw [← this]⟩
    · rw [if_neg e1] at this
      exact .inr ⟨e1, this⟩
  · rw [r3] at hx
    by_cases h1 : (run (cnt f1) nx f1).2.1 ≤ s
    · rw [if_pos h1, hheld] at hx
      refine ⟨h1, ?_⟩
      by_cases e1 : s = q
      · rw [if_pos e1] at hx
        injection hx with hx
        exact .inl ⟨e1, by rw [← hx]⟩
      · rw [if_neg e1] at hx
        exact .inr ⟨e1, hx⟩
    · rw [if_neg h1] at hx; cases hx
  · rw [r3]
    by_cases h1 : (run (cnt f1) nx f1).2.1 ≤ s
    · rw [if_pos h1, hheld]
      by_cases e1 : s = q
      · simp [e1]
      · rw [if_neg e1]
        constructor
        · rintro (h2 | h2)
          · omega
          · exact .inr (.inr h2)
        · rintro (h2 | h2 | h2)
          · exact absurd h2 e1
          · omega
          · exact .inr h2
    · rw [if_neg h1]
      constructor
      · intro _
        by_cases h2 : s < nx
        · exact .inr (.inl h2)
        · have hk : (s - nx).toNat < (run (cnt f1) nx f1).1.length := by omega
          have hg := List.getElem?_eq_getElem hk
          have := htell _ _ hg
          rw [show nx + ((s - nx).toNat : Int) = s by omega, hheld] at this
          by_cases e1 : s = q
          · exact .inl e1
          · rw [if_neg e1] at this
            exact .inr (.inr (by rw [this]; rfl))
      · intro _
        exact .inl (by omega)
  · have hk' : k < (run (cnt f1) nx f1).1.length := (List.getElem?_eq_some_iff.1 hk).1
    have := htell k x hk
    rw [held_in (by omega) (by omega)] at this
    exact hown _ (by omega) x.1 x.2 this


theorem own_shape {w : World} {base : Nat} {e : TypeId} {size n : Nat} {v : Value} {xs : List Value} (h : w.ownsRow base e size v n xs) : ∃ A c, v = .slice A n c ∧ n ≤ c ∧ c ≤ maxLen := by
  rcases h.2 with ⟨rfl, rfl⟩ | ⟨g, cap, cur, rfl, _, _, h1, h2, _⟩
  · exact ⟨none, 0, rfl, Nat.le_refl _, by simp⟩
  · exact ⟨_, cap, rfl, h1, h2⟩

/-- A number that has not come, and may be held. -/
theorem take_new {D : Nat → Prop} {w : World} {X : Nat} {sz nx : Int} {f : Ring} (h : IBox w X sz nx f) (h4 : nx ≤ 2147483647) (q : Int) (hq : 1 ≤ q) (hq' : q < 2147483647) (hh : hasB sz nx f q = false) (hs : q - nx < sz)
    {A : Option Addr} {bs : List UInt8} {c : Nat} (hr : Rd D w A bs) (hlen : bs.length ≤ 140737488355328) :
    Calls Try.prog 13 #[.pointer (some ⟨X, 0, none⟩), .int .i64 q, .slice A bs.length c] w fun e w' => ∃ vo told nx' f', e = .returned (.tuple #[vo, .int .i64 0]) ∧ Took w X sz nx f q bs w' vo told nx' f' := by
  rw [h.win.has hq, Bool.or_eq_false_iff] at hh
  have hn : nx ≤ q := by have := hh.1; simp at this; omega
  have h64 := h.win.hi
  have hf : f (q % 64).toNat = none := by
    have := hh.2
    rw [held_in hn (by omega)] at this
    simpa using this
  exact (take_ok h.box h.win.lo h64 h.win.nx1 h4 q hq hq' hn hs hf hr hlen).mono fun e w' ht => took_of h hn hs hf ht

/-- A number that has come. -/
theorem take_old {w : World} {X : Nat} {sz nx : Int} {f : Ring} (h : IBox w X sz nx f) (q : Int) (hq : 1 ≤ q) (hq' : q < 2147483647) (hh : hasB sz nx f q = true) (v : Value) :
    Calls Try.prog 13 #[.pointer (some ⟨X, 0, none⟩), .int .i64 q, v] w fun e w' => e = .returned (.tuple #[.slice none 0 0, .int .i64 7]) ∧ IBox w' X sz nx f ∧ Chg (fun _ => False) w w' :=
  (take_there h.box h.win.lo h.win.nx1 q hq hq' v hh).mono fun _ _ ⟨he, hc⟩ => ⟨he, h.new_ hc, hc⟩

/-- A number that may not be. -/
theorem take_out {w : World} {X : Nat} {sz nx : Int} {f : Ring} (h : IBox w X sz nx f) (q : Int) (hq : q < 1 ∨ 2147483647 ≤ q) (v : Value) :
    Calls Try.prog 13 #[.pointer (some ⟨X, 0, none⟩), .int .i64 q, v] w fun e w' => e = .returned (.tuple #[.slice none 0 0, .int .i64 5]) ∧ IBox w' X sz nx f ∧ Chg (fun _ => False) w w' :=
  (take_range h.box h.win.lo q hq v).mono fun _ _ ⟨he, hc⟩ => ⟨he, h.new_ hc, hc⟩

/-- A number for which there is no room. -/
theorem take_far {w : World} {X : Nat} {sz nx : Int} {f : Ring} (h : IBox w X sz nx f) (q : Int) (hq : 1 ≤ q) (hq' : q < 2147483647) (hs : sz ≤ q - nx) (v : Value) :
    Calls Try.prog 13 #[.pointer (some ⟨X, 0, none⟩), .int .i64 q, v] w fun e w' => e = .returned (.tuple #[.slice none 0 0, .int .i64 8]) ∧ IBox w' X sz nx f ∧ Chg (fun _ => False) w w' :=
  (take_full h.box h.win.lo h.win.nx1 q hq hq' v (by have := h.win.lo; omega) hs).mono fun _ _ ⟨he, hc⟩ => ⟨he, h.new_ hc, hc⟩

theorem IBox.has_ {w : World} {X : Nat} {sz nx : Int} {f : Ring} (h : IBox w X sz nx f) (q : Int) (hq : q ≤ 9223372036854775807) :
    Calls Try.prog 19 #[.pointer (some ⟨X, 0, none⟩), .int .i64 q] w fun e w' => e = .returned (.bool (hasB sz nx f q)) ∧ ∃ n, w' = w.drewN n := has_any h.box h.win.lo h.win.nx1 q hq
theorem IBox.next_ {w : World} {X : Nat} {sz nx : Int} {f : Ring} (h : IBox w X sz nx f) :
    Calls Try.prog 17 #[.pointer (some ⟨X, 0, none⟩)] w fun e w' => e = .returned (.int .i64 nx) ∧ w = w' := next_any h.box h.win.lo
theorem IBox.held_ {w : World} {X : Nat} {sz nx : Int} {f : Ring} (h : IBox w X sz nx f) :
    Calls Try.prog 18 #[.pointer (some ⟨X, 0, none⟩)] w fun e w' => e = .returned (.int .i64 (cnt f)) ∧ w = w' := held_any h.box h.win.lo

end Go.Proofs.Ytjmbealiinecjaa
