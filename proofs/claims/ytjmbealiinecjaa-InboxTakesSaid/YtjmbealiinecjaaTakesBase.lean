/- What stands at the head of a round of the great law, and behind both takes. -/
import Derived.Test.YtjmbealiinecjaaTakesLaw
namespace Go.Proofs.Ytjmbealiinecjaa
open Go.RowKit

structure TBase (W w : World) (X Y : Nat) (sz nx : Int) (f : Ring) (hs : List HeldR) (hv : Value) (low : Nat) : Prop where
  ibox : IBox w X sz nx f
  rbox : RBox W.heap.size w Y sz nx hs hv
  same : Same nx f hs
  fresh : ∀ j, j < 64 → ∀ u b, f j = some (u, b) → ∀ g, u.ownBlock = some g → W.heap.size ≤ g
  apart : ∀ j, j < 64 → ∀ u b, f j = some (u, b) → ∀ x ∈ hs, ∀ g, u.ownBlock = some g → x.2.1.ownBlock ≠ some g
  freshX : W.heap.size ≤ X
  chg : Chg (fun _ => False) W w
  low_ : nx + hs.length ≤ low + 1

section
variable {W w w' : World} {X Y : Nat} {sz nx : Int} {f : Ring} {hs : List HeldR} {hv : Value} {low : Nat}
theorem TBase.new_ (h : TBase W w X Y sz nx f hs hv low) (k : Chg (fun _ => False) w w') : TBase W w' X Y sz nx f hs hv low :=
  ⟨h.ibox.new_ k, h.rbox.new_ k, h.same, h.fresh, h.apart, h.freshX, h.chg.trans k (fun _ _ h => h), h.low_⟩
theorem TBase.more (h : TBase W w X Y sz nx f hs hv low) {low' : Nat} (hl : low ≤ low') : TBase W w X Y sz nx f hs hv low' :=
  ⟨h.ibox, h.rbox, h.same, h.fresh, h.apart, h.freshX, h.chg, by have := h.low_; omega⟩
/-- A row of bytes that neither inbox has is written over. -/
theorem TBase.over (h : TBase W w X Y sz nx f hs hv low) {v : Value} {cs : List UInt8} (hv5 : OwnB 5 w v cs) (k : Chg (fun k => some k = v.ownBlock) w w') (hW : ∀ g, v.ownBlock = some g → W.heap.size ≤ g)
    (hf : ∀ j, j < 64 → ∀ u b, f j = some (u, b) → ∀ g, v.ownBlock = some g → u.ownBlock ≠ some g) (hh : ∀ x ∈ hs, ∀ g, v.ownBlock = some g → x.2.1.ownBlock ≠ some g) : TBase W w' X Y sz nx f hs hv low := by
  have ht : ∀ g t ds, Blk w g t ds → some g = v.ownBlock → t = 5 := fun g t ds hb hg => by
    obtain ⟨es, he⟩ := hv5.blk hg.symm
    by_cases hne : t = 5
    · exact hne
    · exact absurd rfl (Blk.ne_ hb he hne)
  refine ⟨⟨h.ibox.box.chg' k (fun hS => ?_) (fun j hj u b hu g hg hS => hf j hj u b hu g hS.symm hg), h.ibox.win⟩, h.rbox.chg k (fun g t ds hb hg => ?_) (fun x hx g hg hS => hh x hx g hS.symm hg), h.same, h.fresh, h.apart, h.freshX, h.chg.trans k (fun g hg hS => absurd (hW g hS.symm) (by omega)), h.low_⟩
  · obtain ⟨ds, hds, _⟩ := h.ibox.box.cells
    have := ht _ _ _ hds hS
    cases this
  · rw [ht g t ds hb hg]
    decide
end

/-- Behind both takes: what each told, the lent block. -/
structure After (W w : World) (X Y : Nat) (sz : Int) (G : Nat) (bs : List UInt8) (vo vr : Value) (told outs : List (Value × List UInt8)) (nx : Int) (f : Ring) (hs : List HeldR) (hv : Value) (low : Nat) : Prop where
  base : TBase W w X Y sz nx f hs hv low
  rowT : w.ownsRow 0 31 1 vo told.length (told.map (·.1))
  ownT : ∀ (k : Nat) (x : Value × List UInt8), told[k]? = some x → OwnB 5 w x.1 x.2
  rowO : w.ownsRow 0 31 1 vr outs.length (outs.map (·.1))
  ownO : ∀ (k : Nat) (x : Value × List UInt8), outs[k]? = some x → OwnB 5 w x.1 x.2
  eq : told.map (·.2) = outs.map (·.2)
  lent : Blk w G 5 (bcs (padded bs)).toArray
  lentW : W.heap.size ≤ G
  lentF : ∀ j, j < 64 → ∀ u b, f j = some (u, b) → u.ownBlock ≠ some G
  lentH : ∀ x ∈ hs, x.2.1.ownBlock ≠ some G
  tW : ∀ (k : Nat) (x : Value × List UInt8), told[k]? = some x → ∀ g, x.1.ownBlock = some g → W.heap.size ≤ g
  tF : ∀ (k : Nat) (x : Value × List UInt8), told[k]? = some x → ∀ j, j < 64 → ∀ u b, f j = some (u, b) → ∀ g, x.1.ownBlock = some g → u.ownBlock ≠ some g
  tH : ∀ (k : Nat) (x : Value × List UInt8), told[k]? = some x → ∀ y ∈ hs, ∀ g, x.1.ownBlock = some g → y.2.1.ownBlock ≠ some g
  few : told.length ≤ 64

theorem After.none_ {W w : World} {X Y : Nat} {sz nx : Int} {G : Nat} {bs : List UInt8} {f : Ring} {hs : List HeldR} {hv : Value} {low : Nat} {wr : World} (h : TBase W wr X Y sz nx f hs hv low) (k : Chg (fun _ => False) wr w) (hG : Blk w G 5 (bcs (padded bs)).toArray) (hg : wr.heap.size ≤ G) :
    After W w X Y sz G bs (.slice none 0 0) (.slice none 0 0) [] [] nx f hs hv (low + 1) := by
  have hs0 := h.chg.size
  refine ⟨(h.new_ k).more (Nat.le_succ _), World.ownsRow_nil _ _ _ _, (fun k x hx => by simp at hx), World.ownsRow_nil _ _ _ _, (fun k x hx => by simp at hx), rfl, hG, by omega, fun j hj u b hu he => ?_, fun x hx he => ?_, (fun k x hx => by simp at hx), (fun k x hx => by simp at hx), (fun k x hx => by simp at hx), by simp⟩
  · have := (h.ibox.box.own j hj u b hu).ownlt he
    omega
  · have := (h.rbox.own x hx).ownlt he
    omega

/-- The window behind a take. -/
theorem win_run {sz nx q : Int} {f : Ring} (h : Win sz nx f) (hn : nx ≤ q) (hs : q - nx < sz) (x : Value × List UInt8) :
    Win sz (run (cnt (put f (q % 64).toNat (some x))) nx (put f (q % 64).toNat (some x))).2.1 (run (cnt (put f (q % 64).toNat (some x))) nx (put f (q % 64).toNat (some x))).2.2 := by
  have h64 := h.hi
  have hnx := h.nx1
  obtain ⟨r1, r2, r3, r4, r5⟩ := run_spec (cnt (put f (q % 64).toNat (some x))) nx (put f (q % 64).toNat (some x)) (by omega)
  refine ⟨h.lo, h64, by omega, fun s hs' => ?_, r5 (Nat.le_refl _)⟩
  rw [r3] at hs'
  split at hs'
  · next h1 =>
    rw [held_put hn (by omega)] at hs'
    by_cases e1 : s = q
    · omega
    · rw [if_neg e1] at hs'
      have := h.win s hs'
      omega
  · simp at hs'

/-- The document's inbox stays behind the inbox's take. -/
theorem rbox_taken {W wr wA w4 : World} {X Y : Nat} {sz nx : Int} {f : Ring} {hs : List HeldR} {hv : Value} {low : Nat} (h : TBase W wr X Y sz nx f hs hv low) (kA : Chg (fun _ => False) wr wA) (kT : Chg (fun k => k = X) wA w4) : RBox W.heap.size w4 Y sz nx hs hv :=
  (h.rbox.new_ kA).chg kT (fun k t cs hb hk => by
    subst hk
    obtain ⟨ds', hds', _⟩ := (h.ibox.new_ kA).box.cells
    have : t = 51 := by
      by_cases ht : t = 51
      · exact ht
      · exact absurd rfl (Blk.ne_ hb hds' ht)
    subst this
    decide) fun x hx g hg' hk => by
    subst hk
    obtain ⟨ds', hds', _⟩ := (h.ibox.new_ kA).box.cells
    obtain ⟨es, hes⟩ := ((h.rbox.new_ kA).own x hx).blk hg'
    exact Blk.ne_ hes hds' (by decide) rfl

theorem After.some_ {W wr wA w4 w4' w5 : World} {X Y : Nat} {sz nx q : Int} {G : Nat} {bs : List UInt8} {f : Ring} {hs : List HeldR} {hv : Value} {low n : Nat} {e1 e2 : Ending}
    (h : TBase W wr X Y sz nx f hs hv low) (kA : Chg (fun _ => False) wr wA) (hG : Blk wA G 5 (bcs (padded bs)).toArray) (hg : wr.heap.size ≤ G) (hn : nx ≤ q) (hqs : q - nx < sz) (hf : f (q % 64).toNat = none)
    (T : Taken wA X sz nx f q bs e1 w4) (he4 : w4' = w4.drewN n) (R : RTaken W.heap.size w4' Y sz nx hs hv q bs e2 w5) :
    ∃ vo vr told outs nx' f' hs' hv', e1 = .returned (.tuple #[vo, .int .i64 0]) ∧ e2 = .returned (.tuple #[vr, .int .i64 0]) ∧ After W w5 X Y sz G bs vo vr told outs nx' f' hs' hv' (low + 1) := by
  subst he4
  obtain ⟨v, vo, f1, hf1, rfl, rowT, freshO, boxT, ownF, apF, freshV, kT⟩ := T
  obtain ⟨vr, vR, hv', hs1, hhs1, rfl, rowR, freshR, boxR, ownR, freshVR, kR⟩ := R
  have hwin := h.ibox.win
  have h64 := hwin.hi
  have hnx := hwin.nx1
  have sA := kA.size
  have s4 := kT.size
  have s5 := kR.size
  have s0 := h.chg.size
  have hGA := hG.lt
  have hj : (q % 64).toNat < 64 := by omega
  -- the ring's bodies
  have hcase : ∀ j u b, f1 j = some (u, b) → (j = (q % 64).toNat ∧ u = v ∧ b = bs) ∨ (j ≠ (q % 64).toNat ∧ f j = some (u, b)) := fun j u b hu => by
    rw [hf1] at hu
    unfold put at hu
    by_cases he : j = (q % 64).toNat
    · rw [if_pos he] at hu
      injection hu with hu
      injection hu with h1 h2
      exact .inl ⟨he, h1.symm, h2.symm⟩
    · rw [if_neg he] at hu
      exact .inr ⟨he, hu⟩
  have hold : ∀ j, j < 64 → ∀ u b, f j = some (u, b) → ∀ g, u.ownBlock = some g → g < wr.heap.size := fun j hj' u b hu g hg' => (h.ibox.box.own j hj' u b hu).ownlt hg'
  have holdH : ∀ x ∈ hs, ∀ g, x.2.1.ownBlock = some g → g < wr.heap.size := fun x hx g hg' => (h.rbox.own x hx).ownlt hg'
  have f1W : ∀ j, j < 64 → ∀ u b, f1 j = some (u, b) → ∀ g, u.ownBlock = some g → W.heap.size ≤ g ∧ g < w4.heap.size ∧ g ≠ G := fun j hj' u b hu g hg' => by
    have h4 := (ownF j hj' u b hu).ownlt hg'
    rcases hcase j u b hu with ⟨_, rfl, _⟩ | ⟨_, hu'⟩
    · have := freshV g hg'
      exact ⟨by omega, h4, by omega⟩
    · have := h.fresh j hj' u b hu' g hg'
      have := hold j hj' u b hu' g hg'
      exact ⟨by omega, h4, by omega⟩
  have pair : ∀ j, j < 64 → ∀ u b, f1 j = some (u, b) → ∀ x ∈ hs1, ∀ g, u.ownBlock = some g → x.2.1.ownBlock ≠ some g := fun j hj' u b hu x hx g hg' hx' => by
    rw [hhs1] at hx
    rcases List.mem_append.1 hx with hx | hx
    · have := holdH x hx g hx'
      rcases hcase j u b hu with ⟨_, rfl, _⟩ | ⟨_, hu'⟩
      · have := freshV g hg'
        omega
      · exact h.apart j hj' u b hu' x hx g hg' hx'
    · obtain rfl : x = (q, vr, bs) := by simpa using hx
      have := freshVR g hx'
      have := (f1W j hj' u b hu g hg').2.1
      simp at *
      omega
  have lentH1 : ∀ x ∈ hs1, x.2.1.ownBlock ≠ some G := fun x hx hx' => by
    rw [hhs1] at hx
    rcases List.mem_append.1 hx with hx | hx
    · have := holdH x hx G hx'
      omega
    · obtain rfl : x = (q, vr, bs) := by simpa using hx
      have := freshVR G hx'
      simp at this
      omega
  -- both hold the same
  have hS1 : Same nx f1 hs1 := by rw [hf1, hhs1]; exact h.same.put_ (by omega) hn (by omega) hf v vr bs
  obtain ⟨eqT, eqN, hS'⟩ := Same.run_ hs1.length hS1 (by omega) rfl
  have hc1 := hS1.count
  rw [hc1] at rowT boxT
  have hwin' := win_run hwin hn hqs (v, bs)
  rw [← hf1, hc1] at hwin'
  obtain ⟨sl1, sl2⟩ := run_slots hs1.length nx f1
  obtain ⟨r1, _, _, r4, _⟩ := run_spec hs1.length nx f1 (by omega)
  have hlow := h.low_
  have hcs' := hS'.count
  have hl1 : hs1.length = hs.length + 1 := by rw [hhs1]; simp
  rw [← eqN] at boxR
  have hrl := run_length hs1.length nx f1
  have hcl := cnt_le f1
  -- what the document's take turns
  have hRX : RBox W.heap.size w4 Y sz nx hs hv := rbox_taken h kA kT
  have hRot : ∀ k t cs, Blk w4 k t cs → (k = Y ∨ some k = hv.ownBlock) → t = 43 ∨ t = 59 := fun k t cs hb hk => by
    rcases hk with rfl | hk
    · by_cases ht : t = 43
      · exact .inl ht
      · exact absurd rfl (Blk.ne_ hb hRX.blk ht)
    · exact .inr (row_other hRX.row hb hk)
  have kR' : Chg (fun k => k = Y ∨ some k = hv.ownBlock) w4 w5 := ((Chg.refl _ w4).drewN n).trans kR (fun _ _ h => h)
  have hoth : ∀ k, k < w4.heap.size → (k = Y ∨ some k = hv.ownBlock) → Other w4 k := fun k hk hS => by
    rcases hS with rfl | hS
    · exact hRX.blk.other (by decide) (by decide)
    · obtain ⟨cs, hcs⟩ := row_blk hRX.row hS.symm
      exact hcs.other (by decide) (by decide)
  have hown5 : ∀ (u : Value) (b : List UInt8), OwnB 5 w4 u b → OwnB 5 w5 u b := fun u b ho => ho.chg kR' fun g hg' hS => by
    obtain ⟨cs, hcs⟩ := ho.blk hg'
    rcases hRot _ _ _ hcs hS with ht | ht <;> cases ht
  have hG4 : Blk w4 G 5 (bcs (padded bs)).toArray := hG.chg kT fun hS => by
    subst hS
    obtain ⟨ds', hds', _⟩ := (h.ibox.new_ kA).box.cells
    exact Blk.ne_ hG hds' (by decide) rfl
  have hto : ∀ (k : Nat) (x : Value × List UInt8), (run hs1.length nx f1).1[k]? = some x → ((nx + k) % 64).toNat < 64 ∧ f1 ((nx + k) % 64).toNat = some x := fun k x hx => ⟨by omega, sl1 k x hx⟩
  refine ⟨vo, vR, (run hs1.length nx f1).1, (refRun hs1.length nx hs1).1, (run hs1.length nx f1).2.1, (run hs1.length nx f1).2.2, (refRun hs1.length nx hs1).2.2, hv', rfl, rfl, ⟨?_, ?_, ?_, rowR, ownR, eqT, ?_, by omega, ?_, ?_, ?_, ?_, ?_, by omega⟩⟩
  · refine ⟨⟨boxT.chg kR' hoth, hwin'⟩, boxR, hS', ?_, ?_, h.freshX, ?_, by omega⟩
    · intro j hj' u b hu g hg'
      exact (f1W j hj' u b (sl2 j _ hu).1 g hg').1
    · intro j hj' u b hu x hx g hg'
      exact pair j hj' u b (sl2 j _ hu).1 x (refRun_mem _ _ _ _ hx) g hg'
    · refine ((h.chg.trans kA (fun _ _ h => h)).trans kT fun k hk hS => ?_).trans kR' fun k hk hS => ?_
      · have := h.freshX
        omega
      · rcases hS with hS | hS
        · have := h.rbox.lo
          omega
        · have := h.rbox.lo' k hS.symm
          omega
  · exact own_chg' rowT kR' fun g hg' hS => by
      obtain ⟨cs, hcs⟩ := row_blk rowT hg'
      rcases hRot _ _ _ hcs hS with ht | ht <;> cases ht
  · intro k x hx
    obtain ⟨a, b⟩ := hto k x hx
    exact hown5 _ _ (ownF _ a x.1 x.2 b)
  · exact hG4.chg kR' fun hS => by rcases hRot _ _ _ hG4 hS with ht | ht <;> cases ht
  · intro j hj' u b hu he
    exact (f1W j hj' u b (sl2 j _ hu).1 G he).2.2 rfl
  · intro x hx
    exact lentH1 x (refRun_mem _ _ _ _ hx)
  · intro k x hx g hg'
    obtain ⟨a, b⟩ := hto k x hx
    exact (f1W _ a x.1 x.2 b g hg').1
  · intro k x hx j hj' u b hu g hg' hu'
    obtain ⟨a, c⟩ := hto k x hx
    obtain ⟨d, e⟩ := sl2 j _ hu
    have hlt : k < (run hs1.length nx f1).1.length := (List.getElem?_eq_some_iff.1 hx).1
    rcases apF _ j a hj' (e k hlt).symm x.1 x.2 u b c d with h0 | h0
    · rw [h0] at hg'; cases hg'
    · exact h0 (hg'.trans hu'.symm)
  · intro k x hx y hy g hg'
    obtain ⟨a, b⟩ := hto k x hx
    exact pair _ a x.1 x.2 b y (refRun_mem _ _ _ _ hy) g hg'

/-- Behind the inbox's take. -/
def Mid (wA : World) (X : Nat) (sz nx : Int) (f : Ring) (q : Int) (bs : List UInt8) (code : Int) (vo : Value) (w4 : World) : Prop :=
  (Chg (fun _ => False) wA w4 ∧ vo = .slice none 0 0 ∧ (((q < 1 ∨ 2147483647 ≤ q) ∧ code = 5) ∨ (1 ≤ q ∧ q < 2147483647 ∧ hasB sz nx f q = true ∧ code = 7) ∨ (1 ≤ q ∧ q < 2147483647 ∧ hasB sz nx f q = false ∧ sz ≤ q - nx ∧ code = 8))) ∨
  (1 ≤ q ∧ q < 2147483647 ∧ hasB sz nx f q = false ∧ nx ≤ q ∧ q - nx < sz ∧ f (q % 64).toNat = none ∧ code = 0 ∧ Taken wA X sz nx f q bs (.returned (.tuple #[vo, .int .i64 0])) w4)

theorem take_mid {D : Nat → Prop} {w : World} {X : Nat} {sz nx : Int} {f : Ring} (h : IBox w X sz nx f) (h4 : nx ≤ 2147483647) (q : Int) {A : Option Addr} {bs : List UInt8} {c : Nat} (hr : Rd D w A bs) (hlen : bs.length ≤ 140737488355328) :
    Calls Try.prog 13 #[.pointer (some ⟨X, 0, none⟩), .int .i64 q, .slice A bs.length c] w fun e w' => ∃ code vo, e = .returned (.tuple #[vo, .int .i64 code]) ∧ Mid w X sz nx f q bs code vo w' := by
  by_cases h1 : q < 1 ∨ 2147483647 ≤ q
  · refine (take_out h q h1 _).mono ?_
    rintro e w' ⟨rfl, _, k⟩
    exact ⟨5, _, rfl, .inl ⟨k, rfl, .inl ⟨h1, rfl⟩⟩⟩
  · have hq1 : 1 ≤ q := by omega
    have hq2 : q < 2147483647 := by omega
    by_cases h2 : hasB sz nx f q = true
    · refine (take_old h q hq1 hq2 h2 _).mono ?_
      rintro e w' ⟨rfl, _, k⟩
      exact ⟨7, _, rfl, .inl ⟨k, rfl, .inr (.inl ⟨hq1, hq2, h2, rfl⟩)⟩⟩
    · have h2' : hasB sz nx f q = false := by simpa using h2
      by_cases h3 : sz ≤ q - nx
      · refine (take_far h q hq1 hq2 h3 _).mono ?_
        rintro e w' ⟨rfl, _, k⟩
        exact ⟨8, _, rfl, .inl ⟨k, rfl, .inr (.inr ⟨hq1, hq2, h2', h3, rfl⟩)⟩⟩
      · have hh := h2'
        rw [h.win.has hq1, Bool.or_eq_false_iff] at hh
        have hn : nx ≤ q := by have := hh.1; simp at this; omega
        have h64 := h.win.hi
        have hf : f (q % 64).toNat = none := by
          have := hh.2
          rw [held_in hn (by omega)] at this
          simpa using this
        refine (take_ok h.box h.win.lo h64 h.win.nx1 h4 q hq1 hq2 hn (by omega) hf hr hlen).mono ?_
        intro e w' ht
        obtain ⟨v, vo, f1, hf1, rfl, hr'⟩ := ht
        exact ⟨0, vo, rfl, .inr ⟨hq1, hq2, h2', hn, by omega, hf, rfl, v, vo, f1, hf1, rfl, hr'⟩⟩

/-- Behind both. -/
theorem rtake_after {D : Nat → Prop} {W wr wA w4 : World} {X Y : Nat} {sz nx q code : Int} {G n : Nat} {bs : List UInt8} {f : Ring} {hs : List HeldR} {hv vo : Value} {low : Nat}
    (h : TBase W wr X Y sz nx f hs hv low) (kA : Chg (fun _ => False) wr wA) (hG : Blk wA G 5 (bcs (padded bs)).toArray) (hg : wr.heap.size ≤ G) (h4 : nx ≤ 2147483647) (M : Mid wA X sz nx f q bs code vo w4)
    {A : Option Addr} {c : Nat} (hr : Rd D w4 A bs) (hlen : bs.length ≤ 140737488355328) :
    Calls Try.prog 14 #[.pointer (some ⟨Y, 0, none⟩), .int .i64 q, .slice A bs.length c] (w4.drewN n) fun e w' => ∃ (vr : Value) (told outs : List (Value × List UInt8)) (nx' : Int) (f' : Ring) (hs' : List HeldR) (hv' : Value),
      e = .returned (.tuple #[vr, .int .i64 code]) ∧ After W w' X Y sz G bs vo vr told outs nx' f' hs' hv' (low + 1) := by
  have hw := h.ibox.win
  have hhl : hs.length ≤ 64 := by rw [← h.same.count]; exact cnt_le f
  have hlo := hw.lo
  have h64 := hw.hi
  have hnx := hw.nx1
  rcases M with ⟨k4, rfl, hM⟩ | ⟨hq1, hq2, hh, hn, hs, hf, rfl, T⟩
  · have hR : RBox W.heap.size (w4.drewN n) Y sz nx hs hv := ((h.rbox.new_ kA).new_ k4).drewN n
    have hend : ∀ w', Chg (fun _ => False) w4 w' → After W w' X Y sz G bs (.slice none 0 0) (.slice none 0 0) [] [] nx f hs hv (low + 1) := fun w' k =>
      After.none_ h ((kA.trans k4 (fun _ _ h => h)).trans k (fun _ _ h => h)) ((hG.chg k4 (fun h => h)).chg k (fun h => h)) hg
    rcases hM with ⟨hq, rfl⟩ | ⟨hq1, hq2, hh, rfl⟩ | ⟨hq1, hq2, hh, hs, rfl⟩
    · refine (rtake_range q hq _).mono ?_
      rintro e w' ⟨rfl, rfl⟩
      exact ⟨_, _, _, _, _, _, _, rfl, hend _ ((Chg.refl _ _).drewN n)⟩
    · rw [h.same.has hw] at hh
      refine (rtake_there hR (by omega) q hq1 hq2 hh _).mono ?_
      rintro e w' ⟨rfl, rfl⟩
      exact ⟨_, _, _, _, _, _, _, rfl, hend _ ((Chg.refl _ _).drewN n)⟩
    · rw [h.same.has hw] at hh
      refine (rtake_full hR (by omega) q hq1 hq2 hh hnx h4 hlo h64 (by omega) _).mono ?_
      rintro e w' ⟨rfl, m, rfl⟩
      exact ⟨_, _, _, _, _, _, _, rfl, hend _ (((Chg.refl _ _).drewN n).drewN m)⟩
  · obtain ⟨_, _, _, _, _, _, _, _, _, _, _, kT⟩ := id T
    have hR := (rbox_taken h kA kT).drewN n
    have hsz : W.heap.size ≤ (w4.drewN n).heap.size := Nat.le_trans h.chg.size (Nat.le_trans kA.size kT.size)
    rw [h.same.has hw] at hh
    refine (rtake_ok hR hhl q hq1 hq2 hh hnx h4 hlo h64 (by omega) (hr.drewN n) hlen hsz).mono ?_
    intro e w' R
    obtain ⟨vo', vr, told, outs, nx', f', hs', hv', e1, rfl, hA⟩ := After.some_ h kA hG hg hn hs hf T rfl R
    injection e1 with e1
    have e2 : vo = vo' := by
      injection e1 with e1
      have := congrArg (fun a => a[0]?) e1
      simpa using this
    subst e2
    exact ⟨vr, told, outs, nx', f', hs', hv', rfl, hA⟩

theorem Mid.chg {wA w4 : World} {X : Nat} {sz nx q code : Int} {f : Ring} {bs : List UInt8} {vo : Value} (M : Mid wA X sz nx f q bs code vo w4) : Chg (fun k => k = X) wA w4 := by
  rcases M with ⟨k4, _⟩ | ⟨_, _, _, _, _, _, _, T⟩
  · exact k4.mono fun _ _ h => h.elim
  · obtain ⟨_, _, _, _, _, _, _, _, _, _, _, kT⟩ := T
    exact kT
end Go.Proofs.Ytjmbealiinecjaa
