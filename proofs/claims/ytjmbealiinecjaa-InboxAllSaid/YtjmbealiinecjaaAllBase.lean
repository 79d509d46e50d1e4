import Derived.Test.YtjmbealiinecjaaAllLaw
import Derived.Deep.CutBlock
namespace Go.Proofs.Ytjmbealiinecjaa
open Go.RowKit

/-- Slices of bytes that came in. -/
def Lists (w : World) (B : Nat) (A : Option Addr) (l : List (List UInt8)) : Prop := RdL (fun b => b < B) w A l ∧ ∀ (k : Nat) (h : k < l.length), l[k].length ≤ 140737488351232
theorem Lists.chg {S : Nat → Prop} {w w' : World} {B : Nat} {A : Option Addr} {l : List (List UInt8)} (h : Lists w B A l) (hc : Chg S w w') (hs : ∀ k, k < B → ¬ S k) : Lists w' B A l := ⟨h.1.chg hc hs, h.2⟩

/-- Numbers that came in. -/
def Ints (w : World) (B : Nat) (A : Option Addr) (l : List Int) : Prop := RdC (fun b => b < B) w A (l.map (Value.int .i64))

def sumL (l : List (List UInt8)) : Nat := (l.map List.length).sum
theorem sumL_snoc {l : List (List UInt8)} {k : Nat} (h : k < l.length) : sumL (l.take (k + 1)) = sumL (l.take k) + l[k].length := by
  unfold sumL
  rw [List.take_succ_eq_append_getElem h, List.map_append, List.sum_append]
  simp
theorem sumL_le {l : List (List UInt8)} (h : ∀ (k : Nat) (h : k < l.length), l[k].length ≤ 140737488351232) : ∀ k, k ≤ l.length → sumL (l.take k) ≤ k * 140737488351232
  | 0, _ => by simp [sumL]
  | k + 1, hk => by
    have ih := sumL_le h k (by omega)
    have := h k (by omega)
    rw [sumL_snoc (by omega)]
    omega

theorem Try.info3 : (Try.prog.info? 3).map (fun i => (i.zero, i.size, i.bytes)) = some (some (.int .i64 0), 1, 8) := by kernel_rfl
def numV (L : List Nat) : List Value := L.map fun s : Nat => .int .i64 (s : Int)
theorem numV_one (L : List Nat) : ∀ u ∈ numV L, u.oneCell' = true := by
  intro u hu
  obtain ⟨_, _, rfl⟩ := List.mem_map.1 hu
  rfl

/-- What is left, behind j numbers. -/
def LeftRel (W : World) (X : Nat) (sz : Int) (j : Nat) (v : Value) (wr : World) : Prop :=
  IBox wr X sz 1 (fun _ => none) ∧ wr.ownsRow 0 3 1 v j (numV (List.range' 1 j)) ∧ (∀ g, v.ownBlock = some g → W.heap.size ≤ g) ∧ Chg (fun _ => False) W wr

theorem leftRel_next {W wr w' : World} {X : Nat} {sz : Int} {j : Nat} {v v' : Value} {o : Obj} (h : LeftRel W X sz j v wr) (ho : w'.ownsRow 0 3 1 v' (j + 1) (numV (List.range' 1 j) ++ [.int .i64 ((j : Int) + 1)])) (hg : (wr.alloc o).grownBy w' v.ownBlock)
    (ha : v'.ownBlock = v.ownBlock ∨ v'.ownBlock = some (wr.alloc o).heap.size) : LeftRel W X sz (j + 1) v' w' := by
  obtain ⟨hI, hown, hf, hc⟩ := h
  have k : Chg (fun k => some k = v.ownBlock) wr w' := ((Chg.refl _ wr).alloc _).grown hg fun k hk => .inr hk.symm
  refine ⟨hI.chg k fun k _ hk => own_other hown (by decide) (by decide) hk, ?_, fun g hg' => ?_, hc.trans k fun k hk he => absurd (hf k he.symm) (by omega)⟩
  · rw [show numV (List.range' 1 (j + 1)) = numV (List.range' 1 j) ++ [.int .i64 ((j : Int) + 1)] by
      rw [List.range'_concat]; simp [numV]; omega]
    exact ho
  · rcases ha with h1 | h1
    · exact hf g (h1 ▸ hg')
    · rw [h1] at hg'
      injection hg' with hg'
      have := hc.size
      simp at hg'
      omega

/-- What stands at the head of the great loop, at its i-th round. -/
structure AllRel (W : World) (X : Nat) (sz : Int) (l : List (List UInt8)) (m i : Nat) (vL vG : Value) (wr : World) (nx : Int) (f : Ring) (L : List Nat) (got : List (Value × List UInt8)) : Prop where
  ibox : IBox wr X sz nx f
  inv : AllInv l.length l sz nx f L (got.map (·.2))
  left : wr.ownsRow 0 3 1 vL L.length (numV L)
  rowG : wr.ownsRow 0 31 1 vG got.length (got.map (·.1))
  freshL : ∀ g, vL.ownBlock = some g → W.heap.size ≤ g
  freshG : ∀ g, vG.ownBlock = some g → W.heap.size ≤ g
  own : ∀ (k : Nat) (x : Value × List UInt8), got[k]? = some x → OwnB 5 wr x.1 x.2
  chg : Chg (fun _ => False) W wr
  freshX : W.heap.size ≤ X
  clock : m ≤ i → ∃ i0, m ≤ i0 ∧ i0 ≤ i ∧ i0 + 60 * L.length ≤ m + 60 * l.length ∧ ∀ j, i0 ≤ j → j < i → L[j % L.length]? ≠ some nx.toNat

theorem AllRel.soon {W wr : World} {X : Nat} {sz nx : Int} {l : List (List UInt8)} {m i : Nat} {vL vG : Value} {f : Ring} {L : List Nat} {got : List (Value × List UInt8)} (h : AllRel W X sz l m i vL vG wr nx f L got) (hl : l.length ≤ 60) (hm : m ≤ 200) (hL : L ≠ []) : i < 8000 := by
  rcases Nat.lt_or_ge i 8000 with h0 | h0
  · exact h0
  · exfalso
    obtain ⟨i0, a, b, c, d⟩ := h.clock (by omega)
    have hn := h.inv.next h.ibox.win hL
    obtain ⟨p, hp, hpe⟩ := List.mem_iff_getElem.1 hn
    have hcn := h.inv.count
    have hlo := h.inv.lo
    have hLl : L.length ≤ 60 := by omega
    obtain ⟨j, j1, j2, j3⟩ := rest_in (m := L.length) (p := p) (i0 := i0) (i := i) hp (by omega)
    exact d j j1 j2 (by rw [j3, List.getElem?_eq_getElem hp, hpe])

theorem own_chg {S : Nat → Prop} {w w' : World} {base : Nat} {e : TypeId} {size n : Nat} {v : Value} {xs : List Value} (h : w.ownsRow base e size v n xs) (hc : Chg S w w') (hs : ∀ g, v.ownBlock = some g → ¬ S g) : w'.ownsRow base e size v n xs := by
  refine ⟨h.1, ?_⟩
  rcases h.2 with ⟨rfl, h2⟩ | ⟨g, cap, cur, rfl, hb, hh, h1, h2, h3⟩
  · exact .inl ⟨rfl, h2⟩
  · exact .inr ⟨g, cap, cur, rfl, hb, hc.heap hh (hs g rfl), h1, h2, h3⟩
theorem World.ownsRow.drewN_ {w : World} {base : Nat} {e : TypeId} {size n : Nat} {v : Value} {xs : List Value} (h : w.ownsRow base e size v n xs) (k : Nat) : (w.drewN k).ownsRow base e size v n xs := h

theorem rdc_take {w : World} {g cap : Nat} {L : List Nat} (h : w.ownsRow 0 3 1 (.slice (some ⟨g, 0, none⟩) L.length cap) L.length (numV L)) (kk : Nat) : RdC (fun k => k = g) w (some ⟨g, 0, none⟩) (numV (L.take kk)) := fun _ =>
  ⟨_, rfl, rfl, fun j u hu => h.cells (g := g) rfl j u (by
    simp only [numV, List.map_take, List.getElem?_take] at hu ⊢
    split at hu
    · exact hu
    · cases hu)⟩
theorem rdc_drop {w : World} {g cap : Nat} {L : List Nat} (h : w.ownsRow 0 3 1 (.slice (some ⟨g, 0, none⟩) L.length cap) L.length (numV L)) (i : Nat) :
    RdC (fun k => k = g) w (if cap = i then some ⟨g, 0, none⟩ else some ⟨g, i, none⟩) (numV (L.drop i)) := fun hn => by
  have hlc : L.length ≤ cap := by
    rcases h.2 with ⟨he, _⟩ | ⟨g', cap', cur, he, _, _, h1, _⟩
    · cases he
    · injection he with _ _ hc
      omega
  have hlt : i < L.length := by simp [numV] at hn; omega
  rw [if_neg (by omega)]
  refine ⟨_, rfl, rfl, fun j u hu => ?_⟩
  have := h.cells (g := g) rfl (i + j) u (by simpa [numV, List.getElem?_map, List.getElem?_drop] using hu)
  rw [Addr.add_lit, Nat.zero_add] at this
  rw [Addr.add_lit]
  exact this
theorem cut_first {w w' : World} {o : Obj} (hg : (w.alloc o).drew.grownBy w' (Value.slice (some ⟨w.heap.size, 0, none⟩) 0 0).ownBlock) : Chg (fun _ => False) w w' :=
  (((Chg.refl _ w).alloc _).drew).grown hg fun k hk => .inl (by
    simp [Value.ownBlock] at hk
    omega)
theorem cut_fresh {w : World} {o : Obj} {v : Value} (ha : v.ownBlock = (Value.slice (some ⟨w.heap.size, 0, none⟩) 0 0).ownBlock ∨ v.ownBlock = some (w.alloc o).drew.heap.size) : ∀ g, v.ownBlock = some g → w.heap.size ≤ g := by
  intro g hg
  rcases ha with h | h
  · rw [hg] at h; simp [Value.ownBlock] at h; omega
  · rw [hg] at h; simp at h; omega

theorem cut_done {w4 w5 w6 : World} {L : List Nat} {kk : Nat} {v5 v6 : Value} (hkk : kk < L.length) (ho : w6.ownsRow 0 3 1 v6 (kk + (L.length - (kk + 1))) (numV (L.take kk) ++ numV (L.drop (kk + 1)))) (hg : w5.grownBy w6 v5.ownBlock)
    (ha : v6.ownBlock = v5.ownBlock ∨ v6.ownBlock = some w5.heap.size) (k5 : Chg (fun _ => False) w4 w5) (f5 : ∀ g, v5.ownBlock = some g → w4.heap.size ≤ g) :
    w6.ownsRow 0 3 1 v6 (L.take kk ++ L.drop (kk + 1)).length (numV (L.take kk ++ L.drop (kk + 1))) ∧ (∀ g, v6.ownBlock = some g → w4.heap.size ≤ g) ∧ Chg (fun _ => False) w4 w6 := by
  refine ⟨?_, fun g hg' => ?_, k5.grown hg fun k hk => .inl (f5 k hk)⟩
  · rw [show (L.take kk ++ L.drop (kk + 1)).length = kk + (L.length - (kk + 1)) by simp; omega, show numV (L.take kk ++ L.drop (kk + 1)) = numV (L.take kk) ++ numV (L.drop (kk + 1)) by simp [numV]]
    exact ho
  · rcases ha with h | h
    · exact f5 g (h ▸ hg')
    · rw [h] at hg'
      injection hg' with hg'
      have := k5.size
      omega

theorem RdL.atD {D : Nat → Prop} {w : World} {A : Option Addr} {bss : List (List UInt8)} (h : RdL D w A bss) {k : Nat} (hk : k < bss.length) :
    ∃ ad B c, A = some ad ∧ D ad.block ∧ w.cell? (ad.add k) = some (.slice B bss[k].length c) ∧ bss[k].length ≤ c ∧ Rd D w B bss[k] := by
  obtain ⟨vs, hl, hr, hv⟩ := h
  obtain ⟨ad, e, hd, hc⟩ := hr.at_ (k := k) (by omega)
  obtain ⟨B, c, e1, e2, e3⟩ := hv k _ _ (List.getElem?_eq_getElem hk) (List.getElem?_eq_getElem (by omega))
  exact ⟨ad, B, c, e, hd, by rw [hc, e1], e2, e3⟩

theorem AllRel.pick {W wr : World} {X g cap : Nat} {sz nx : Int} {l : List (List UInt8)} {m i : Nat} {vG : Value} {f : Ring} {L : List Nat} {got : List (Value × List UInt8)} {A : Option Addr} (hR : AllRel W X sz l m i (.slice (some ⟨g, 0, none⟩) L.length cap) vG wr nx f L got) (h : Lists W W.heap.size A l) {kk : Nat} (hkk : kk < L.length) :
    ∃ (t : Nat) (al : Addr) (Bk : Option Addr) (ck : Nat) (bs : List UInt8), L[kk]? = some (t + 1) ∧ A = some al ∧ al.block < W.heap.size ∧ t < l.length ∧ nx ≤ (t : Int) + 1 ∧ held nx f ((t : Int) + 1) = none ∧ wr.cell? ⟨g, kk, none⟩ = some (.int .i64 ((t : Int) + 1)) ∧
      wr.cell? (al.add t) = some (.slice Bk bs.length ck) ∧ bs.length ≤ 140737488351232 ∧ Rd (fun b => b < W.heap.size) wr Bk bs ∧ l[t]? = some bs := by
  obtain ⟨q1, q2, q3, q4⟩ := (hR.inv.left L[kk]).1 (List.getElem_mem hkk)
  obtain ⟨t, ht⟩ : ∃ t, L[kk] = t + 1 := ⟨L[kk] - 1, by omega⟩
  rw [ht] at q2 q3 q4
  have hl2 := h.chg hR.chg (fun _ _ h => h)
  have cLk : wr.cell? ⟨g, kk, none⟩ = some (.int .i64 ((t : Int) + 1)) := by
    have := hR.left.cells (g := g) rfl kk (.int .i64 ((t : Int) + 1)) (by simp [numV, hkk, ht])
    rwa [Addr.add_lit, Nat.zero_add] at this
  obtain ⟨al, Bk, ck, hA, hD, cl, hck, hRd⟩ := hl2.1.atD (k := t) (by omega)
  exact ⟨t, al, Bk, ck, _, by rw [List.getElem?_eq_getElem hkk, ht], hA, hD, by omega, by omega, q4, cLk, cl, hl2.2 t (by omega), hRd, List.getElem?_eq_getElem _⟩


/-- The row of told bodies, grown: what stays. -/
theorem AllRel.next_far {W wr wx w' : World} {X : Nat} {sz nx : Int} {l : List (List UInt8)} {m i : Nat} {vL vG v7 : Value} {f : Ring} {L : List Nat} {got : List (Value × List UInt8)} (hR : AllRel W X sz l m i vL vG wr nx f L got)
    (hI : IBox wx X sz nx f) (k : Chg (fun _ => False) wr wx) (_hl : l.length ≤ 60) {t kk : Nat} (hse : L[kk]? = some (t + 1)) (hfar : sz ≤ (t : Int) + 1 - nx) (hkj : m ≤ i → kk = i % L.length)
    (ho7 : w'.ownsRow 0 31 1 v7 (got.length + 0) (got.map (·.1) ++ [])) (hg7 : wx.grownBy w' vG.ownBlock) (ha7 : v7.ownBlock = vG.ownBlock ∨ v7.ownBlock = some wx.heap.size) :
    AllRel W X sz l m (i + 1) vL v7 w' nx f L got := by
  have hrowG := own_chg hR.rowG k (fun _ _ h => h)
  have hrowL := own_chg hR.left k (fun _ _ h => h)
  have k7 : Chg (fun k => some k = vG.ownBlock) wx w' := (Chg.refl _ wx).grown hg7 fun k hk => .inr hk.symm
  have hs := hR.chg.size
  have hsx := k.size
  have hlo := hR.inv.lo
  have hz := hR.ibox.win.lo
  have hcn := hR.inv.count
  refine ⟨hI.chg k7 fun k _ hk => own_other hrowG (by decide) (by decide) hk, hR.inv, own_chg hrowL k7 fun g hg he => ?_, by simpa using ho7, hR.freshL, fun g hg => ?_, fun q x hx => ?_, ?_, hR.freshX, fun hm => ?_⟩
  · have h1 : ∃ cs, Blk wx g 3 cs := by
      rcases hrowL.2 with ⟨rfl, _⟩ | ⟨g', cap, cur, rfl, _, hh, _⟩
      · cases hg
      · have : g' = g := by simpa [Value.ownBlock] using hg
        subst this
        exact ⟨_, hh⟩
    obtain ⟨cs, h1⟩ := h1
    exact own_blk_ne hrowG h1 (by decide) he
  · rcases ha7 with h | h
    · exact hR.freshG g (h ▸ hg)
    · rw [h] at hg; injection hg with hg; omega
  · exact ((hR.own q x hx).chg k (fun _ _ h => h)).chg k7 fun g hg hS => ((hR.own q x hx).chg k (fun _ _ h => h)).other (own_other hrowG (by decide) (by decide) hS) hg
  · exact (hR.chg.trans k (fun _ _ h => h)).trans k7 fun k hk he => absurd (hR.freshG k he.symm) (by omega)
  · by_cases h0 : m ≤ i
    · obtain ⟨i0, a, b, c, d⟩ := hR.clock h0
      refine ⟨i0, a, by omega, c, fun j j1 j2 => ?_⟩
      by_cases hj : j = i
      · subst hj
        rw [← hkj h0, hse]
        intro he
        injection he with he
        omega
      · exact d j j1 (by omega)
    · refine ⟨i + 1, hm, Nat.le_refl _, ?_, fun j j1 j2 => absurd j2 (by omega)⟩
      have : m = i + 1 := by omega
      omega

theorem AllRel.next_took {W wr w4 wx w' : World} {X n : Nat} {sz nx nx' : Int} {l : List (List UInt8)} {m i : Nat} {vL vG v6 v7 vo : Value} {f f' : Ring} {L : List Nat} {got told : List (Value × List UInt8)} {bs : List UInt8} (hR : AllRel W X sz l m i vL vG wr nx f L got)
    {t kk : Nat} (T : Took (wr.drewN n) X sz nx f ((t : Int) + 1) bs w4 vo told nx' f') (hl : l.length ≤ 60) (hkk : kk < L.length) (hse : L[kk]? = some (t + 1)) (hbs : l[t]? = some bs)
    (ho6 : wx.ownsRow 0 3 1 v6 (L.take kk ++ L.drop (kk + 1)).length (numV (L.take kk ++ L.drop (kk + 1)))) (f6 : ∀ g, v6.ownBlock = some g → w4.heap.size ≤ g) (k6 : Chg (fun _ => False) w4 wx)
    (ho7 : w'.ownsRow 0 31 1 v7 (got.length + told.length) (got.map (·.1) ++ told.map (·.1))) (hg7 : wx.grownBy w' vG.ownBlock) (ha7 : v7.ownBlock = vG.ownBlock ∨ v7.ownBlock = some wx.heap.size) :
    AllRel W X sz l m (i + 1) v6 v7 w' nx' f' (L.take kk ++ L.drop (kk + 1)) (got ++ told) := by
  have k4 : Chg (fun k => k = X) wr w4 := ((Chg.refl _ wr).drewN n).trans T.chg (fun _ _ h => h)
  have hX : ∀ {k : Nat}, Other wr k → k ≠ X := fun ho => (hR.ibox.box.ne_other ho).symm
  have hrow4 := own_chg hR.rowG k4 (fun g hg hS => hX (own_other hR.rowG (by decide) (by decide) hg.symm) hS)
  have hrowG := own_chg hrow4 k6 (fun _ _ h => h)
  have k7 : Chg (fun k => some k = vG.ownBlock) wx w' := (Chg.refl _ wx).grown hg7 fun k hk => .inr hk.symm
  have hs := hR.chg.size
  have hs4 := k4.size
  have hsx := k6.size
  have hXW : W.heap.size ≤ X ∨ X < W.heap.size := by omega
  have hq : ((t : Int) + 1) = ((L[kk] : Nat) : Int) := by
    have := (List.getElem?_eq_some_iff.1 hse).2
    omega
  have hI := (T.ibox.new_ k6)
  have hinv := hR.inv.took hkk hq (bs := bs) (by rw [show ((t : Int) + 1 - 1).toNat = t by omega]; exact hbs) T
  have hcn := hR.inv.count
  have hlo := hR.inv.lo
  have hgotX : ∀ (q : Nat) (x : Value × List UInt8), got[q]? = some x → OwnB 5 wx x.1 x.2 := fun q x hx => ((hR.own q x hx).chg k4 fun g hg hS => by
      subst hS
      obtain ⟨cs, hcs⟩ := (hR.own q x hx).blk hg
      obtain ⟨cs', hcs', _⟩ := hR.ibox.box.cells
      exact Blk.ne_ hcs hcs' (by decide) rfl).chg k6 (fun _ _ h => h)
  have hallX : ∀ (q : Nat) (x : Value × List UInt8), (got ++ told)[q]? = some x → OwnB 5 wx x.1 x.2 := fun q x hx => by
    rw [List.getElem?_append] at hx
    split at hx
    · exact hgotX q x hx
    · exact (T.own _ x hx).chg k6 (fun _ _ h => h)
  refine ⟨hI.chg k7 fun k _ hk => own_other hrowG (by decide) (by decide) hk, by rw [List.map_append]; exact hinv, own_chg ho6 k7 fun g hg he => ?_, by rw [List.length_append, List.map_append]; exact ho7, fun g hg => ?_, fun g hg => ?_, fun q x hx => ?_, ?_, hR.freshX, fun hm => ?_⟩
  · have h1 : ∃ cs, Blk wx g 3 cs := by
      rcases ho6.2 with ⟨rfl, _⟩ | ⟨g', cap, cur, rfl, _, hh, _⟩
      · cases hg
      · have : g' = g := by simpa [Value.ownBlock] using hg
        subst this
        exact ⟨_, hh⟩
    obtain ⟨cs, h1⟩ := h1
    exact own_blk_ne hrowG h1 (by decide) he
  · have := f6 g hg
    omega
  · rcases ha7 with h | h
    · exact hR.freshG g (h ▸ hg)
    · rw [h] at hg; injection hg with hg; omega
  · exact (hallX q x hx).chg k7 fun g hg hS => (hallX q x hx).other (own_other hrowG (by decide) (by decide) hS) hg
  · refine ((hR.chg.trans k4 fun k hk he => ?_).trans k6 (fun _ _ h => h)).trans k7 fun k hk he => absurd (hR.freshG k he.symm) (by omega)
    exact absurd he (by have := hR.freshX; omega)
  · have hL' : (L.take kk ++ L.drop (kk + 1)).length + 1 = L.length := by simp; omega
    refine ⟨i + 1, hm, Nat.le_refl _, ?_, fun j j1 j2 => absurd j2 (by omega)⟩
    by_cases h0 : m ≤ i
    · obtain ⟨i0, a, b, c, d⟩ := hR.clock h0
      have hin := hR.inv.next hR.ibox.win (by intro h; rw [h] at hkk; simp at hkk)
      obtain ⟨p, hp, hpe⟩ := List.mem_iff_getElem.1 hin
      have : i < i0 + L.length := by
        rcases Nat.lt_or_ge i (i0 + L.length) with h1 | h1
        · exact h1
        · obtain ⟨j, j1, j2, j3⟩ := rest_in (m := L.length) (p := p) (i0 := i0) (i := i) hp (by omega)
          exact absurd (by rw [j3, List.getElem?_eq_getElem hp, hpe]) (d j j1 j2)
      omega
    · have : m = i + 1 := by omega
      omega
end Go.Proofs.Ytjmbealiinecjaa
