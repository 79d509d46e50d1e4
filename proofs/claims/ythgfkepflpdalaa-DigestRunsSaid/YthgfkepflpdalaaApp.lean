/- append onto a row of the call's own, whatever the source, as a law of the walk and as a step of a region that draws its order; over any program. -/
import Derived.Test.YthgfkepflpdalaaCore
import Derived.Maps.AppendAt
import Derived.Deep.AppendLies
import Derived.Deep.RegionLaw
import Derived.Deep.LoopGhost
import Derived.Deep.RegionHeld3
import Derived.Deep.DeepCutAuto
import Derived.RegionTactic
import Derived.BigRegion
namespace Go.Proofs.Ythgfkepflpdalaa
open Go.RowKit

section
variable {P : Program} (w : World)

theorem run_append_of_nil (base : Nat) (t ty e : TypeId) (i : TypeInfo) (size : Nat) (ht : P.underlying t = some (.slice e)) (hi : P.info? e = some i)
    (v : Value) (n : Nat) (xs : List Value) (hown : w.ownsRow base e size v n xs) (c : Nat) : (Builtin.append_ #[t, t] ty #[v, .slice none 0 c]).run P w = .ok v w := by
  rcases hown.2 with ⟨rfl, rfl⟩ | ⟨g, cap, cur, rfl, _, _, hnc, _⟩
  · simp [Builtin.append_, run_underlying ht, sizeOf, typeInfo, hi, Builtin.lenOf, Builtin.firstCells]
  · simp [Builtin.append_, run_underlying ht, sizeOf, typeInfo, hi, Builtin.lenOf, Builtin.firstCells, hnc, storeCells]

theorem run_append_any {D : Nat → Prop} (base : Nat) (t ty e : TypeId) (i : TypeInfo) (z : Value) (size bytes : Nat) (ht : P.underlying t = some (.slice e)) (hi : P.info? e = some i) (hz : i.zero = some z)
    (hsize : i.size = size) (hby : i.bytes = bytes) (hzs : z.cells.size = size) (hsz : 0 < size)
    (v : Value) (n : Nat) (xs : List Value) (hown : w.ownsRow base e size v n xs)
    (A : Option Addr) (m c : Nat) (news : List Value) (hl : news.length = m * size) (hr : RdC D w A news) (h1 : ∀ u ∈ news, u.oneCell' = true)
    (h63 : n + m ≤ maxLen) (hbytes : (n + m) * bytes ≤ 140737488355328) (hbase : base ≤ w.heap.size) :
    ∃ v' w', (Builtin.append_ #[t, t] ty #[v, .slice A m c]).run P w = .ok v' w' ∧ w'.ownsRow base e size v' (n + m) (xs ++ news) ∧ w.grownBy w' v.ownBlock ∧
      (v'.ownBlock = v.ownBlock ∨ v'.ownBlock = some w.heap.size) := by
  rcases A with _ | ad
  · have hn : news = [] := by
      rcases news with _ | ⟨x, l⟩
      · rfl
      · obtain ⟨ad, h, _⟩ := hr (by simp)
        cases h
    subst hn
    have hm : m = 0 := by
      rcases Nat.eq_zero_or_pos m with h0 | h0
      · exact h0
      · have : 0 < m * size := Nat.mul_pos h0 hsz
        simp at hl
        omega
    subst hm
    exact ⟨v, w, run_append_of_nil w base t ty e i size ht hi v n xs hown c, by simpa using hown, World.grownBy.refl w _, .inl rfl⟩
  · have hcells : ∀ j u, news[j]? = some u → w.cell? (ad.add j) = some u := by
      intro j u hu
      have hlt : j < news.length := (List.getElem?_eq_some_iff.1 hu).1
      obtain ⟨ad', h, _, hc⟩ := hr (by omega)
      injection h with h
      subst h
      exact hc j u hu
    obtain ⟨v', w', hrun, h2, h3, _, h5⟩ := run_append_own_at (P := P) w base t ty e i z size bytes ht hi hz hsize hby hzs hsz v n xs hown ad m c news hl hcells h1 h63 hbytes hbase
    exact ⟨v', w', hrun, h2, h3, h5⟩

theorem wp_append_any {D : Nat → Prop} {o : Oper} {a : Act} {K : Act → World → Prop} {Q : Exit → Act → World → Prop} (s x : Operand) (t : TypeId)
    (ho : o.op = .call { callee := .builtin .append, args := #[s, x], argTypes := #[t, t] })
    (base : Nat) (e : TypeId) (i : TypeInfo) (z : Value) (size bytes : Nat) (ht : P.underlying t = some (.slice e)) (hi : P.info? e = some i) (hz : i.zero = some z)
    (hsize : i.size = size) (hby : i.bytes = bytes) (hzs : z.cells.size = size) (hsz : 0 < size)
    (v : Value) (n : Nat) (xs : List Value) (hs : a.eval s = v) (hown : w.ownsRow base e size v n xs)
    (A : Option Addr) (m c : Nat) (news : List Value) (hx : a.eval x = .slice A m c) (hl : news.length = m * size) (hr : RdC D w A news) (h1 : ∀ u ∈ news, u.oneCell' = true)
    (h63 : n + m ≤ maxLen) (hbytes : (n + m) * bytes ≤ 140737488355328) (hbase : base ≤ w.heap.size)
    (h : ∀ v' w', w'.ownsRow base e size v' (n + m) (xs ++ news) → w.grownBy w' v.ownBlock → (v'.ownBlock = v.ownBlock ∨ v'.ownBlock = some w.heap.size) → K (a.put o.dst v') w') : o.wp P a w K Q := by
  obtain ⟨v', w', hrun, h2, h3, h4⟩ := run_append_any (P := P) w base t o.type e i z size bytes ht hi hz hsize hby hzs hsz v n xs hown A m c news hl hr h1 h63 hbytes hbase
  unfold Oper.wp execOp
  simp only [ho, resolve, invoke, builtin, Sem.run_bind, Sem.run_pure, Result.andThen_ok, List.map_toArray, List.map_cons, List.map_nil, hs, hx, hrun]
  exact h v' w' h2 h3 h4

theorem wpList_append_any {D : Nat → Prop} {ops : Array Oper} {rest : List Oper} {o : Oper} {a : Act} {Q : Exit → Act → World → Prop} (hgd : o.guard = none) (s x : Operand) (t : TypeId)
    (ho : o.op = .call { callee := .builtin .append, args := #[s, x], argTypes := #[t, t] })
    (base : Nat) (e : TypeId) (i : TypeInfo) (z : Value) (size bytes : Nat) (ht : P.underlying t = some (.slice e)) (hi : P.info? e = some i) (hz : i.zero = some z)
    (hsize : i.size = size) (hby : i.bytes = bytes) (hzs : z.cells.size = size) (hsz : 0 < size)
    (v : Value) (n : Nat) (xs : List Value) (hs : a.eval s = v) (hown : w.ownsRow base e size v n xs)
    (A : Option Addr) (m c : Nat) (news : List Value) (hx : a.eval x = .slice A m c) (hl : news.length = m * size) (hr : RdC D w A news) (h1 : ∀ u ∈ news, u.oneCell' = true)
    (h63 : n + m ≤ maxLen) (hbytes : (n + m) * bytes ≤ 140737488355328) (hbase : base ≤ w.heap.size)
    (h : ∀ v' w', w'.ownsRow base e size v' (n + m) (xs ++ news) → w.grownBy w' v.ownBlock → (v'.ownBlock = v.ownBlock ∨ v'.ownBlock = some w.heap.size) → wpList P ops Q rest (a.put o.dst v') w') : wpList P ops Q (o :: rest) a w :=
  wpList_plain hgd fun _ hK => wp_append_any w s x t ho base e i z size bytes ht hi hz hsize hby hzs hsz v n xs hs hown A m c news hx hl hr h1 h63 hbytes hbase fun v' w' h2 h3 h4 => hK _ _ (h v' w' h2 h3 h4)

theorem step_append_any {D : Nat → Prop} {ops : Array Oper} {o : Oper} {a : Act} {K : Act → World → Prop} {Q : Exit → Act → World → Prop} {E : Prop} (hgd : o.guard = none) (s x : Operand) (t : TypeId)
    (ho : o.op = .call { callee := .builtin .append, args := #[s, x], argTypes := #[t, t] })
    (base : Nat) (e : TypeId) (i : TypeInfo) (z : Value) (size bytes : Nat) (ht : P.underlying t = some (.slice e)) (hi : P.info? e = some i) (hz : i.zero = some z)
    (hsize : i.size = size) (hby : i.bytes = bytes) (hzs : z.cells.size = size) (hsz : 0 < size)
    (v : Value) (n : Nat) (xs : List Value) (hs : a.eval s = v) (hown : w.ownsRow base e size v n xs)
    (A : Option Addr) (m c : Nat) (news : List Value) (hx : a.eval x = .slice A m c) (hl : news.length = m * size) (hr : RdC D w A news) (h1 : ∀ u ∈ news, u.oneCell' = true)
    (h63 : n + m ≤ maxLen) (hbytes : (n + m) * bytes ≤ 140737488355328) (hbase : base ≤ w.heap.size)
    (h : ∀ v' w', w'.ownsRow base e size v' (n + m) (xs ++ news) → w.grownBy w' v.ownBlock → (v'.ownBlock = v.ownBlock ∨ v'.ownBlock = some w.heap.size) → K (a.put o.dst v') w') :
    if Region.wanted o (yielded ops a.tmps) = true then Oper.wp P o a w K Q else E := by
  have hw : Region.wanted o (yielded ops a.tmps) = true := by simp [Region.wanted, hgd]
  rw [if_pos hw]
  exact wp_append_any w s x t ho base e i z size bytes ht hi hz hsize hby hzs hsz v n xs hs hown A m c news hx hl hr h1 h63 hbytes hbase h
end

/-- One cell in a block of its own, as a source. -/
theorem RdC.one {w : World} (v : Value) (e : TypeId) : RdC (fun k => k = w.heap.size) (w.alloc (.cells #[v] e)) (some ⟨w.heap.size, 0, none⟩) [v] := fun _ =>
  ⟨_, rfl, rfl, fun j u hu => by
    rcases j with _ | j
    · have hu' : v = u := by simpa using hu
      subst hu'
      show (w.alloc (.cells #[v] e)).cell? ⟨w.heap.size, 0, none⟩ = some v
      rw [cell_of_row (w.alloc (.cells #[v] e)) w.heap.size 0 #[v] e (0, 0) (heap_alloc_new w _)]
      rfl
    · simp at hu⟩

/-- A block that is known whole. -/
def Blk (w : World) (g : Nat) (t : TypeId) (cs : Array Value) : Prop := w.heap[g]? = some (.cells cs t (0, 0))

section
variable {w w' : World} {g : Nat} {t : TypeId} {cs : Array Value}
theorem Blk.lt (h : Blk w g t cs) : g < w.heap.size := lt_of_block h
theorem Blk.cell (h : Blk w g t cs) (i : Nat) : w.cell? ⟨g, i, none⟩ = cs[i]? := cell_of_row w g i cs t (0, 0) h
theorem Blk.frozen (h : Blk w g t cs) (i : Nat) : w.frozen? ⟨g, i, none⟩ = false := frozen_of_row w g i cs t h
theorem Blk.new (w : World) (t : TypeId) (cs : Array Value) : Blk (w.alloc (.cells cs t)) w.heap.size t cs := heap_alloc_new w _
theorem Blk.drewN (h : Blk w g t cs) (n : Nat) : Blk (w.drewN n) g t cs := h
theorem Blk.alloc (h : Blk w g t cs) (o : Obj) : Blk (w.alloc o) g t cs := (Below.heap_alloc w o g h.lt).trans h
theorem Blk.set_ (h : Blk w g t cs) (i : Nat) (u : Value) : Blk (w.setCell ⟨g, i, none⟩ u) g t (cs.setIfInBounds i u) := by
  unfold Blk at h ⊢
  simp [World.setCell, Array.getElem?_modify, h]
theorem Blk.far (h : Blk w g t cs) {p : Addr} (hp : g ≠ p.block) (u : Value) : Blk (w.setCell p u) g t cs := (Below.heap_setCell w p u g hp).trans h
theorem Blk.chg {S : Nat → Prop} (h : Blk w g t cs) (hc : Chg S w w') (hg : ¬ S g) : Blk w' g t cs := hc.heap h hg
theorem Blk.grown {row : Option Nat} (h : Blk w g t cs) (hb : w.grownBy w' row) (hg : some g ≠ row) : Blk w' g t cs := (hb.block g h.lt hg).trans h
theorem Blk.ne_ {g' : Nat} {t' : TypeId} {cs' : Array Value} (h : Blk w g t cs) (h' : Blk w g' t' cs') (hne : t ≠ t') : g ≠ g' := by
  rintro rfl
  unfold Blk at h h'
  rw [h] at h'
  injection h' with h'
  injection h' with _ ht
  exact hne ht
theorem own_blk_ne {base : Nat} {e : TypeId} {size n : Nat} {v : Value} {xs : List Value} (h : w.ownsRow base e size v n xs) (hg : Blk w g t cs) (hne : e ≠ t) : some g ≠ v.ownBlock := by
  rcases h.2 with ⟨rfl, _⟩ | ⟨g', cap, cur, rfl, _, hh, _⟩
  · simp [Value.ownBlock]
  · intro he
    have : g' = g := by simpa [Value.ownBlock] using he.symm
    subst this
    exact Blk.ne_ (t := e) hh hg hne rfl
end


/-- Bytes in a row of their own (element type e): all cells of the row, its spare ones too, are bytes. -/
def OwnB (e : TypeId) (w : World) (v : Value) (bs : List UInt8) : Prop :=
  (v = .slice none 0 0 ∧ bs = []) ∨
  ∃ (g c : Nat) (all : List UInt8), v = .slice (some ⟨g, 0, none⟩) bs.length c ∧ w.heap[g]? = some (.cells (bcs all).toArray e (0, 0)) ∧ all.length = c ∧ bs = all.take bs.length ∧ c ≤ maxLen ∧ bs.length ≤ c

section
variable {e : TypeId} {w w' : World} {v : Value} {bs : List UInt8}
theorem OwnB.one (h : OwnB e w v bs) : v.oneCell' = true := by
  rcases h with ⟨rfl, _⟩ | ⟨g, c, all, rfl, _⟩ <;> rfl
theorem OwnB.shape (h : OwnB e w v bs) : ∃ A c, v = .slice A bs.length c ∧ bs.length ≤ c ∧ c ≤ maxLen := by
  rcases h with ⟨rfl, rfl⟩ | ⟨g, c, all, rfl, _, _, _, h1, h⟩
  · exact ⟨none, 0, rfl, by simp, by simp⟩
  · exact ⟨_, c, rfl, h, h1⟩
theorem OwnB.keep (h : OwnB e w v bs) (hk : ∀ g, v.ownBlock = some g → w'.heap[g]? = w.heap[g]?) : OwnB e w' v bs := by
  rcases h with h | ⟨g, c, all, rfl, hb, hr⟩
  · exact .inl h
  · exact .inr ⟨g, c, all, rfl, (hk g rfl).trans hb, hr⟩
theorem OwnB.ownlt (h : OwnB e w v bs) {g : Nat} (hg : v.ownBlock = some g) : g < w.heap.size := by
  rcases h with ⟨rfl, _⟩ | ⟨g', c, all, rfl, hb, hr⟩
  · simp [Value.ownBlock] at hg
  · have : g' = g := by simpa [Value.ownBlock] using hg
    subst this
    exact lt_of_block hb
theorem OwnB.chg {S : Nat → Prop} (h : OwnB e w v bs) (hc : Chg S w w') (hn : ∀ g, v.ownBlock = some g → ¬ S g) : OwnB e w' v bs :=
  h.keep fun g hg => hc.block g (h.ownlt hg) (hn g hg)
theorem OwnB.blk (h : OwnB e w v bs) {g : Nat} (hg : v.ownBlock = some g) : ∃ cs, Blk w g e cs := by
  rcases h with ⟨rfl, _⟩ | ⟨g', c, all, rfl, hb, hr⟩
  · simp [Value.ownBlock] at hg
  · have : g' = g := by simpa [Value.ownBlock] using hg
    subst this
    exact ⟨_, hb⟩
theorem OwnB.rd (h : OwnB e w v bs) : RdV (fun k => v.ownBlock = some k) w v bs := by
  rcases h with ⟨rfl, rfl⟩ | ⟨g, c, all, rfl, hb, hl, ht, hm, hc⟩
  · exact ⟨none, 0, rfl, by simp, RdC.nil _⟩
  · refine ⟨_, c, rfl, hc, fun _ => ⟨_, rfl, rfl, fun j u hu => ?_⟩⟩
    have hlt : j < (bcs bs).length := (List.getElem?_eq_some_iff.1 hu).1
    rw [bcs_length] at hlt
    rw [Addr.add_lit, Nat.zero_add, cell_of_row w g j _ e (0, 0) hb, ← hu]
    rw [ht]
    simp only [List.getElem?_toArray, bcs, List.map_take, List.getElem?_take]
    rw [if_pos hlt]
theorem OwnB.row (h : OwnB e w v bs) : w.ownsRow 0 e 1 v bs.length (bcs bs) := by
  refine ⟨by simp [bcs], ?_⟩
  rcases h with ⟨rfl, rfl⟩ | ⟨g, c, all, rfl, hb, hl, ht, hm, hc⟩
  · exact .inl ⟨rfl, rfl⟩
  · refine .inr ⟨g, c, _, rfl, Nat.zero_le _, hb, hc, hm, by simp [bcs, hl], ?_⟩
    conv => rhs; rw [ht]
    simp [bcs, List.map_take]
end

theorem toList_zeroCells_u8 (n : Nat) : (Builtin.zeroCells (Value.int .u8 0).cells n).toList = bcs (List.replicate n 0) := by
  apply List.ext_getElem?
  intro j
  by_cases hj : j < n
  · simp [Builtin.zeroCells, Value.cells, bcs, bv, hj, Nat.mod_one]
  · simp [Builtin.zeroCells, Value.cells, bcs, hj]

theorem grown_zero (xs : List UInt8) (n : Nat) : (bcs xs).toArray ++ Builtin.zeroCells (Value.int .u8 0).cells n = (bcs (xs ++ List.replicate n 0)).toArray := by
  apply Array.ext'
  rw [Array.toList_append, toList_zeroCells_u8]
  simp [bcs]

theorem Rd.cells {D : Nat → Prop} {w : World} {ad : Addr} {bs : List UInt8} (h : Rd D w (some ad) bs) : ∀ j u, (bcs bs)[j]? = some u → w.cell? (ad.add j) = some u := by
  intro j u hu
  obtain ⟨ad', e, _, hc⟩ := h (by have := (List.getElem?_eq_some_iff.1 hu).1; omega)
  cases e
  exact hc j u hu

theorem run_append_bytes {P : Program} {D : Nat → Prop} (w : World) (t ty e : TypeId) (i : TypeInfo) (ht : P.underlying t = some (.slice e)) (hi : P.info? e = some i) (hz : i.zero = some (.int .u8 0)) (hsize : i.size = 1) (hby : i.bytes = 1)
    (v : Value) (xs : List UInt8) (hown : OwnB e w v xs) (A : Option Addr) (c : Nat) (bs : List UInt8) (hr : Rd D w A bs) (hlen : xs.length + bs.length ≤ 140737488355328) :
    ∃ v' w', (Builtin.append_ #[t, t] ty #[v, .slice A bs.length c]).run P w = .ok v' w' ∧ OwnB e w' v' (xs ++ bs) ∧ Chg (fun k => some k = v.ownBlock) w w' ∧
      (v'.ownBlock = v.ownBlock ∨ v'.ownBlock = some w.heap.size) := by
  rcases A with _ | ad
  · have hn : bs = [] := by
      rcases bs with _ | ⟨x, l⟩
      · rfl
      · obtain ⟨ad, h, _⟩ := hr (by simp [bcs])
        cases h
    subst hn
    exact ⟨v, w, run_append_of_nil w 0 t ty e i 1 ht hi v _ _ hown.row c, by simpa using hown, Chg.refl _ _, .inl rfl⟩
  · have hcells := hr.cells
    have hl1 : (bcs bs).length = bs.length * i.size := by rw [hsize]; simp [bcs]
    rcases hown with ⟨rfl, rfl⟩ | ⟨g, cap, all, rfl, hb, hal, htk, hcm, hxc⟩
    · by_cases hm : bs = []
      · subst hm
        refine ⟨.slice none 0 0, w, ?_, .inl ⟨rfl, rfl⟩, Chg.refl _ _, .inl rfl⟩
        simp [Builtin.append_, run_underlying ht, sizeOf, typeInfo, hi, Builtin.lenOf, Builtin.firstCells, loadCells, loadCellsFrom]
      · have hpos : 0 < bs.length := by
          rcases bs with _ | ⟨x, l⟩
          · exact absurd rfl hm
          · simp
        have hrun := run_append_nil (P := P) w t ty e i (.int .u8 0) ht hi hz ad bs.length c (bcs bs) hl1 hcells hpos (by simp at hlen; omega) (by rw [hby]; simp at hlen; omega)
        have hge := grownCap_ge w bs.length 0 e
        have hle := grownCap_le_maxLen w bs.length 0 e (by simp [maxLen] at hlen ⊢; omega)
        rw [grown_zero] at hrun
        refine ⟨_, _, hrun, .inr ⟨w.heap.size, grownCap w bs.length 0 e, _, by simp, heap_alloc_new w.drew _, ?_, ?_, hle, by simpa using hge⟩, (((Chg.refl _ w).drewN 1).alloc _), .inr rfl⟩
        · simp; omega
        · simp
    · by_cases hroom : xs.length + bs.length ≤ cap
      · have hfit : xs.length * i.size + (bcs bs).length ≤ (bcs all).toArray.size := by
          rw [hsize]; simp [bcs]; omega
        have h1 : ∀ u ∈ bcs bs, u.oneCell' = true := by
          intro u hu
          simp [bcs] at hu
          obtain ⟨b, _, rfl⟩ := hu
          rfl
        have hrun := run_append_room (P := P) w t ty e i ht hi g xs.length cap _ hb ad bs.length c (bcs bs) hl1 hcells h1 hroom hfit
        refine ⟨_, _, hrun, .inr ⟨g, cap, all.take xs.length ++ bs ++ all.drop (xs.length + bs.length), by simp, ?_, ?_, ?_, hcm, by simpa using hroom⟩, Chg.setRow (S := fun k => some k = (Value.slice (some ⟨g, 0, none⟩) xs.length cap).ownBlock) (Chg.refl _ w) (.inr rfl) _, .inl rfl⟩
        · rw [setRow_heap w g _ _ e _ hb, hsize]
          simp [bcs, List.map_take, List.map_drop]
        · simp; omega
        · have e1 : (all.take xs.length).length = xs.length := by simp; omega
          conv => lhs; rw [htk]
          rw [List.append_assoc, ← List.append_assoc, List.length_append]
          rw [← htk]
          rw [List.take_left' (by simp)]
      · have hholds : ∀ j u, (bcs xs)[j]? = some u → w.cell? ((⟨g, 0, none⟩ : Addr).add j) = some u := by
          intro j u hu
          have hlt : j < (bcs xs).length := (List.getElem?_eq_some_iff.1 hu).1
          rw [bcs_length] at hlt
          rw [Addr.add_lit, Nat.zero_add, cell_of_row w g j _ e (0, 0) hb, ← hu]
          rw [htk]
          simp only [List.getElem?_toArray, bcs, List.map_take, List.getElem?_take]
          rw [if_pos hlt]
        have hrun := run_append_grow (P := P) w t ty e i (.int .u8 0) ht hi hz ⟨g, 0, none⟩ xs.length cap (bcs xs) (by rw [hsize]; simp [bcs]) hholds ad bs.length c (bcs bs) hl1 hcells (by omega) (by omega) (growslice_fits (by omega) (by rw [hby]; omega))
        have hge := grownCap_ge w (xs.length + bs.length) cap e
        have hle := grownCap_le_maxLen w (xs.length + bs.length) cap e (by simp only [maxLen]; omega)
        have e2 : (bcs xs).toArray ++ (bcs bs).toArray = (bcs (xs ++ bs)).toArray := by simp [bcs]
        rw [e2, grown_zero] at hrun
        refine ⟨_, _, hrun, .inr ⟨w.heap.size, grownCap w (xs.length + bs.length) cap e, _, by simp, heap_alloc_new w.drew _, ?_, ?_, hle, by simpa using hge⟩, (((Chg.refl _ w).drewN 1).alloc _), .inr rfl⟩
        · simp; omega
        · exact (List.take_left' rfl).symm

theorem wp_append_bytes {P : Program} {D : Nat → Prop} (w : World) {o : Oper} {a : Act} {K : Act → World → Prop} {Q : Exit → Act → World → Prop} (s x : Operand) (t : TypeId)
    (ho : o.op = .call { callee := .builtin .append, args := #[s, x], argTypes := #[t, t] })
    (e : TypeId) (i : TypeInfo) (ht : P.underlying t = some (.slice e)) (hi : P.info? e = some i) (hz : i.zero = some (.int .u8 0)) (hsize : i.size = 1) (hby : i.bytes = 1)
    (v : Value) (xs : List UInt8) (hs : a.eval s = v) (hown : OwnB e w v xs) (A : Option Addr) (c : Nat) (bs : List UInt8) (hx : a.eval x = .slice A bs.length c) (hr : Rd D w A bs) (hlen : xs.length + bs.length ≤ 140737488355328)
    (h : ∀ v' w', OwnB e w' v' (xs ++ bs) → Chg (fun k => some k = v.ownBlock) w w' → (v'.ownBlock = v.ownBlock ∨ v'.ownBlock = some w.heap.size) → K (a.put o.dst v') w') : o.wp P a w K Q := by
  obtain ⟨v', w', hrun, h2, h3, h4⟩ := run_append_bytes (P := P) w t o.type e i ht hi hz hsize hby v xs hown A c bs hr hlen
  unfold Oper.wp execOp
  simp only [ho, resolve, invoke, builtin, Sem.run_bind, Sem.run_pure, Result.andThen_ok, List.map_toArray, List.map_cons, List.map_nil, hs, hx, hrun]
  exact h v' w' h2 h3 h4

theorem wpList_append_bytes {P : Program} {D : Nat → Prop} (w : World) {ops : Array Oper} {rest : List Oper} {o : Oper} {a : Act} {Q : Exit → Act → World → Prop} (hgd : o.guard = none) (s x : Operand) (t : TypeId)
    (ho : o.op = .call { callee := .builtin .append, args := #[s, x], argTypes := #[t, t] })
    (e : TypeId) (i : TypeInfo) (ht : P.underlying t = some (.slice e)) (hi : P.info? e = some i) (hz : i.zero = some (.int .u8 0)) (hsize : i.size = 1) (hby : i.bytes = 1)
    (v : Value) (xs : List UInt8) (hs : a.eval s = v) (hown : OwnB e w v xs) (A : Option Addr) (c : Nat) (bs : List UInt8) (hx : a.eval x = .slice A bs.length c) (hr : Rd D w A bs) (hlen : xs.length + bs.length ≤ 140737488355328)
    (h : ∀ v' w', OwnB e w' v' (xs ++ bs) → Chg (fun k => some k = v.ownBlock) w w' → (v'.ownBlock = v.ownBlock ∨ v'.ownBlock = some w.heap.size) → wpList P ops Q rest (a.put o.dst v') w') : wpList P ops Q (o :: rest) a w :=
  wpList_plain hgd fun _ hK => wp_append_bytes w s x t ho e i ht hi hz hsize hby v xs hs hown A c bs hx hr hlen fun v' w' h2 h3 h4 => hK _ _ (h v' w' h2 h3 h4)

theorem step_append_bytes {P : Program} {D : Nat → Prop} (w : World) {ops : Array Oper} {o : Oper} {a : Act} {K : Act → World → Prop} {Q : Exit → Act → World → Prop} {E : Prop} (hgd : o.guard = none) (s x : Operand) (t : TypeId)
    (ho : o.op = .call { callee := .builtin .append, args := #[s, x], argTypes := #[t, t] })
    (e : TypeId) (i : TypeInfo) (ht : P.underlying t = some (.slice e)) (hi : P.info? e = some i) (hz : i.zero = some (.int .u8 0)) (hsize : i.size = 1) (hby : i.bytes = 1)
    (v : Value) (xs : List UInt8) (hs : a.eval s = v) (hown : OwnB e w v xs) (A : Option Addr) (c : Nat) (bs : List UInt8) (hx : a.eval x = .slice A bs.length c) (hr : Rd D w A bs) (hlen : xs.length + bs.length ≤ 140737488355328)
    (h : ∀ v' w', OwnB e w' v' (xs ++ bs) → Chg (fun k => some k = v.ownBlock) w w' → (v'.ownBlock = v.ownBlock ∨ v'.ownBlock = some w.heap.size) → K (a.put o.dst v') w') :
    if Region.wanted o (yielded ops a.tmps) = true then Oper.wp P o a w K Q else E := by
  have hw : Region.wanted o (yielded ops a.tmps) = true := by simp [Region.wanted, hgd]
  rw [if_pos hw]
  exact wp_append_bytes w s x t ho e i ht hi hz hsize hby v xs hs hown A c bs hx hr hlen h

end Go.Proofs.Ythgfkepflpdalaa
