import Derived.Test.YtjmbealiinecjaaIBox
import Derived.Lib.SlBytesConst
namespace Go.Proofs.Ytjmbealiinecjaa
open Go.RowKit

theorem ringZ_at : ∀ (n j : Nat), j < n → (ringZ n)[j * 2]? = some (.slice none 0 0) ∧ (ringZ n)[j * 2 + 1]? = some (.bool false)
  | 0, _, h => absurd h (by omega)
  | n + 1, 0, _ => ⟨rfl, rfl⟩
  | n + 1, j + 1, h => by
    have ih := ringZ_at n j (by omega)
    simp only [ringZ]
    rw [show (j + 1) * 2 = j * 2 + 2 by omega]
    exact ih

theorem new_ibox (w : World) (q : Int) (h1 : 1 ≤ q) (h2 : q ≤ 64) : IBox (w.alloc (.cells (boxCells q 1) 51)) w.heap.size q 1 (fun _ => none) := by
  have hc : cnt (fun _ => none) = 0 := by kernel_rfl
  refine ⟨⟨⟨boxCells q 1, heap_alloc_new w _, boxCells_size q 1, by simp [boxCells], by simp [boxCells], by simp [boxCells, hc], fun j hj => ?_⟩, (fun j hj v bs h => by cases h), (fun i j _ _ _ v bs v' bs' h => by cases h)⟩, ⟨h1, h2, by omega, fun s hs => ?_, rfl⟩⟩
  · have := ringZ_at 64 j hj
    unfold boxCells
    simp only [List.getElem?_toArray, slotV, Option.isSome_none]
    rw [show 3 + j * 2 = j * 2 + 1 + 1 + 1 by omega, show j * 2 + 1 + 1 + 1 + 1 = j * 2 + 1 + 1 + 1 + 1 from rfl]
    simp only [List.getElem?_cons_succ]
    exact this
  · unfold held at hs
    split at hs <;> simp at hs

/-- A row made of a constant. -/
theorem rd_const (w : World) (bs : List UInt8) (fr : Nat × Nat) : Rd (fun k => k = w.heap.size) (w.alloc (.cells (bcs bs).toArray 5 fr)) (some ⟨w.heap.size, 0, none⟩) bs := fun _ =>
  ⟨_, rfl, rfl, fun j u hu => by
    rw [Addr.add_lit, Nat.zero_add, cell_of_row _ w.heap.size j _ 5 fr (heap_alloc_new w _)]
    simpa using hu⟩

theorem mark_const (w : World) (C : Array Value) (n c g : Nat) (h : g = w.heap.size) :
    (convert 31 31 (.slice (some ⟨g, 0, none⟩) n c)).run Try.prog (w.alloc (.cells C 5)) = .ok (.slice (some ⟨g, 0, none⟩) n c) (w.alloc (.cells C 5 (C.size, C.size + 1))) := by
  subst h
  exact Lib.run_convert_bytes_const (P := Try.prog) w 31 5 C n c Try.underlying31 Try.underlying5

theorem held_nil (nx s : Int) : held nx (fun _ => none) s = none := by
  unfold held; split <;> rfl

set_option maxRecDepth 100000 in
set_option maxHeartbeats 800000 in
theorem two_any (w : World) :
    Calls Try.prog 25 #[] w fun e w' => ∃ f, e = .returned (.pointer (some ⟨w.heap.size, 0, none⟩)) ∧ IBox w' w.heap.size 2 1 f ∧ (∃ v, held 1 f 2 = some (v, [98])) ∧ cnt f = 1 ∧ Chg (fun _ => False) w w' := by
  have kc := mark_const
  have hI := (new_ibox w 2 (by omega) (by omega)).new_ ((Chg.refl _ _).alloc (.cells (bcs [98]).toArray 5 (1, 2)))
  have hR := rd_const (w.alloc (.cells (boxCells 2 1) 51)) [98] (1, 2)
  have hk : Chg (fun _ => False) w ((w.alloc (.cells (boxCells 2 1) 51)).alloc (.cells (bcs [98]).toArray 5 (1, 2))) := ((Chg.refl _ _).alloc _).alloc _
  have c1 := take_new hI (by omega) 2 (by omega) (by omega) (by kernel_rfl) (by omega) (A := some ⟨w.heap.size + 1, 0, none⟩) (c := 1) (by simpa using hR) (by simp)
  have C1 := Lib.hid c1
  clear c1
  go_enter Try.func25, Try.ntmps25
  go_wp2_with (first | (go_at_call 10; refine (new_ok 2 _ (by omega) (by omega)).mono ?_; rintro e w' ⟨rfl, rfl⟩) | fail)
  refine C1.out.mono ?_
  rintro e w1 ⟨vo, told, nx', f', rfl, T⟩
  have ht : told = [] := by
    rcases told with _ | ⟨x, l⟩
    · rfl
    · rcases T.tell 0 x rfl with ⟨h1, _⟩ | ⟨_, h2⟩
      · omega
      · rw [held_nil] at h2; cases h2
  subst ht
  have hn := T.nxt
  simp at hn
  subst hn
  have hd2 : held 1 f' 2 ≠ none := by
    have := (T.has 2).2 (.inl rfl)
    intro h; rw [h] at this; simp at this
  obtain ⟨x, hx⟩ := Option.ne_none_iff_exists'.1 hd2
  have hxb : x.2 = [98] := by
    rcases (T.kept 2 x hx).2 with h | h
    · exact h.2
    · exact absurd rfl h.1
  have hI1 := T.ibox
  obtain ⟨A1, c1, rfl, hc1, hm1⟩ := own_shape T.row
  have hh2 : hasB 2 1 f' 2 = true := by rw [hI1.win.has (by omega), hx]; rfl
  have hct : cnt f' = 1 := by
    have := T.count
    have h0 : cnt (fun _ => none) = 0 := by kernel_rfl
    simp [h0] at this
    exact this
  have HX := Lib.hid hx
  have HT := Lib.hid T
  have HC := Lib.hid hct
  clear hx hd2 T hct
  simp only [List.length_nil]
  have hcT := HT.out.chg
  go_wp2_with fail
  have hI2 := hI1.new_ ((Chg.refl _ _).alloc (.cells #[Value.int IntKind.u8 99] 5 (1, 2)))
  refine (take_old hI2 2 (by omega) (by omega) hh2 _).mono ?_
  rintro e w2 ⟨rfl, hI3, k3⟩
  go_wp2_with fail
  have hI4 := hI3.new_ ((Chg.refl _ _).alloc (.cells #[Value.int IntKind.u8 100] 5 (1, 2)))
  refine (take_far hI4 3 (by omega) (by omega) (by omega) _).mono ?_
  rintro e w3 ⟨rfl, hI5, k5⟩
  go_wp2_with (first | (go_at_call 18; refine (hI5.held_).mono ?_; rintro e w' ⟨rfl, rfl⟩; rw [HC.out]) | (go_at_call 17; refine (hI5.next_).mono ?_; rintro e w' ⟨rfl, rfl⟩))
  go_ret
  refine ⟨f', rfl, hI5, ⟨x.1, by rw [HX.out, ← hxb]⟩, HC.out, ?_⟩
  have t1 : Chg (fun _ => False) w w1 := hk.trans hcT (fun k hlt h => by subst h; exact absurd hlt (by omega))
  have t2 : Chg (fun _ => False) w w2 := (t1.alloc _).trans k3 (fun _ _ h => h)
  exact (t2.alloc _).trans k5 (fun _ _ h => h)

theorem RdV.chg {D S : Nat → Prop} {w w' : World} {v : Value} {bs : List UInt8} (h : RdV D w v bs) (hw : Chg S w w') (hd : ∀ k, D k → ¬ S k) : RdV D w' v bs := by
  obtain ⟨A, c, e, hc, hr⟩ := h
  exact ⟨A, c, e, hc, RdC.chg hr hw hd⟩
theorem RdV.mono {D D' : Nat → Prop} {w : World} {v : Value} {bs : List UInt8} (h : RdV D w v bs) (hd : ∀ k, D k → D' k) : RdV D' w v bs := by
  obtain ⟨A, c, e, hc, hr⟩ := h
  exact ⟨A, c, e, hc, RdC.mono hr hd⟩
theorem RdL.chg {D S : Nat → Prop} {w w' : World} {A : Option Addr} {bss : List (List UInt8)} (h : RdL D w A bss) (hw : Chg S w w') (hd : ∀ k, D k → ¬ S k) : RdL D w' A bss := by
  obtain ⟨vs, hl, hr, hv⟩ := h
  exact ⟨vs, hl, hr.chg hw hd, fun i bs v h1 h2 => (hv i bs v h1 h2).chg hw hd⟩
theorem RdL.new_ {D : Nat → Prop} {w w' : World} {A : Option Addr} {bss : List (List UInt8)} (h : RdL D w A bss) (hw : Chg (fun _ => False) w w') : RdL D w' A bss := h.chg hw fun _ _ h => h

theorem rdc_own {w : World} {base e : Nat} {A : Option Addr} {n c : Nat} {xs : List Value} (h : w.ownsRow base e 1 (.slice A n c) n xs) : RdC (fun _ => True) w A xs := fun hn => by
  have hl : xs.length = n := by have := h.1; omega
  obtain ⟨g, cap, hv, _, _⟩ := h.form (by omega)
  injection hv with hA _ _
  subst hA
  exact ⟨_, rfl, trivial, h.cells (g := g) rfl⟩

theorem rdl_told {w : World} {A : Option Addr} {n c : Nat} {told : List (Value × List UInt8)} (hr : w.ownsRow 0 31 1 (.slice A n c) n (told.map (·.1))) (ho : ∀ (k : Nat) (x : Value × List UInt8), told[k]? = some x → OwnB 5 w x.1 x.2) :
    RdL (fun _ => True) w A (told.map (·.2)) := by
  refine ⟨told.map (·.1), by simp, rdc_own hr, fun i bs v h1 h2 => ?_⟩
  simp only [List.getElem?_map, Option.map_eq_some_iff] at h1 h2
  obtain ⟨x, hx, rfl⟩ := h1
  obtain ⟨y, hy, rfl⟩ := h2
  rw [hx] at hy
  injection hy with hy
  subst hy
  exact (ho i x hx).rd.mono fun _ _ => trivial

/-- A row of two slices. -/
theorem rdl_two {w : World} {g g1 g2 c1 c2 : Nat} {b1 b2 : List UInt8} (hb : Blk w g 31 #[.slice (some ⟨g1, 0, none⟩) b1.length c1, .slice (some ⟨g2, 0, none⟩) b2.length c2]) (h1 : Rd (fun _ => True) w (some ⟨g1, 0, none⟩) b1) (h2 : Rd (fun _ => True) w (some ⟨g2, 0, none⟩) b2)
    (hc1 : b1.length ≤ c1) (hc2 : b2.length ≤ c2) : RdL (fun _ => True) w (some ⟨g, 0, none⟩) [b1, b2] := by
  refine ⟨[.slice (some ⟨g1, 0, none⟩) b1.length c1, .slice (some ⟨g2, 0, none⟩) b2.length c2], rfl, fun _ => ⟨_, rfl, trivial, fun j u hu => ?_⟩, fun i bs v hb hv => ?_⟩
  · rw [Addr.add_lit, Nat.zero_add, hb.cell j]
    simpa using hu
  · match i, hb, hv with
    | 0, hb, hv =>
      simp only [List.getElem?_cons_zero, Option.some.injEq] at hb hv
      subst hb; subst hv
      exact ⟨_, _, rfl, hc1, h1⟩
    | 1, hb, hv =>
      simp only [List.getElem?_cons_succ, List.getElem?_cons_zero, Option.some.injEq] at hb hv
      subst hb; subst hv
      exact ⟨_, _, rfl, hc2, h2⟩
    | i + 2, hb, hv => simp at hb

theorem lit_two (w : World) (b1 b2 : List UInt8) (fr1 fr2 : Nat × Nat) :
    RdL (fun _ => True) (((w.alloc (.cells (bcs b1).toArray 5 fr1)).alloc (.cells (bcs b2).toArray 5 fr2)).alloc (.cells #[.slice (some ⟨w.heap.size, 0, none⟩) b1.length b1.length, .slice (some ⟨w.heap.size + 1, 0, none⟩) b2.length b2.length] 31))
      (some ⟨w.heap.size + 1 + 1, 0, none⟩) [b1, b2] := by
  have e1 : (w.alloc (.cells (bcs b1).toArray 5 fr1)).heap.size = w.heap.size + 1 := by simp
  have e2 : ((w.alloc (.cells (bcs b1).toArray 5 fr1)).alloc (.cells (bcs b2).toArray 5 fr2)).heap.size = w.heap.size + 1 + 1 := by simp
  refine rdl_two (g1 := w.heap.size) (g2 := w.heap.size + 1) (c1 := b1.length) (c2 := b2.length) ?_ ?_ ?_ (Nat.le_refl _) (Nat.le_refl _)
  · have := Blk.new ((w.alloc (.cells (bcs b1).toArray 5 fr1)).alloc (.cells (bcs b2).toArray 5 fr2)) 31 #[.slice (some ⟨w.heap.size, 0, none⟩) b1.length b1.length, .slice (some ⟨w.heap.size + 1, 0, none⟩) b2.length b2.length]
    rw [e2] at this
    exact this
  · exact ((rd_const w b1 fr1).mono fun _ _ => trivial).chg (S := fun _ => False) (((Chg.refl _ _).alloc _).alloc _) (fun _ _ h => h)
  · have := rd_const (w.alloc (.cells (bcs b1).toArray 5 fr1)) b2 fr2
    rw [e1] at this
    exact (this.mono fun _ _ => trivial).chg (S := fun _ => False) ((Chg.refl _ _).alloc _) (fun _ _ h => h)

theorem awake_told {w w' : World} {X : Nat} {f f' : Ring} {v vo : Value} {told : List (Value × List UInt8)} {nx' : Int} (hI : IBox w X 2 1 f) (h2 : held 1 f 2 = some (v, [98])) (T : Took w X 2 1 f 1 [97] w' vo told nx' f') :
    told.map (·.2) = [[97], [98]] ∧ nx' = 3 := by
  have hn := T.nxt
  have haw : held nx' f' nx' = none := by rw [held_in (by omega) (by omega)]; exact T.ibox.win.aw
  have h3 : told.length = 2 := by
    rcases Nat.lt_trichotomy told.length 2 with h | h | h
    · exfalso
      have hc : nx' = 1 ∨ nx' = 2 := by omega
      rcases hc with hc | hc
      · rcases (T.has 1).2 (.inl rfl) with h | h
        · omega
        · rw [hc] at haw h; rw [haw] at h; cases h
      · rcases (T.has 2).2 (.inr (.inr (by rw [h2]; rfl))) with h | h
        · omega
        · rw [hc] at haw h; rw [haw] at h; cases h
    · exact h
    · exfalso
      have hg := List.getElem?_eq_getElem h
      rcases T.tell _ _ hg with ⟨h4, _⟩ | ⟨_, h4⟩
      · omega
      · have := hI.win.win _ (by rw [h4]; rfl)
        omega
  refine ⟨?_, by omega⟩
  match told, h3, T.tell with
  | [x, y], _, ht =>
    have hx : x.2 = [97] := by
      rcases ht 0 x rfl with h | h
      · exact h.2
      · exact absurd rfl h.1
    have hy : y.2 = [98] := by
      rcases ht 1 y rfl with h | h
      · exact absurd h.1 (by omega)
      · have := h.2
        rw [show (1 : Int) + ((1 : Nat) : Int) = 2 by omega, h2] at this
        injection this with this
        rw [← this]
    simp [hx, hy]

set_option maxRecDepth 100000 in
set_option maxHeartbeats 800000 in
theorem awake_any (w : World) : Calls Try.prog 22 #[] w fun e w' => e = .returned (.bool true) ∧ Chg (fun _ => False) w w' := by
  have kc := mark_const
  go_enter Try.func22, Try.ntmps22
  go_wp2_with fail
  refine (two_any w).mono ?_
  rintro e w1 ⟨f, rfl, hI, ⟨v, h2⟩, _, k1⟩
  have H2 := Lib.hid h2
  clear h2
  go_wp2_with fail
  have hIa := hI.new_ ((Chg.refl _ _).alloc (.cells #[Value.int IntKind.u8 97] 5 (1, 2)))
  have hR := rd_const w1 [97] (1, 2)
  have hh : hasB 2 1 f 1 = false := by
    rw [hI.win.has (by omega), held_in (by omega) (by omega), hI.win.aw]; rfl
  refine (take_new hIa (by omega) 1 (by omega) (by omega) hh (by omega) (bs := [97]) (c := 1) hR (by simp)).mono ?_
  rintro e w2 ⟨vo, told, nx', f', rfl, T⟩
  obtain ⟨ht, hnx⟩ := awake_told hIa H2.out T
  subst hnx
  have hI2 := T.ibox
  have hL := T.own
  have hrow := T.row
  have k2 := T.chg
  have hlen : told.length = 2 := by have := congrArg List.length ht; simpa using this
  rw [hlen] at hrow
  obtain ⟨A1, c1, rfl, hc1, hm1⟩ := own_shape hrow
  have hRL := rdl_told hrow hL
  rw [ht] at hRL
  have HT := Lib.hid T
  have HL := Lib.hid hlen
  clear T ht hlen hh hL
  go_wp2_with fail
  have hLit := lit_two w2 [97] [98] (1, 2) (1, 2)
  refine (sameLists (xs := [[97], [98]]) (ys := [[97], [98]]) hc1 hm1 (hRL.new_ (((Chg.refl _ _).alloc _).alloc _ |>.alloc _)) hLit).mono ?_
  rintro e w4 ⟨rfl, n4, rfl⟩
  have hI4 := (hI2.new_ (((Chg.refl _ _).alloc (.cells #[Value.int IntKind.u8 97] 5 (1, 2))).alloc (.cells #[Value.int IntKind.u8 98] 5 (1, 2)) |>.alloc (.cells #[Value.slice (some ⟨w2.heap.size, 0, none⟩) 1 1, Value.slice (some ⟨w2.heap.size + 1, 0, none⟩) 1 1] 31))).drewN n4
  have eb : (([[97], [98]] : List (List UInt8)) == [[97], [98]]) = true := by decide
  rw [eb]
  go_wp2_with (go_at_call 17; refine hI4.next_.mono ?_; rintro e w' ⟨rfl, rfl⟩)
  go_ret
  refine ⟨rfl, ?_⟩
  have t2 : Chg (fun _ => False) w w2 := (k1.alloc _).trans k2 (fun k hlt h => by subst h; exact absurd hlt (by omega))
  exact (((t2.alloc _).alloc _).alloc _).drewN _
end Go.Proofs.Ytjmbealiinecjaa
