import Derived.Test.YtjmbealiinecjaaBox
import Derived.Test.YtjmbealiinecjaaApp
namespace Go.Proofs.Ytjmbealiinecjaa
open Go.RowKit

theorem Try.info31 : (Try.prog.info? 31).map (fun i => (i.zero, i.size, i.bytes)) = some (some (.slice none 0 0), 1, 24) := by kernel_rfl

theorem Blk.other {w : World} {k : Nat} {t : TypeId} {cs : Array Value} (h : Blk w k t cs) (h1 : t ≠ 51) (h2 : t ≠ 5) : Other w k := ⟨t, cs, h, h1, h2⟩
theorem own_other {w : World} {base : Nat} {e : TypeId} {size n : Nat} {v : Value} {xs : List Value} (h : w.ownsRow base e size v n xs) (h1 : e ≠ 51) (h2 : e ≠ 5) {k : Nat} (hk : some k = v.ownBlock) : Other w k := by
  rcases h.2 with ⟨rfl, _⟩ | ⟨g, cap, cur, rfl, _, hh, _⟩
  · simp [Value.ownBlock] at hk
  · have : k = g := by simpa [Value.ownBlock] using hk
    subst this
    exact ⟨_, _, hh, h1, h2⟩

/-- What 'tell' has written into the list, ahead of the inbox's own fields. -/
def Laid (w : World) (X P O : Nat) (sz nx hd : Int) (f : Nat → Option (Value × List UInt8)) (vo : Value) (outs : List Value) (v : Value) (w' : World) : Prop :=
  Box w' X sz nx hd f ∧ Blk w' P 24 #[.pointer (some ⟨X, 0, none⟩)] ∧ ∃ vo', Blk w' O 35 #[vo'] ∧ w'.ownsRow 0 31 1 vo' (outs ++ [v]).length (outs ++ [v]) ∧
    (vo'.ownBlock = vo.ownBlock ∨ ∃ g, vo'.ownBlock = some g ∧ w.heap.size ≤ g) ∧ Chg (fun k => k = X ∨ k = O ∨ some k = vo.ownBlock) w w'

theorem laid_of {w w1 : World} {X P O g1 cap1 nq : Nat} {o : Obj} {sz nx hd : Int} {f : Nat → Option (Value × List UInt8)} {v vo : Value} {outs : List Value} (h : Box w X sz nx hd f)
    (hP : Blk w P 24 #[.pointer (some ⟨X, 0, none⟩)]) (hO : Blk w O 35 #[vo]) (ho : w.ownsRow 0 31 1 vo outs.length outs)
    (ho1 : w1.ownsRow 0 31 1 (.slice (some ⟨g1, 0, none⟩) (outs.length + 1) cap1) (outs.length + 1) (outs ++ [v]))
    (hg1 : ((w.drewN nq).alloc o).grownBy w1 vo.ownBlock)
    (ha1 : (Value.slice (some ⟨g1, 0, none⟩) (outs.length + 1) cap1).ownBlock = vo.ownBlock ∨ (Value.slice (some ⟨g1, 0, none⟩) (outs.length + 1) cap1).ownBlock = some ((w.drewN nq).alloc o).heap.size) :
    Laid w X P O sz nx hd f vo outs v (w1.setCell ⟨O, 0, none⟩ (.slice (some ⟨g1, 0, none⟩) (outs.length + 1) cap1)) := by
  have hO1 : Blk w1 O 35 #[vo] := ((hO.drewN _).alloc _).grown hg1 (own_blk_ne ho hO (by decide))
  have k1 : Chg (fun k => some k = vo.ownBlock) w w1 := (((Chg.refl _ w).drewN _).alloc _).grown hg1 fun k hk => .inr hk.symm
  have hB1 := h.chg k1 fun k _ hk => own_other ho (by decide) (by decide) hk
  have hP1 := hP.chg k1 (own_blk_ne ho hP (by decide))
  have hXO : O ≠ X := (h.ne_other (hO.other (by decide) (by decide))).symm
  have hPO : P ≠ O := hP.ne_ hO (by decide)
  have hg1O : some O ≠ (Value.slice (some ⟨g1, 0, none⟩) (outs.length + 1) cap1).ownBlock := own_blk_ne ho1 hO1 (by decide)
  refine ⟨hB1.keep (Below.heap_setCell _ _ _ _ hXO.symm) fun j hj' v bs hf g hg => Below.heap_setCell _ _ _ _ (by
      rintro rfl
      exact (hB1.own j hj' v bs hf).other (hO1.other (by decide) (by decide)) hg), hP1.far hPO _, _, hO1.set_ 0 _, by rw [List.length_append]; exact ownsRow_setCell_other ho1 (Ne.symm hg1O) _, ?_, (k1.mono fun k _ hk => .inr (.inr hk)).setCell (.inr (.inr (.inl rfl))) _⟩
  rcases ha1 with h1 | h1
  · exact .inl h1
  · exact .inr ⟨_, h1, by simp⟩

/-- What 'tell' leaves when a body's turn has come. -/
def Told (w : World) (X P O : Nat) (sz nx hd : Int) (f : Nat → Option (Value × List UInt8)) (vo : Value) (outs : List Value) (v : Value) (w' : World) : Prop :=
  Laid w X P O sz nx hd f vo outs v w'

set_option maxHeartbeats 400000 in
theorem tell_yes {w : World} {X P O : Nat} {sz nx hd : Int} {f : Nat → Option (Value × List UInt8)} {v vo : Value} {bs : List UInt8} {outs : List Value} (h : Box w X sz nx hd f) (h3 : 1 ≤ nx) (h4 : nx ≤ 4294967296) (h5 : 1 ≤ hd) (h6 : hd ≤ 64)
    (hP : Blk w P 24 #[.pointer (some ⟨X, 0, none⟩)]) (hO : Blk w O 35 #[vo]) (ho : w.ownsRow 0 31 1 vo outs.length outs) (hol : outs.length ≤ 64)
    (hf : f (nx % 64).toNat = some (v, bs)) :
    Calls Try.prog 28 #[.pointer (some ⟨P, 0, none⟩), .pointer (some ⟨O, 0, none⟩)] w fun e w' => e = .returned (.bool true) ∧ Laid w X P O sz (nx + 1) (hd - 1) (put f (nx % 64).toNat none) vo outs v w' := by
  have hj : (nx % 64).toNat < 64 := by omega
  have c0 := cell_of_one hP
  have c1 := cell_of_one hO
  have c1' : ∀ n o, ((w.drewN n).alloc o).cell? ⟨O, 0, none⟩ = some vo := fun n o => cell_of_one ((hO.drewN n).alloc o)
  have cn := h.nx_
  have ci := h.is_ _ hj
  have cv := h.slot _ hj
  rw [hf] at ci cv
  simp only [slotV, Option.isSome_some] at ci cv
  have hv1 := (h.own _ hj v bs hf).one
  obtain ⟨A, c, rfl, hbc, hbm⟩ := (h.own _ hj v bs hf).shape
  obtain ⟨i0, hi0, hz0, hz1, hz2⟩ := info_parts Try.info31
  have HF := Lib.hid hf
  clear hf
  go_enter Try.func28, Try.ntmps28
  go_wp2_with fail
  go_quiet (fail)
  go_wp2_with fail
  go_cut [] (fun w2 => Laid w X P O sz nx hd f vo outs (.slice A bs.length c) w2)
  case first =>
    go_region_law (first | (refine step_append_any _ rfl (.tmp 18) (.tmp 23) 35 rfl 0 31 i0 (.slice none 0 0) 1 24 Try.underlying35 hi0 hz0 hz1 hz2 rfl (by decide) vo outs.length outs rfl (World.ownsRow.alloc (w := w.drewN _) ho _) (some ⟨w.heap.size, 0, none⟩) 1 1 [.slice A bs.length c] rfl rfl (RdC.one (w := w.drewN _) _ 31) (by intro u hu; simp at hu; subst hu; exact hv1) (by unfold maxLen; omega) (by omega) (Nat.zero_le _) ?_; intro v1 w1 ho1 hg1 ha1; obtain ⟨g1, cap1, rfl, hb1, hl1⟩ := ho1.form (by omega); have hO1 := ((hO.drewN _).alloc _).grown hg1 (own_blk_ne ho hO (by decide)); have c11 := cell_of_one hO1; have f11 := hO1.frozen 0))
    all_goals (go_wp2_with fail; go_meet; exact laid_of h hP hO ho ho1 hg1 ha1)
  case rest =>
    obtain ⟨hB2, hP2, vo', hO2, ho2, ha2, k2⟩ := hcut
    have q0 := cell_of_one hP2
    have qn := hB2.nx_
    have qh := hB2.hd_
    have qv := hB2.slot _ hj
    have qi := hB2.is_ _ hj
    rw [HF.out] at qv qi
    simp only [slotV, Option.isSome_some] at qv qi
    have fr := hB2.free
    go_wp2
    go_ret
    refine ⟨rfl, ((hB2.setSlot hj none (fun _ _ h => by cases h)).setNx _).setHd _, ?_, vo', ?_, ?_, ha2, ?_⟩
    · have hX := hB2.ne_other (hP2.other (by decide) (by decide))
      exact (((hP2.far (Ne.symm hX) _).far (Ne.symm hX) _).far (Ne.symm hX) _).far (Ne.symm hX) _
    · have hX := hB2.ne_other (hO2.other (by decide) (by decide))
      exact (((hO2.far (Ne.symm hX) _).far (Ne.symm hX) _).far (Ne.symm hX) _).far (Ne.symm hX) _
    · have hX : vo'.ownBlock ≠ some X := fun he => hB2.ne_other (own_other ho2 (by decide) (by decide) he.symm) rfl
      exact ownsRow_setCell_other (ownsRow_setCell_other (ownsRow_setCell_other (ownsRow_setCell_other ho2 hX _) hX _) hX _) hX _
    · exact (((k2.setCell (.inr (.inl rfl)) _).setCell (.inr (.inl rfl)) _).setCell (.inr (.inl rfl)) _).setCell (.inr (.inl rfl)) _

set_option maxHeartbeats 400000 in
theorem tell_no {w : World} {X P O : Nat} {sz nx hd : Int} {f : Nat → Option (Value × List UInt8)} (h : Box w X sz nx hd f) (h3 : 1 ≤ nx) (h4 : nx ≤ 4294967296)
    (hP : Blk w P 24 #[.pointer (some ⟨X, 0, none⟩)]) (hf : f (nx % 64).toNat = none) :
    Calls Try.prog 28 #[.pointer (some ⟨P, 0, none⟩), .pointer (some ⟨O, 0, none⟩)] w fun e w' => e = .returned (.bool false) ∧ ∃ n, w' = w.drewN n := by
  have hj : (nx % 64).toNat < 64 := by omega
  have c0 := cell_of_one hP
  have cn := h.nx_
  have ci := h.is_ _ hj
  rw [hf] at ci
  simp only [Option.isSome_none] at ci
  clear hf
  go_enter Try.func28, Try.ntmps28
  go_wp2_with fail
  go_quiet (fail)
  go_wp2
  go_ret
  exact ⟨rfl, _, rfl⟩
end Go.Proofs.Ytjmbealiinecjaa
