import Derived.Test.YtjmbealiinecjaaTell
namespace Go.Proofs.Ytjmbealiinecjaa
open Go.RowKit

abbrev Ring := Nat → Option (Value × List UInt8)

/-- How many slots are held. -/
def cnt (f : Ring) : Nat := ((List.range 64).filter fun j => (f j).isSome).length

theorem cnt_le (f : Ring) : cnt f ≤ 64 := by
  unfold cnt
  have := List.length_filter_le (fun j => (f j).isSome) (List.range 64)
  simpa using this

theorem cnt_pos {f : Ring} {j : Nat} (hj : j < 64) (h : (f j).isSome = true) : 1 ≤ cnt f := by
  unfold cnt
  apply List.length_pos_of_mem (a := j)
  simp [hj, h]

theorem filter_put_length {f : Ring} {j : Nat} (x : Option (Value × List UInt8)) : ∀ l : List Nat, l.Nodup → j ∈ l →
    (l.filter fun i => (put f j x i).isSome).length + (if (f j).isSome then 1 else 0) = (l.filter fun i => (f i).isSome).length + (if x.isSome then 1 else 0)
  | [], _, h => by cases h
  | a :: l, hn, h => by
    have hn' := List.nodup_cons.1 hn
    by_cases ha : a = j
    · subst ha
      have hsame : (l.filter fun i => (put f a x i).isSome) = l.filter fun i => (f i).isSome := by
        apply List.filter_congr
        intro i hi
        have : i ≠ a := fun e => hn'.1 (e ▸ hi)
        simp [put, this]
      simp only [List.filter_cons, put, if_true]
      rw [show (List.filter (fun i => (if i = a then x else f i).isSome) l) = l.filter fun i => (f i).isSome from hsame]
      by_cases h1 : x.isSome = true <;> by_cases h2 : (f a).isSome = true <;> simp [h1, h2]
    · have hj : j ∈ l := by
        rcases List.mem_cons.1 h with h | h
        · exact absurd h.symm ha
        · exact h
      have ih := filter_put_length (f := f) x l hn'.2 hj
      have hp : put f j x a = f a := by simp [put, ha]
      simp only [List.filter_cons, hp]
      by_cases h1 : (f a).isSome = true
      · simp only [h1, if_true, List.length_cons]; omega
      · simp only [h1]; exact ih

theorem cnt_put {f : Ring} {j : Nat} (hj : j < 64) (x : Option (Value × List UInt8)) : cnt (put f j x) + (if (f j).isSome then 1 else 0) = cnt f + (if x.isSome then 1 else 0) :=
  filter_put_length x (List.range 64) List.nodup_range (by simpa using hj)

/-- Bodies are told as long as the awaited number's slot is held. -/
def run : Nat → Int → Ring → List (Value × List UInt8) × Int × Ring
  | 0, nx, f => ([], nx, f)
  | n + 1, nx, f => match f (nx % 64).toNat with
    | none => ([], nx, f)
    | some x => ((x :: (run n (nx + 1) (put f (nx % 64).toNat none)).1), (run n (nx + 1) (put f (nx % 64).toNat none)).2)

theorem run_none {f : Ring} {nx : Int} (n : Nat) (h : f (nx % 64).toNat = none) : run n nx f = ([], nx, f) := by
  cases n with
  | zero => rfl
  | succ n => simp [run, h]

theorem run_some {f : Ring} {nx : Int} (n : Nat) {x : Value × List UInt8} (h : f (nx % 64).toNat = some x) :
    run (n + 1) nx f = ((x :: (run n (nx + 1) (put f (nx % 64).toNat none)).1), (run n (nx + 1) (put f (nx % 64).toNat none)).2) := by
  simp [run, h]

theorem run_length (n : Nat) : ∀ (nx : Int) (f : Ring), (run n nx f).1.length ≤ n := by
  induction n with
  | zero => intro nx f; simp [run]
  | succ n ih =>
    intro nx f
    rcases hf : f (nx % 64).toNat with _ | x
    · rw [run_none _ hf]; simp
    · rw [run_some _ hf]; simpa using ih _ _


theorem Try.info5 : (Try.prog.info? 5).map (fun i => (i.zero, i.size, i.bytes)) = some (some (.int .u8 0), 1, 1) := by kernel_rfl

set_option maxHeartbeats 400000 in
theorem take_range {w : World} {X : Nat} {sz nx hd : Int} {f : Ring} (h : Box w X sz nx hd f) (h1 : 1 ≤ sz) (q : Int) (hq : q < 1 ∨ 2147483647 ≤ q) (v : Value) :
    Calls Try.prog 13 #[.pointer (some ⟨X, 0, none⟩), .int .i64 q, v] w fun e w' => e = .returned (.tuple #[.slice none 0 0, .int .i64 5]) ∧ Chg (fun _ => False) w w' := by
  have c0 := h.sz_
  have c0' : ∀ o, (w.alloc o).cell? ⟨X, 0, none⟩ = some (.int .i64 sz) := fun o => (h.chg ((Chg.refl (fun _ => False) w).alloc o) (fun _ _ h => h.elim)).sz_
  have hz : (sz == 0) = false := by simp; omega
  by_cases hq1 : q < 1
  · go_enter Try.func13, Try.ntmps13
    go_wp2_with (go_at_call 26; refine (none_some _ _ _ (c0' _)).mono ?_; rintro e w' ⟨rfl, rfl⟩)
    go_ret2
    exact ⟨rfl, (Chg.refl _ _).alloc _⟩
  · have hq2 : 2147483647 ≤ q := by omega
    clear hq
    go_enter Try.func13, Try.ntmps13
    go_wp2_with (go_at_call 26; refine (none_some _ _ _ (c0' _)).mono ?_; rintro e w' ⟨rfl, rfl⟩)
    go_ret2
    exact ⟨rfl, (Chg.refl _ _).alloc _⟩


theorem Box.alloc {w : World} {X : Nat} {sz nx hd : Int} {f : Ring} (h : Box w X sz nx hd f) (o : Obj) : Box (w.alloc o) X sz nx hd f := h.chg ((Chg.refl (fun _ => False) w).alloc o) (fun _ _ h => h.elim)

set_option maxHeartbeats 400000 in
theorem take_there {w : World} {X : Nat} {sz nx hd : Int} {f : Ring} (h : Box w X sz nx hd f) (h1 : 1 ≤ sz) (h3 : 1 ≤ nx) (q : Int) (hq : 1 ≤ q) (hq' : q < 2147483647) (v : Value) (hh : hasB sz nx f q = true) :
    Calls Try.prog 13 #[.pointer (some ⟨X, 0, none⟩), .int .i64 q, v] w fun e w' => e = .returned (.tuple #[.slice none 0 0, .int .i64 7]) ∧ Chg (fun _ => False) w w' := by
  have hA := h.alloc (.cells #[.pointer (some ⟨X, 0, none⟩)] 24)
  have c0 := hA.sz_
  have hz : (sz == 0) = false := by simp; omega
  have HH := Lib.hid hh
  clear hh
  go_enter Try.func13, Try.ntmps13
  go_wp2_with (first | (go_at_call 26; refine (none_some _ _ _ c0).mono ?_; rintro e w' ⟨rfl, rfl⟩) | (go_at_call 19; refine (has_any hA h1 h3 q (by omega)).mono ?_; rintro e w' ⟨rfl, n, rfl⟩; rw [HH.out]))
  go_ret2
  exact ⟨rfl, ((Chg.refl _ _).alloc _).drewN _⟩

set_option maxHeartbeats 400000 in
theorem take_full {w : World} {X : Nat} {sz nx hd : Int} {f : Ring} (h : Box w X sz nx hd f) (h1 : 1 ≤ sz) (h3 : 1 ≤ nx) (q : Int) (hq : 1 ≤ q) (hq' : q < 2147483647) (v : Value) (hn : nx ≤ q) (hs : sz ≤ q - nx) :
    Calls Try.prog 13 #[.pointer (some ⟨X, 0, none⟩), .int .i64 q, v] w fun e w' => e = .returned (.tuple #[.slice none 0 0, .int .i64 8]) ∧ Chg (fun _ => False) w w' := by
  have hA := h.alloc (.cells #[.pointer (some ⟨X, 0, none⟩)] 24)
  have c0 := hA.sz_

  have hP : Blk (w.alloc (.cells #[.pointer (some ⟨X, 0, none⟩)] 24)) w.heap.size 24 #[.pointer (some ⟨X, 0, none⟩)] := Blk.new _ _ _
  have cP := cell_of_one hP
  have hz : (sz == 0) = false := by simp; omega
  have HH := Lib.hid (show hasB sz nx f q = false by simp [hasB]; omega)
  have e1 : decide (q - nx < sz) = false := by simp; omega
  go_enter Try.func13, Try.ntmps13
  go_wp2_with (first | (go_at_call 26; refine (none_some _ _ _ c0).mono ?_; rintro e w' ⟨rfl, rfl⟩) | (go_at_call 19; refine (has_any hA h1 h3 q (by omega)).mono ?_; rintro e w' ⟨rfl, n, rfl⟩; rw [HH.out]) | (go_at_call 27; refine (ahead_hi _ _ _ _ _ (hA.drewN n).sz_ (hA.drewN n).nx_ hn (by omega) (by omega)).mono ?_; rintro e w' ⟨rfl, n', rfl⟩; rw [e1]))
  go_ret2
  exact ⟨rfl, ((Chg.refl _ _).alloc _).drewN _⟩


theorem slotV_ne (x : Option (Value × List UInt8)) (w : World) (h : ∀ v bs, x = some (v, bs) → OwnB 5 w v bs) : ∃ A n c, slotV x = .slice A n c := by
  rcases x with _ | ⟨v, bs⟩
  · exact ⟨_, _, _, rfl⟩
  · obtain ⟨A, c, rfl, _⟩ := (h v bs rfl).shape
    exact ⟨_, _, _, rfl⟩


/-- Two slots never share a block. -/
def Apart (f : Ring) : Prop := ∀ i j, i < 64 → j < 64 → i ≠ j → ∀ v bs v' bs', f i = some (v, bs) → f j = some (v', bs') → v.ownBlock = none ∨ v.ownBlock ≠ v'.ownBlock

/-- At the head of the telling loop: what is told so far, what the rest of the telling gives. -/
def TellRel (W : World) (X P O : Nat) (sz nx0 : Int) (f1 : Ring) (k : Nat) (wr : World) : Prop :=
  ∃ (outs : List (Value × List UInt8)) (nx : Int) (f : Ring) (vo : Value), k = cnt f ∧ Box wr X sz nx (cnt f) f ∧ Blk wr P 24 #[.pointer (some ⟨X, 0, none⟩)] ∧ Blk wr O 35 #[vo] ∧
    wr.ownsRow 0 31 1 vo outs.length (outs.map (·.1)) ∧ (∀ g, vo.ownBlock = some g → W.heap.size ≤ g) ∧ run (cnt f1) nx0 f1 = (outs ++ (run (cnt f) nx f).1, (run (cnt f) nx f).2) ∧
    1 ≤ nx ∧ nx + cnt f ≤ nx0 + cnt f1 ∧ outs.length + cnt f ≤ 64 ∧ Chg (fun k => k = X) W wr ∧ W.heap.size ≤ O ∧ ∀ j, j < 64 → ∀ v bs, f1 j = some (v, bs) → OwnB 5 wr v bs

theorem tellRel_next {W wr w' : World} {X P O : Nat} {sz nx0 nx : Int} {f1 f : Ring} {outs : List (Value × List UInt8)} {vo v : Value} {bs : List UInt8} (hP : Blk wr P 24 #[.pointer (some ⟨X, 0, none⟩)]) (hO : Blk wr O 35 #[vo])
    (ho : wr.ownsRow 0 31 1 vo outs.length (outs.map (·.1))) (hvo : ∀ g, vo.ownBlock = some g → W.heap.size ≤ g) (hrun : run (cnt f1) nx0 f1 = (outs ++ (run (cnt f) nx f).1, (run (cnt f) nx f).2))
    (h1 : 1 ≤ nx) (h2 : nx + cnt f ≤ nx0 + cnt f1) (h3 : outs.length + cnt f ≤ 64) (hc : Chg (fun k => k = X) W wr) (hWO : W.heap.size ≤ O) (hown : ∀ j, j < 64 → ∀ v bs, f1 j = some (v, bs) → OwnB 5 wr v bs)
    (hB : Box wr X sz nx (cnt f) f) (hf : f (nx % 64).toNat = some (v, bs)) (hl : Laid wr X P O sz (nx + 1) ((cnt f : Int) - 1) (put f (nx % 64).toNat none) vo (outs.map (·.1)) v w') :
    cnt (put f (nx % 64).toNat none) < cnt f ∧ TellRel W X P O sz nx0 f1 (cnt (put f (nx % 64).toNat none)) w' := by
  have hj : (nx % 64).toNat < 64 := by omega
  have hc1 := cnt_put (f := f) hj none
  rw [hf] at hc1
  simp only [Option.isSome_some, if_true, Option.isSome_none] at hc1
  have hc2 : cnt (put f (nx % 64).toNat none) + 1 = cnt f := by simpa using hc1
  obtain ⟨hB', hP', vo', hO', ho', hvo', hC'⟩ := hl
  refine ⟨by omega, outs ++ [(v, bs)], nx + 1, put f (nx % 64).toNat none, vo', rfl, ?_, hP', hO', ?_, ?_, ?_, by omega, by omega, by simp; omega, ?_, hWO, ?_⟩
  · have e : ((cnt f : Int) - 1) = (cnt (put f (nx % 64).toNat none) : Int) := by omega
    rw [← e]; exact hB'
  · simpa using ho'
  · intro g hg
    rcases hvo' with h | ⟨g', h, hle⟩
    · exact hvo g (h ▸ hg)
    · rw [hg] at h
      injection h with h
      have := hc.size
      omega
  · rw [hrun]
    have e : run (cnt f) nx f = (((v, bs) :: (run (cnt (put f (nx % 64).toNat none)) (nx + 1) (put f (nx % 64).toNat none)).1), (run (cnt (put f (nx % 64).toNat none)) (nx + 1) (put f (nx % 64).toNat none)).2) := by
      have := run_some (nx := nx) (cnt (put f (nx % 64).toNat none)) hf
      rw [hc2] at this
      exact this
    rw [e]
    simp
  · refine hc.trans hC' fun k hk hS => ?_
    rcases hS with h | h | h
    · exact h
    · subst h; omega
    · exact absurd (hvo k h.symm) (by omega)
  · intro j hj' v' bs' hf'
    have ho := hown j hj' v' bs' hf'
    refine ho.chg hC' fun g hg hS => ?_
    rcases hS with h | h | h
    · subst h
      obtain ⟨cs, hcs⟩ := ho.blk hg
      obtain ⟨cs', hcs', _⟩ := hB.cells
      exact Blk.ne_ hcs hcs' (by decide) rfl
    · exact ho.other (hO.other (by decide) (by decide)) (h ▸ hg)
    · exact ho.other (own_other ‹_› (by decide) (by decide) h) hg

/-- What a take that is let leaves. -/
def Taken (W : World) (X : Nat) (sz nx : Int) (f : Ring) (q : Int) (bs : List UInt8) (e : Ending) (w' : World) : Prop :=
  ∃ (v vo : Value) (f1 : Ring), f1 = put f (q % 64).toNat (some (v, bs)) ∧ e = .returned (.tuple #[vo, .int .i64 0]) ∧ w'.ownsRow 0 31 1 vo (run (cnt f1) nx f1).1.length ((run (cnt f1) nx f1).1.map (·.1)) ∧
    (∀ g, vo.ownBlock = some g → W.heap.size ≤ g) ∧ Box w' X sz (run (cnt f1) nx f1).2.1 (cnt (run (cnt f1) nx f1).2.2) (run (cnt f1) nx f1).2.2 ∧
    (∀ j, j < 64 → ∀ v bs, f1 j = some (v, bs) → OwnB 5 w' v bs) ∧ Apart f1 ∧ (∀ g, v.ownBlock = some g → W.heap.size ≤ g) ∧ Chg (fun k => k = X) W w'

set_option maxRecDepth 100000 in
set_option maxHeartbeats 400000 in
theorem take_ok {D : Nat → Prop} {w : World} {X : Nat} {sz nx : Int} {f : Ring} (h : Box w X sz nx (cnt f) f) (h1 : 1 ≤ sz) (hs64 : sz ≤ 64) (h3 : 1 ≤ nx) (h4 : nx ≤ 2147483647) (q : Int) (hq : 1 ≤ q) (hq' : q < 2147483647) (hn : nx ≤ q) (hs : q - nx < sz) (hf : f (q % 64).toNat = none)
    {A : Option Addr} {bs : List UInt8} {c : Nat} (hr : Rd D w A bs) (hlen : bs.length ≤ 140737488355328) :
    Calls Try.prog 13 #[.pointer (some ⟨X, 0, none⟩), .int .i64 q, .slice A bs.length c] w fun e w' => Taken w X sz nx f q bs e w' := by
  have hA := h.alloc (.cells #[.pointer (some ⟨X, 0, none⟩)] 24)
  have c0 := hA.sz_
  have hP : Blk (w.alloc (.cells #[.pointer (some ⟨X, 0, none⟩)] 24)) w.heap.size 24 #[.pointer (some ⟨X, 0, none⟩)] := Blk.new _ _ _
  have cP := cell_of_one hP
  have hz : (sz == 0) = false := by simp; omega
  have hj : (q % 64).toNat < 64 := by omega
  have HH := Lib.hid (show hasB sz nx f q = false by simp [hasB, hf]; omega)
  have e1 : decide (q - nx < sz) = true := by simpa using hs
  obtain ⟨i0, hi0, hz0, hz1, hz2⟩ := info_parts Try.info5
  have HF := Lib.hid hf
  clear hf
  go_enter Try.func13, Try.ntmps13
  have hPX : w.heap.size ≠ X := by have := h.lt; omega
  have hcl := cnt_le f
  go_wp2_with (first | (go_at_call 26; refine (none_some _ _ _ c0).mono ?_; rintro e w' ⟨rfl, rfl⟩) | (go_at_call 19; refine (has_any hA h1 h3 q (by omega)).mono ?_; rintro e w' ⟨rfl, n, rfl⟩; rw [HH.out]) | (go_at_call 27; refine (ahead_hi _ _ _ _ _ (hA.drewN n).sz_ (hA.drewN n).nx_ hn (by omega) (by omega)).mono ?_; rintro e w' ⟨rfl, n', rfl⟩; rw [e1]) | (at_builtin; refine wpList_append_bytes _ rfl (.const (.slice none 0 0)) (.tmp 38) 31 rfl 5 i0 Try.underlying31 hi0 hz0 hz1 hz2 (.slice none 0 0) [] rfl (.inl ⟨rfl, rfl⟩) A c bs rfl (hr.chg (S := fun _ => False) (((Chg.refl _ w).alloc _).drewN _) (fun _ _ h => h)) (by simpa using hlen) ?_; intro v1 w1 ho1 k1 ha1; simp only [List.nil_append] at ho1; obtain ⟨A1, c1, rfl, hc1, hm1⟩ := ho1.shape; have kk1 := Lib.hid k1; have hB1 := (hA.drewN (n + n')).chg k1 (fun k _ hk => by simp [Value.ownBlock] at hk); have hP1 := (hP.drewN (n + n')).chg k1 (by simp [Value.ownBlock]); have cP1 := cell_of_one hP1; have ch1 := hB1.hd_; have cv1 := hB1.slot _ hj; have ci1 := hB1.is_ _ hj; have fr1 := hB1.free; rw [HF.out] at cv1 ci1; simp only [slotV, Option.isSome_none] at cv1 ci1))
  have hap : ∀ i, i < 64 → ∀ v' bs', f i = some (v', bs') → (Value.slice A1 bs.length c1).ownBlock = none ∨ (Value.slice A1 bs.length c1).ownBlock ≠ v'.ownBlock := fun i hi v' bs' hf' => by
    rcases ha1 with he | he
    · exact .inl he
    · refine .inr fun h' => ?_
      have hlt := (h.own i hi v' bs' hf').ownlt (h' ▸ he)
      simp at hlt
      omega
  have hvb : ∀ g, (Value.slice A1 bs.length c1).ownBlock = some g → w.heap.size ≤ g := fun g hg => by
    rcases ha1 with he | he
    · rw [he] at hg; cases hg
    · rw [he] at hg
      injection hg with hg
      simp at hg
      omega
  have hB2 := (hB1.setSlot hj (some (.slice A1 bs.length c1, bs)) (fun v bs' he => by
    obtain ⟨rfl, rfl⟩ := Prod.mk.inj (Option.some.inj he)
    exact ⟨ho1, fun i hi hne v' bs' hf' => hap i hi v' bs' hf'⟩)).setHd ((cnt f : Int) + 1)
  have hcp := cnt_put (f := f) hj (some (.slice A1 bs.length c1, bs))
  rw [HF.out] at hcp
  simp only [Option.isSome_some, if_true, Option.isSome_none] at hcp
  have hcp' : cnt (put f (q % 64).toNat (some (.slice A1 bs.length c1, bs))) = cnt f + 1 := by simpa using hcp
  have kw1 : Chg (fun k => k = X) w w1 := ((((Chg.refl _ w).alloc _).drewN _).trans kk1.out (fun k _ hk => by simp [Value.ownBlock] at hk))
  have hB3o := (hB2.alloc (.cells #[Value.slice none 0 0] 35)).own
  have hB3 := (hB2.alloc (.cells #[Value.slice none 0 0] 35))
  rw [show ((cnt f : Int) + 1) = ((cnt (put f (q % 64).toNat (some (.slice A1 bs.length c1, bs))) : Nat) : Int) by omega] at hB3
  have HAp : Apart (put f (q % 64).toNat (some (.slice A1 bs.length c1, bs))) := hB2.apart
  have HCP := Lib.hid hcp'
  clear hcp hcp'
  have hcl2 := cnt_le (put f (q % 64).toNat (some (.slice A1 bs.length c1, bs)))
  have hsz1 := kw1.size
  go_loopg [] (cnt (put f (q % 64).toNat (some (.slice A1 bs.length c1, bs)))) (fun k wr => TellRel w X w.heap.size w1.heap.size sz nx (put f (q % 64).toNat (some (.slice A1 bs.length c1, bs))) k wr)
  case atStart =>
    refine ⟨[], nx, _, .slice none 0 0, rfl, ?_, ?_, ?_, World.ownsRow_nil _ _ _ _, (fun g hg => by simp [Value.ownBlock] at hg), rfl, h3, by omega, by simpa using cnt_le _, ?_, hsz1, hB3o⟩
    · have e : (cnt f : Int) + 1 = ((cnt (put f (q % 64).toNat (some (.slice A1 bs.length c1, bs))) : Nat) : Int) := by have := HCP.out; omega
      rw [e]; exact hB3
    · exact ((((hP1.far hPX _).far hPX _).far hPX _).alloc _)
    · have := Blk.new (((w1.setCell ⟨X, 3 + (q % 64).toNat * 2, none⟩ (Value.slice A1 bs.length c1)).setCell ⟨X, 3 + (q % 64).toNat * 2 + 1, none⟩ (Value.bool true)).setCell ⟨X, 2, none⟩ (Value.int IntKind.i64 ((cnt f : Int) + 1))) 35 #[Value.slice none 0 0]
      simpa [World.setCell] using this
    · exact ((((kw1.setCell (.inr rfl) _).setCell (.inr rfl) _).setCell (.inr rfl) _).alloc _)
  case round =>
    obtain ⟨outs, nx', f', vo, hgk, hBr, hPr, hOr, hor, hvo, hrun, hn1, hn2, hol, hcr, hWO, hown⟩ := hrel
    subst hgk
    have HR := Lib.hid hrun
    clear hrun
    rcases hf' : f' (nx' % 64).toNat with _ | ⟨v', bs'⟩
    · have ct := tell_no (O := w1.heap.size) hBr hn1 (by omega) hPr hf'
      have cO := cell_of_one hOr
      have HFr := Lib.hid hf'
      clear hf'
      go_wp2_with (go_at_call 28; refine ct.mono ?_; rintro e w' ⟨rfl, n2, rfl⟩)
      go_ret2
      have e3 := HR.out
      rw [run_none _ HFr.out] at e3
      refine ⟨.slice A1 bs.length c1, vo, _, rfl, rfl, ?_, hvo, ?_, hown, HAp, hvb, hcr.drewN _⟩
      · rw [e3]; simp only [List.append_nil]; exact hor
      · rw [e3]; exact hBr.drewN _
    · have hp := cnt_pos (f := f') (j := (nx' % 64).toNat) (by omega) (by rw [hf']; rfl)
      have ct := tell_yes (outs := outs.map (·.1)) hBr hn1 (by omega) (by omega) (by omega) hPr hOr (by simpa using hor) (by simp; omega) hf'
      have HFr := Lib.hid hf'
      clear hf'
      go_wp2_with (go_at_call 28; refine ct.mono ?_; rintro e w' ⟨rfl, hl⟩)
      have hnext := tellRel_next hPr hOr hor hvo HR.out hn1 hn2 hol hcr hWO hown hBr HFr.out hl
      go_roundg (cnt (put f' (nx' % 64).toNat none))
      case measure => exact hnext.1
      case rel => exact hnext.2

end Go.Proofs.Ytjmbealiinecjaa
