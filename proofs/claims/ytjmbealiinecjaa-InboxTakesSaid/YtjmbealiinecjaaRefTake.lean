/- The document's inbox takes a body: satchelref14.Inbox.Take. -/
import Derived.Test.YtjmbealiinecjaaRef
import Derived.Deep.CutBlock
namespace Go.Proofs.Ytjmbealiinecjaa
open Go.RowKit

theorem Try.info59 : (Try.prog.info? 59).map (fun i => (i.zero, i.size, i.bytes)) = some (some (.agg #[.int .i64 0, .slice none 0 0]), 2, 32) := by kernel_rfl

section
variable {B : Nat} {w : World} {Y : Nat} {sz nx : Int} {hs : List HeldR} {hv : Value}
theorem RBox.sz_ (h : RBox B w Y sz nx hs hv) : w.cell? ⟨Y, 0, none⟩ = some (.int .i64 sz) := by rw [h.blk.cell]; rfl
theorem RBox.nx_ (h : RBox B w Y sz nx hs hv) : w.cell? ⟨Y, 1, none⟩ = some (.int .i64 nx) := by rw [h.blk.cell]; rfl
theorem RBox.hv_ (h : RBox B w Y sz nx hs hv) : w.cell? ⟨Y, 2, none⟩ = some hv := by rw [h.blk.cell]; rfl
end

set_option maxHeartbeats 400000 in
theorem rtake_range {w : World} {Y : Nat} (q : Int) (hq : q < 1 ∨ 2147483647 ≤ q) (v : Value) :
    Calls Try.prog 14 #[.pointer (some ⟨Y, 0, none⟩), .int .i64 q, v] w fun e w' => e = .returned (.tuple #[.slice none 0 0, .int .i64 5]) ∧ w = w' := by
  by_cases h1 : q < 1
  · clear hq
    go_enter Try.func14, Try.ntmps14
    go_wp2_with fail
    go_ret2
    exact ⟨rfl, rfl⟩
  · have h2 : 2147483647 ≤ q := by omega
    clear hq
    go_enter Try.func14, Try.ntmps14
    go_wp2_with fail
    go_ret2
    exact ⟨rfl, rfl⟩

set_option maxHeartbeats 400000 in
theorem rtake_there {B : Nat} {w : World} {Y : Nat} {sz nx : Int} {hs : List HeldR} {hv : Value} (h : RBox B w Y sz nx hs hv) (hlen : hs.length ≤ 9223372036854775807) (q : Int) (hq : 1 ≤ q) (hq' : q < 2147483647) (hh : refHas nx hs q = true) (v : Value) :
    Calls Try.prog 14 #[.pointer (some ⟨Y, 0, none⟩), .int .i64 q, v] w fun e w' => e = .returned (.tuple #[.slice none 0 0, .int .i64 7]) ∧ w = w' := by
  have HH := Lib.hid hh
  clear hh
  go_enter Try.func14, Try.ntmps14
  go_wp2_with (go_at_call 20; refine (rhas_any h hlen q).mono ?_; rintro e w' ⟨rfl, rfl⟩; rw [HH.out])
  go_ret2
  exact ⟨rfl, rfl⟩

set_option maxHeartbeats 400000 in
theorem rtake_full {B : Nat} {w : World} {Y : Nat} {sz nx : Int} {hs : List HeldR} {hv : Value} (h : RBox B w Y sz nx hs hv) (hlen : hs.length ≤ 9223372036854775807) (q : Int) (hq : 1 ≤ q) (hq' : q < 2147483647) (hh : refHas nx hs q = false)
    (h1 : 1 ≤ nx) (h2 : nx ≤ 2147483647) (h3 : 1 ≤ sz) (h4 : sz ≤ 64) (hf : nx + sz ≤ q) (v : Value) :
    Calls Try.prog 14 #[.pointer (some ⟨Y, 0, none⟩), .int .i64 q, v] w fun e w' => e = .returned (.tuple #[.slice none 0 0, .int .i64 8]) ∧ ∃ n, w' = w.drewN n := by
  have HH := Lib.hid hh
  have c0 := h.sz_
  have c1 := h.nx_
  clear hh
  go_enter Try.func14, Try.ntmps14
  go_wp2_with (go_at_call 20; refine (rhas_any h hlen q).mono ?_; rintro e w' ⟨rfl, rfl⟩; rw [HH.out])
  have i1 : IntKind.i64.wrap (nx + sz) = nx + sz := by rw [IntKind.wrap_i64]; omega
  have i2 : decide (nx + sz ≤ q) = true := by simpa using hf
  go_quiet (fail)
  go_wp2_with fail
  go_ret2
  exact ⟨rfl, _, rfl⟩

theorem RdC.two {w : World} (v u : Value) (e : TypeId) : RdC (fun k => k = w.heap.size) (w.alloc (.cells #[v, u] e)) (some ⟨w.heap.size, 0, none⟩) [v, u] := fun _ =>
  ⟨_, rfl, rfl, fun j x hx => by
    rcases j with _ | _ | j
    · have hu' : v = x := by simpa using hx
      subst hu'
      show (w.alloc (.cells #[v, u] e)).cell? ⟨w.heap.size, 0, none⟩ = some v
      rw [cell_of_row (w.alloc (.cells #[v, u] e)) w.heap.size 0 #[v, u] e (0, 0) (heap_alloc_new w _)]
      rfl
    · have hu' : u = x := by simpa using hx
      subst hu'
      show (w.alloc (.cells #[v, u] e)).cell? ⟨w.heap.size, 1, none⟩ = some u
      rw [cell_of_row (w.alloc (.cells #[v, u] e)) w.heap.size 1 #[v, u] e (0, 0) (heap_alloc_new w _)]
      rfl
    · simp at hx⟩
theorem ownB_new {w : World} : OwnB 5 (w.alloc (.cells #[] 5)) (.slice (some ⟨w.heap.size, 0, none⟩) 0 0) [] := .inr ⟨w.heap.size, 0, [], rfl, heap_alloc_new w _, rfl, rfl, by simp, by simp⟩

/-- What the document's inbox does as long as the awaited number is held. -/
def refRun : Nat → Int → List HeldR → List (Value × List UInt8) × Int × List HeldR
  | 0, nx, hs => ([], nx, hs)
  | n + 1, nx, hs => match hs.findIdx? fun x => x.1 == nx with
    | none => ([], nx, hs)
    | some i => (((hs[i]?.map (·.2)).getD (.int .i64 0, []) :: (refRun n (nx + 1) (hs.eraseIdx i)).1), (refRun n (nx + 1) (hs.eraseIdx i)).2)

/-- What the appending leaves. -/
def RPut (B : Nat) (w : World) (Y : Nat) (sz nx : Int) (hs : List HeldR) (hv : Value) (q : Int) (bs : List UInt8) (w' : World) : Prop :=
  ∃ hv' v, RBox B w' Y sz nx (hs ++ [(q, v, bs)]) hv' ∧ (∀ g, v.ownBlock = some g → w.heap.size ≤ g) ∧ Chg (fun k => k = Y ∨ some k = hv.ownBlock) w w' ∧ ∀ g, hv'.ownBlock = some g → hv'.ownBlock = hv.ownBlock ∨ w.heap.size ≤ g

theorem rput_chg {w w1 : World} {n : Nat} {o : Obj} (k : Chg (fun k => some k = (Value.slice (some ⟨w.heap.size, 0, none⟩) 0 0).ownBlock) ((w.drewN n).alloc o) w1) : Chg (fun _ => False) w w1 :=
  (((Chg.refl _ w).drewN n).alloc o).trans k fun k hk hS => by
    simp [Value.ownBlock] at hS
    omega
theorem rput_fresh {w : World} {n : Nat} {o : Obj} {v : Value} (ha : v.ownBlock = (Value.slice (some ⟨w.heap.size, 0, none⟩) 0 0).ownBlock ∨ v.ownBlock = some ((w.drewN n).alloc o).heap.size) : ∀ g, v.ownBlock = some g → w.heap.size ≤ g := by
  intro g hg
  rcases ha with h | h
  · rw [hg] at h; simp [Value.ownBlock] at h; omega
  · rw [hg] at h; simp at h; omega
theorem rput_blk {B : Nat} {w1 w2 : World} {Y : Nat} {sz nx : Int} {hs : List HeldR} {hv : Value} {o : Obj} (h : RBox B w1 Y sz nx hs hv) (hg : (w1.alloc o).grownBy w2 hv.ownBlock) : Blk w2 Y 43 #[.int .i64 sz, .int .i64 nx, hv] :=
  (h.blk.alloc o).grown hg (own_blk_ne h.row h.blk (by decide))

theorem rput_cell {B : Nat} {w1 w2 : World} {Y : Nat} {sz nx : Int} {hs : List HeldR} {hv : Value} {o : Obj} (h : RBox B w1 Y sz nx hs hv) (hg : (w1.alloc o).grownBy w2 hv.ownBlock) : w2.cell? ⟨Y, 2, none⟩ = some hv := by
  rw [(rput_blk h hg).cell]
  rfl

theorem rput_of {B : Nat} {w w1 w2 : World} {Y : Nat} {sz nx q : Int} {hs : List HeldR} {hv v1 v2 : Value} {bs : List UInt8} {o : Obj} (h : RBox B w1 Y sz nx hs hv) (k1 : Chg (fun _ => False) w w1) (hf : ∀ g, v1.ownBlock = some g → w.heap.size ≤ g) (ho1 : OwnB 5 w1 v1 bs)
    (ho2 : w2.ownsRow 0 59 2 v2 (hs.length + 1) (refCells hs ++ [.int .i64 q, v1])) (hg : (w1.alloc o).grownBy w2 hv.ownBlock) (ha : v2.ownBlock = hv.ownBlock ∨ v2.ownBlock = some (w1.alloc o).heap.size) (hB : B ≤ w.heap.size) :
    RPut B w Y sz nx hs hv q bs (w2.setCell ⟨Y, 2, none⟩ v2) := by
  have hb := rput_blk h hg
  have k2 : Chg (fun k => some k = hv.ownBlock) w1 w2 := ((Chg.refl _ w1).alloc o).grown hg fun k hk => .inr hk.symm
  have hne : v2.ownBlock ≠ some Y := fun he => own_blk_ne ho2 hb (by decide) he.symm
  have ks := k1.size
  have hob : ∀ (v : Value) (xs : List UInt8), OwnB 5 w1 v xs → OwnB 5 (w2.setCell ⟨Y, 2, none⟩ v2) v xs := fun v xs ho => by
    have h1 : OwnB 5 w2 v xs := ho.chg k2 fun g hg' hS => by
      obtain ⟨cs, hc⟩ := ho.blk hg'
      exact own_blk_ne h.row hc (by decide) hS
    refine h1.keep fun g hg' => Below.heap_setCell _ _ _ _ ?_
    rintro rfl
    obtain ⟨cs, hc⟩ := h1.blk hg'
    exact Blk.ne_ hc hb (by decide) rfl
  refine ⟨v2, v1, ⟨hb.set_ 2 v2, ?_, fun x hx => ?_, h.lo, fun g hg' => ?_⟩, hf, ?_, fun g hg' => ?_⟩
  · rw [refCells_append, List.length_append]
    exact ownsRow_setCell_other ho2 hne _
  · rcases List.mem_append.1 hx with hx | hx
    · exact hob _ _ (h.own x hx)
    · obtain rfl : x = (q, v1, bs) := by simpa using hx
      exact hob _ _ ho1
  · rcases ha with h2 | h2
    · exact h.lo' g (h2 ▸ hg')
    · rw [hg'] at h2; simp at h2; omega
  · exact (((k1.mono (T := fun k => some k = hv.ownBlock) (fun _ _ h => h.elim)).trans k2 (fun k _ h => h)).mono fun k _ h => .inr h).setCell (.inr (.inl rfl)) _
  · rcases ha with h2 | h2
    · exact .inl h2
    · rw [hg'] at h2; simp at h2; exact .inr (by omega)

theorem refRun_none {n : Nat} {nx : Int} {hs : List HeldR} (h : hs.findIdx? (fun x => x.1 == nx) = none) : refRun n nx hs = ([], nx, hs) := by
  cases n with
  | zero => rfl
  | succ n => simp [refRun, h]
theorem refRun_some {n i : Nat} {nx : Int} {hs : List HeldR} {x : HeldR} (h : hs.findIdx? (fun x => x.1 == nx) = some i) (hx : hs[i]? = some x) :
    refRun (n + 1) nx hs = ((x.2 :: (refRun n (nx + 1) (hs.eraseIdx i)).1), (refRun n (nx + 1) (hs.eraseIdx i)).2) := by
  simp [refRun, h, hx]

/-- At the head of the document's telling. -/
def RRel (B : Nat) (W : World) (Y : Nat) (sz nx0 : Int) (hv : Value) (hs1 : List HeldR) (k : Nat) (vo : Value) (wr : World) : Prop :=
  ∃ (outs : List (Value × List UInt8)) (nx : Int) (hs : List HeldR) (hvk : Value), k = hs.length ∧ RBox B wr Y sz nx hs hvk ∧ wr.ownsRow 0 31 1 vo outs.length (outs.map (·.1)) ∧ (∀ g, vo.ownBlock = some g → W.heap.size ≤ g) ∧
    refRun hs1.length nx0 hs1 = (outs ++ (refRun hs.length nx hs).1, (refRun hs.length nx hs).2) ∧ 1 ≤ nx ∧ nx + hs.length ≤ nx0 + hs1.length ∧ outs.length + hs.length ≤ 65 ∧ Chg (fun k => k = Y ∨ some k = hv.ownBlock) W wr ∧
    (∀ g, hvk.ownBlock = some g → hvk.ownBlock = hv.ownBlock ∨ W.heap.size ≤ g) ∧ ∀ (k : Nat) (x : Value × List UInt8), outs[k]? = some x → OwnB 5 wr x.1 x.2

/-- What the document's take leaves. -/
def RTaken (B : Nat) (w : World) (Y : Nat) (sz nx : Int) (hs : List HeldR) (hv : Value) (q : Int) (bs : List UInt8) (e : Ending) (w' : World) : Prop :=
  ∃ (v vo hv' : Value) (hs1 : List HeldR), hs1 = hs ++ [(q, v, bs)] ∧ e = .returned (.tuple #[vo, .int .i64 0]) ∧ w'.ownsRow 0 31 1 vo (refRun hs1.length nx hs1).1.length ((refRun hs1.length nx hs1).1.map (·.1)) ∧ (∀ g, vo.ownBlock = some g → w.heap.size ≤ g) ∧
    RBox B w' Y sz (refRun hs1.length nx hs1).2.1 (refRun hs1.length nx hs1).2.2 hv' ∧ (∀ (k : Nat) (x : Value × List UInt8), (refRun hs1.length nx hs1).1[k]? = some x → OwnB 5 w' x.1 x.2) ∧ (∀ g, v.ownBlock = some g → w.heap.size ≤ g) ∧
    Chg (fun k => k = Y ∨ some k = hv.ownBlock) w w'

theorem row_other {w : World} {base : Nat} {e : TypeId} {size n : Nat} {v : Value} {xs : List Value} (h : w.ownsRow base e size v n xs) {k : Nat} {t : TypeId} {cs : Array Value} (hb : Blk w k t cs) (hk : some k = v.ownBlock) : t = e := by
  obtain ⟨cs', hb'⟩ := row_blk h hk.symm
  by_cases he : t = e
  · exact he
  · exact absurd rfl (Blk.ne_ hb hb' he)

theorem rout_box {B : Nat} {wr w1 : World} {Y : Nat} {sz nx : Int} {hs : List HeldR} {hv vo : Value} {outs : List Value} {n : Nat} {o : Obj} (h : RBox B wr Y sz nx hs hv) (hrow : wr.ownsRow 0 31 1 vo n outs) (hg : (wr.alloc o).grownBy w1 vo.ownBlock) : RBox B w1 Y sz nx hs hv := by
  have k : Chg (fun k => some k = vo.ownBlock) wr w1 := ((Chg.refl _ wr).alloc o).grown hg fun k hk => .inr hk.symm
  refine h.chg k (fun k t cs hb hS => ?_) fun x hx g hg' hS => ?_
  · have := row_other hrow hb hS
    subst this
    decide
  · obtain ⟨cs, hb⟩ := (h.own x hx).blk hg'
    have := row_other hrow hb hS
    cases this
theorem rcut_chg {w w5 : World} {o : Obj} (hg : (w.alloc o).drew.grownBy w5 (Value.slice (some ⟨w.heap.size, 0, none⟩) 0 0).ownBlock) : Chg (fun _ => False) w w5 :=
  (((Chg.refl _ w).alloc o).drew).grown hg fun k hk => .inl (by
    simp [Value.ownBlock] at hk
    omega)
theorem rcut_fresh {w : World} {o : Obj} {v : Value} (ha : v.ownBlock = (Value.slice (some ⟨w.heap.size, 0, none⟩) 0 0).ownBlock ∨ v.ownBlock = some (w.alloc o).drew.heap.size) : ∀ g, v.ownBlock = some g → w.heap.size ≤ g := by
  intro g hg
  rcases ha with h | h
  · rw [hg] at h; simp [Value.ownBlock] at h; omega
  · rw [hg] at h; simp at h; omega
theorem rcut_fresh2 {w w5 : World} {v5 v6 : Value} (k5 : Chg (fun _ => False) w w5) (f5 : ∀ g, v5.ownBlock = some g → w.heap.size ≤ g) (ha : v6.ownBlock = v5.ownBlock ∨ v6.ownBlock = some w5.heap.size) : ∀ g, v6.ownBlock = some g → w.heap.size ≤ g := by
  intro g hg
  rcases ha with h | h
  · exact f5 g (h ▸ hg)
  · rw [hg] at h
    injection h with h
    have := k5.size
    omega

/-- What the cutting leaves. -/
def RCut (B : Nat) (w : World) (Y : Nat) (sz nx : Int) (hs : List HeldR) (w' : World) : Prop := ∃ hv, RBox B w' Y sz nx hs hv ∧ (∀ g, hv.ownBlock = some g → w.heap.size ≤ g) ∧ Chg (fun k => k = Y) w w'
theorem rcut_of {B : Nat} {w w6 : World} {Y : Nat} {sz nx : Int} {hs : List HeldR} {hv v6 : Value} {i : Nat} (h : RBox B w Y sz nx hs hv) (hil : i < hs.length) (k6 : Chg (fun _ => False) w w6) (f6 : ∀ g, v6.ownBlock = some g → w.heap.size ≤ g)
    (ho6 : w6.ownsRow 0 59 2 v6 (i + (hs.length - (i + 1))) (refCells (hs.take i) ++ refCells (hs.drop (i + 1)))) : RCut B w Y sz nx (hs.eraseIdx i) (w6.setCell ⟨Y, 2, none⟩ v6) := by
  have h6 := h.new_ k6
  have hne : v6.ownBlock ≠ some Y := fun he => own_blk_ne ho6 h6.blk (by decide) he.symm
  have hYl := h.blk.lt
  refine ⟨v6, ⟨h6.blk.set_ 2 v6, ?_, fun x hx => ?_, h.lo, fun g hg => ?_⟩, f6, Chg.setCell (S := fun k => k = Y) (k6.mono fun _ _ h => h.elim) (.inr rfl) _⟩
  · have e : hs.eraseIdx i = hs.take i ++ hs.drop (i + 1) := List.eraseIdx_eq_take_drop_succ hs i
    rw [e, refCells_append, show (hs.take i ++ hs.drop (i + 1)).length = i + (hs.length - (i + 1)) by simp; omega]
    exact ownsRow_setCell_other ho6 hne _
  · have hx' := h6.own x (List.mem_of_mem_eraseIdx hx)
    refine hx'.keep fun g hg => Below.heap_setCell _ _ _ _ ?_
    rintro rfl
    obtain ⟨cs, hc⟩ := hx'.blk hg
    exact Blk.ne_ hc h6.blk (by decide) rfl
  · have := f6 g hg
    have := h.lo
    omega

theorem rrel_next {B : Nat} {W wr w1 w2 : World} {Y : Nat} {sz nx0 nx : Int} {hv hvk vo v1 hv2 vx : Value} {hs1 hs : List HeldR} {outs : List (Value × List UInt8)} {i : Nat} {sx : Int} {bx : List UInt8} {o : Obj} (hil : i < hs.length)
    (hRk : RBox B wr Y sz nx hs hvk) (hrow : wr.ownsRow 0 31 1 vo outs.length (outs.map (·.1))) (hfo : ∀ g, vo.ownBlock = some g → W.heap.size ≤ g)
    (hruns : refRun hs.length nx hs = (((sx, vx, bx).2 :: (refRun (hs.length - 1) (nx + 1) (hs.eraseIdx i)).1), (refRun (hs.length - 1) (nx + 1) (hs.eraseIdx i)).2))
    (hrun : refRun hs1.length nx0 hs1 = (outs ++ (refRun hs.length nx hs).1, (refRun hs.length nx hs).2)) (hn1 : 1 ≤ nx) (hn2 : nx + hs.length ≤ nx0 + hs1.length) (hol : outs.length + hs.length ≤ 65)
    (hC : Chg (fun k => k = Y ∨ some k = hv.ownBlock) W wr) (hown : ∀ (k : Nat) (x : Value × List UInt8), outs[k]? = some x → OwnB 5 wr x.1 x.2) (hx : OwnB 5 wr vx bx) (hg1 : (wr.alloc o).grownBy w1 vo.ownBlock)
    (ho1 : w1.ownsRow 0 31 1 v1 (outs.length + 1) (outs.map (·.1) ++ [vx])) (ha1 : v1.ownBlock = vo.ownBlock ∨ v1.ownBlock = some (wr.alloc o).heap.size)
    (hR2 : RBox B w2 Y sz nx (hs.eraseIdx i) hv2) (f2 : ∀ g, hv2.ownBlock = some g → w1.heap.size ≤ g) (k2 : Chg (fun k => k = Y) w1 w2) :
    RRel B W Y sz nx0 hv hs1 (hs.eraseIdx i).length v1 (w2.setCell ⟨Y, 1, none⟩ (.int .i64 (nx + 1))) := by
  have hel : (hs.eraseIdx i).length = hs.length - 1 := List.length_eraseIdx_of_lt hil
  have k1 : Chg (fun k => some k = vo.ownBlock) wr w1 := ((Chg.refl _ wr).alloc o).grown hg1 fun k hk => .inr hk.symm
  have hY1 : Blk w1 Y 43 #[.int .i64 sz, .int .i64 nx, hvk] := hRk.blk.chg k1 fun hS => by
    have := row_other hrow hRk.blk hS
    cases this
  have s0 := hC.size
  have s1 := k1.size
  have s2 := k2.size
  have hob : ∀ (v : Value) (xs : List UInt8), OwnB 5 wr v xs → OwnB 5 (w2.setCell ⟨Y, 1, none⟩ (.int .i64 (nx + 1))) v xs := fun v xs ho => by
    have h1 : OwnB 5 w1 v xs := ho.chg k1 fun g hg' hS => by
      obtain ⟨cs, hc⟩ := ho.blk hg'
      have := row_other hrow hc hS
      cases this
    have hnY : v.ownBlock ≠ some Y := fun hg' => by
      obtain ⟨cs, hc⟩ := h1.blk hg'
      exact Blk.ne_ hc hY1 (by decide) rfl
    have h2 : OwnB 5 w2 v xs := h1.chg k2 fun g hg' hS => hnY (hS ▸ hg')
    exact h2.keep fun g hg' => Below.heap_setCell _ _ _ _ fun he => hnY (by rw [hg']; exact congrArg some he)
  have hvY : v1.ownBlock ≠ some Y := fun he => own_blk_ne ho1 hY1 (by decide) he.symm
  have hrow2 : w2.ownsRow 0 31 1 v1 (outs.length + 1) (outs.map (·.1) ++ [vx]) := own_chg' ho1 k2 fun g hg hS => hvY (hS ▸ hg)
  have hh2 : hv2.ownBlock ≠ some Y := fun he => own_blk_ne hR2.row hR2.blk (by decide) he.symm
  refine ⟨outs ++ [(vx, bx)], nx + 1, hs.eraseIdx i, hv2, rfl, ⟨hR2.blk.set_ 1 _, ownsRow_setCell_other hR2.row hh2 _, fun x hx' => ?_, hR2.lo, hR2.lo'⟩, ?_, fun g hg => ?_, ?_, by omega, by omega, by simp; omega, ?_, fun g hg => ?_, fun k x hk => ?_⟩
  · have hx2 := hR2.own x hx'
    refine hx2.keep fun g hg => Below.heap_setCell _ _ _ _ ?_
    rintro rfl
    obtain ⟨cs, hc⟩ := hx2.blk hg
    exact Blk.ne_ hc hR2.blk (by decide) rfl
  · simpa using ownsRow_setCell_other hrow2 hvY _
  · rcases ha1 with h | h
    · exact hfo g (h ▸ hg)
    · rw [hg] at h; simp at h; omega
  · rw [hrun, hruns, hel]
    simp
  · refine ((hC.trans k1 fun k hk he => absurd (hfo k he.symm) (by omega)).trans k2 fun k hk he => .inl he).setCell (.inr (.inl rfl)) _
  · have := f2 g hg
    exact .inr (by omega)
  · rw [List.getElem?_append] at hk
    split at hk
    · exact hob _ _ (hown k x hk)
    · rcases hj : k - outs.length with _ | j
      · rw [hj] at hk
        have : (vx, bx) = x := by simpa using hk
        subst this
        exact hob _ _ hx
      · rw [hj] at hk
        simp at hk

/-- A cut-out of the document's row, as a source. -/
theorem rdc_rtake {w : World} {g cap : Nat} {hs : List HeldR} (h : w.ownsRow 0 59 2 (.slice (some ⟨g, 0, none⟩) hs.length cap) hs.length (refCells hs)) (i : Nat) : RdC (fun k => k = g) w (some ⟨g, 0, none⟩) (refCells (hs.take i)) := fun _ =>
  ⟨_, rfl, rfl, fun j u hu => h.cells (g := g) rfl j u (by
    rw [refCells_take, List.getElem?_take] at hu
    split at hu
    · exact hu
    · cases hu)⟩
theorem rdc_rdrop {w : World} {g cap : Nat} {hs : List HeldR} (h : w.ownsRow 0 59 2 (.slice (some ⟨g, 0, none⟩) hs.length cap) hs.length (refCells hs)) (i : Nat) :
    RdC (fun k => k = g) w (if cap = i then some ⟨g, 0, none⟩ else some ⟨g, i * 2, none⟩) (refCells (hs.drop i)) := fun hn => by
  have hlc : hs.length ≤ cap := by
    rcases h.2 with ⟨he, _⟩ | ⟨g', cap', cur, he, _, _, h1, _⟩
    · cases he
    · injection he with _ _ hc
      omega
  have hlt : i < hs.length := by rw [refCells_length] at hn; simp at hn; omega
  rw [if_neg (by omega)]
  refine ⟨_, rfl, rfl, fun j u hu => ?_⟩
  have := h.cells (g := g) rfl (i * 2 + j) u (by rw [refCells_drop, List.getElem?_drop] at hu; exact hu)
  rw [Addr.add_lit, Nat.zero_add] at this
  rw [Addr.add_lit]
  exact this

set_option maxRecDepth 100000 in
set_option maxHeartbeats 800000 in
theorem rtake_ok {D : Nat → Prop} {B : Nat} {w : World} {Y : Nat} {sz nx : Int} {hs : List HeldR} {hv : Value} (h : RBox B w Y sz nx hs hv) (hlen : hs.length ≤ 64) (q : Int) (hq : 1 ≤ q) (hq' : q < 2147483647) (hh : refHas nx hs q = false)
    (h1 : 1 ≤ nx) (h2 : nx ≤ 2147483647) (h3 : 1 ≤ sz) (h4 : sz ≤ 64) (hf : q < nx + sz) {A : Option Addr} {bs : List UInt8} {c : Nat} (hr : Rd D w A bs) (hbl : bs.length ≤ 140737488355328) (hB : B ≤ w.heap.size) :
    Calls Try.prog 14 #[.pointer (some ⟨Y, 0, none⟩), .int .i64 q, .slice A bs.length c] w fun e w' => RTaken B w Y sz nx hs hv q bs e w' := by
  have HH := Lib.hid hh
  have c0 := h.sz_
  have c1 := h.nx_
  have c2 := h.hv_
  clear hh
  obtain ⟨i5, hi5, hz5, hs5, hb5⟩ := info_parts Try.info5
  obtain ⟨i59, hi59, hz59, hs59, hb59⟩ := info_parts Try.info59
  obtain ⟨i31, hi31, hz31, hs31, hb31⟩ := info_parts Try.info31
  obtain ⟨Ah, ch, rfl, hch, hmh⟩ := own_shape h.row
  go_enter Try.func14, Try.ntmps14
  go_wp2_with (go_at_call 20; refine (rhas_any h (by omega) q).mono ?_; rintro e w' ⟨rfl, rfl⟩; rw [HH.out])
  have i1 : IntKind.i64.wrap (nx + sz) = nx + sz := by rw [IntKind.wrap_i64]; omega
  have i2 : decide (nx + sz ≤ q) = false := by simpa using hf
  go_quiet (fail)
  clear i1 i2
  go_wp2_with fail
  go_cut [] (fun w2 => RPut B w Y sz nx hs (.slice Ah hs.length ch) q bs w2)
  case first =>
    have hm1 : hs.length + 1 ≤ maxLen := by unfold maxLen; omega
    have hm2 : (hs.length + 1) * 32 ≤ 140737488355328 := by omega
    have cal : ∀ n o, ((w.drewN n).alloc o).cell? ⟨Y, 2, none⟩ = some (.slice Ah hs.length ch) := fun n o => (h.new_ (((Chg.refl _ w).drewN n).alloc o)).hv_
    go_region_law (first
      | (refine step_append_bytes _ rfl (.tmp 39) (.tmp 40) 31 rfl 5 i5 Try.underlying31 hi5 hz5 hs5 hb5 (.slice (some ⟨w.heap.size, 0, none⟩) 0 0) [] rfl (ownB_new (w := w.drewN _)) A c bs rfl (hr.chg (S := fun _ => False) (((Chg.refl _ w).drewN _).alloc _) (fun _ _ h => h)) (by simpa using hbl) ?_; intro v1 w1 ho1 k1 ha1; simp only [List.nil_append] at ho1; have kw1 := rput_chg k1; have hR1 := h.new_ kw1; have c21 := hR1.hv_; have cal1 : ∀ o, (w1.alloc o).cell? ⟨Y, 2, none⟩ = some (.slice Ah hs.length ch) := fun o => (hR1.new_ ((Chg.refl _ w1).alloc o)).hv_; have hf1 := rput_fresh ha1; obtain ⟨A1, c1, rfl, hc1, hm1'⟩ := ho1.shape)
      | (refine step_append_any _ rfl (.tmp 37) (.tmp 43) 41 rfl 0 59 i59 (.agg #[.int .i64 0, .slice none 0 0]) 2 32 Try.underlying41 hi59 hz59 hs59 hb59 rfl (by decide) (.slice Ah hs.length ch) hs.length (refCells hs) rfl (hR1.row.alloc _) (some ⟨w1.heap.size, 0, none⟩) 1 1 [.int .i64 q, .slice A1 bs.length c1] rfl rfl (RdC.two _ _ _) (by intro u hu; simp at hu; rcases hu with rfl | rfl <;> rfl) hm1 hm2 (Nat.zero_le _) ?_; intro v2 w2 ho2 hg2 ha2; have fz := (rput_blk hR1 hg2).frozen 2; have cz := rput_cell hR1 hg2; obtain ⟨g2, cap2, rfl, hb2, hl2⟩ := ho2.form (by omega)))
    all_goals (go_wp2_with fail)
    all_goals (go_meet; exact rput_of hR1 kw1 hf1 ho1 ho2 hg2 ha2 hB)
  case rest =>
    obtain ⟨hv', v, hR1, hfv, k1, hlv⟩ := hcut
    generalize hs1e : hs ++ [(q, v, bs)] = hs1 at hR1
    have hl1 : hs1.length = hs.length + 1 := by rw [← hs1e]; simp
    have hR0 : RRel B w Y sz nx (.slice Ah hs.length ch) hs1 hs1.length (.slice none 0 0) wc := ⟨[], nx, hs1, hv', rfl, hR1, World.ownsRow_nil _ _ _ _, (fun g hg => by simp [Value.ownBlock] at hg), by simp, h1, Int.le_refl _, by simp; omega, k1, hlv, fun k x hx => by simp at hx⟩
    clear c0 c1 c2 hr h k1 hlv hR1
    go_wp2_with fail
    go_loopg [8] hs1.length (fun k vo wr => RRel B w Y sz nx (.slice Ah hs.length ch) hs1 k vo wr)
    case atStart => exact hR0
    case round =>
      obtain ⟨outs, nxk, hsk, hvk, rfl, hRk, hrow, hfo, hrun, hn1, hn2, hol, hC, hlvk, hown⟩ := hrel
      have c1 := hRk.nx_
      have c2 := hRk.hv_
      obtain ⟨A2, ch2, rfl, hch2, hmh2⟩ := own_shape hRk.row
      rcases hfi : hsk.findIdx? (fun x => x.1 == nxk) with _ | i
      · have hat : atI hsk nxk = -1 := by simp [atI, hfi]
        rw [refRun_none hfi, List.append_nil] at hrun
        go_wp2_with (go_at_call 29; refine (at_any hRk (by omega) nxk).mono ?_; rintro e w' ⟨rfl, rfl⟩; rw [hat])
        go_ret2
        exact ⟨v, u8, .slice A2 hsk.length ch2, hs1, hs1e.symm, rfl, by rw [hrun]; exact hrow, hfo, by rw [hrun]; exact hRk, by rw [hrun]; exact hown, hfv, hC⟩
      · have hat : atI hsk nxk = (i : Int) := by simp [atI, hfi]
        obtain ⟨hil, _⟩ := List.findIdx?_eq_some_iff_getElem.1 hfi
        have hxi : hsk[i]? = some hsk[i] := List.getElem?_eq_getElem hil
        have hownx := hRk.own _ (List.getElem_mem hil)
        have hruns := refRun_some (n := hsk.length - 1) hfi hxi
        rw [show hsk.length - 1 + 1 = hsk.length by omega] at hruns
        generalize hxe : hsk[i] = x at hxi hownx hruns
        obtain ⟨sx, vx, bx⟩ := x
        simp only at hownx
        obtain ⟨Ax, cx, rfl, hcx, hmx⟩ := hownx.shape
        obtain ⟨g, cap, he, _, _⟩ := hRk.row.form (by omega)
        injection he with he1 he2 he3
        subst he1 he3
        have hx1 := hownx.one
        have cc := hRk.row.cells (g := g) rfl (i * 2 + 1) _ (refCells_at hsk i _ hxi).2
        rw [Addr.add_lit, Nat.zero_add] at cc
        have hgi : (i : Int) < (hsk.length : Int) := by omega
        have q1 : outs.length + 1 ≤ maxLen := by unfold maxLen; omega
        have q2 : (outs.length + 1) * 24 ≤ 140737488355328 := by omega
        have q3 : ∀ u ∈ [Value.slice Ax bx.length cx], u.oneCell' = true := by intro u hu; simp at hu; subst hu; rfl
        go_wp2_with (first
          | (go_at_call 29; refine (at_any hRk (by omega) nxk).mono ?_; rintro e w' ⟨rfl, rfl⟩; rw [hat])
          | (at_builtin; refine wpList_append_any _ rfl (.tmp 60) (.tmp 69) 35 rfl 0 31 i31 (.slice none 0 0) 1 24 Try.underlying35 hi31 hz31 hs31 hb31 rfl (by decide) u8 outs.length (outs.map (·.1)) rfl (hrow.alloc _) (some ⟨wr.heap.size, 0, none⟩) 1 1 [.slice Ax bx.length cx] rfl rfl (RdC.one _ 31) q3 q1 q2 (Nat.zero_le _) ?_; intro v1 w1 ho1 hg1 ha1))
        have hR1 := rout_box hRk hrow hg1
        have hrw1 := hR1.row
        have c21 := hR1.hv_
        have cal : ∀ o, (w1.alloc o).drew.cell? ⟨Y, 2, none⟩ = some (.slice (some ⟨g, 0, none⟩) hsk.length ch2) := fun o => (hR1.new_ (((Chg.refl _ w1).alloc o).drew)).hv_
        go_cut [] (fun w2 => RCut B w1 Y sz nxk (hsk.eraseIdx i) w2)
        case first =>
          have hn1' : (refCells (hsk.take i)).length = i * 2 := by rw [refCells_length]; simp; omega
          have hn2' : (refCells (hsk.drop (i + 1))).length = (hsk.length - (i + 1)) * 2 := by rw [refCells_length]; simp
          have hkc : i ≤ ch2 := by omega
          have hkl : i + 1 ≤ hsk.length := by omega
          have hkc1 : i + 1 ≤ ch2 := by omega
          have j1 : IntKind.i64.wrap ((i : Int) + 1) = (i : Int) + 1 := by rw [IntKind.wrap_i64]; omega
          have j2 : (0 : Int) ≤ (i : Int) + 1 := by omega
          have j4 : (i : Int) + 1 ≤ (hsk.length : Int) := by omega
          have j5 : ((i : Int) + 1).toNat = i + 1 := by omega
          have hr1 := rdc_rtake hrw1 i
          have hr2 := rdc_rdrop hrw1 (i + 1)
          have ho1' : ∀ u ∈ refCells (hsk.take i), u.oneCell' = true := refCells_oneCell (w := w1) fun x hx => hR1.own x (List.mem_of_mem_take hx)
          have ho2' : ∀ u ∈ refCells (hsk.drop (i + 1)), u.oneCell' = true := refCells_oneCell (w := w1) fun x hx => hR1.own x (List.mem_of_mem_drop hx)
          have b1 : 0 + i ≤ maxLen := by unfold maxLen; omega
          have b2 : (0 + i) * 32 ≤ 140737488355328 := by omega
          have b3 : i + (hsk.length - (i + 1)) ≤ maxLen := by unfold maxLen; omega
          have b4 : (i + (hsk.length - (i + 1))) * 32 ≤ 140737488355328 := by omega
          go_region_law (first
            | (refine step_append_any _ rfl (.tmp 72) (.tmp 78) 41 rfl 0 59 i59 (.agg #[.int .i64 0, .slice none 0 0]) 2 32 Try.underlying41 hi59 hz59 hs59 hb59 rfl (by decide) (.slice (some ⟨w1.heap.size, 0, none⟩) 0 0) 0 [] rfl (World.ownsRow.drew (World.ownsRow_made w1 #[] 0 (Nat.zero_le _) (Nat.zero_le _) rfl)) (some ⟨g, 0, none⟩) i ch2 (refCells (hsk.take i)) rfl hn1' (hr1.chg (S := fun _ => False) (((Chg.refl _ w1).alloc _).drew) (fun _ _ h => h)) ho1' b1 b2 (Nat.zero_le _) ?_; intro v5 w5 ho5 hg5 ha5; simp only [Nat.zero_add, List.nil_append] at ho5; have k5 := rcut_chg hg5; have f5 := rcut_fresh ha5; have c25 := (hR1.new_ k5).hv_)
            | (refine step_append_any _ rfl (.tmp 79) (.tmp 86) 41 rfl 0 59 i59 (.agg #[.int .i64 0, .slice none 0 0]) 2 32 Try.underlying41 hi59 hz59 hs59 hb59 rfl (by decide) v5 i (refCells (hsk.take i)) rfl ho5 _ (hsk.length - (i + 1)) (ch2 - (i + 1)) (refCells (hsk.drop (i + 1))) rfl hn2' (hr2.chg k5 (fun _ _ h => h)) ho2' b3 b4 (Nat.zero_le _) ?_; intro v6 w6 ho6 hg6 ha6; have k6 := k5.grown hg6 (fun k hk => .inl (f5 k hk)); have c26 := (hR1.new_ k6).hv_; have fz := (hR1.new_ k6).blk.frozen 2; have f6 := rcut_fresh2 k5 f5 ha6; obtain ⟨A6, c6, rfl, _, _⟩ := own_shape ho6))
          all_goals (go_wp2_with fail)
          all_goals (go_meet; exact rcut_of hR1 hil k6 f6 ho6)
        case rest =>
          obtain ⟨hv2, hR2, f2, k2⟩ := hcut
          have c1' := hR2.nx_
          have fz := hR2.blk.frozen 1
          have hnx := rrel_next (sx := sx) hil hRk hrow hfo hruns hrun hn1 hn2 hol hC hown hownx hg1 ho1 ha1 hR2 f2 k2
          clear hR1 hrw1 c21 cal hR2 hRk hrow hruns hrun hown
          go_wp2_with fail
          go_roundg (hsk.eraseIdx i).length
          case measure => rw [List.length_eraseIdx_of_lt hil]; omega
          case rel => exact hnx
end Go.Proofs.Ytjmbealiinecjaa
