/- What is told: retain.told, Stay, Go. -/
import Derived.Test.YtjfkjohocopcgaaTold
import Derived.Deep.CutBlock
namespace Go.Proofs.Ytjfkjohocopcgaa
open Go.RowKit Go.Maps

theorem Try.info3 : (Try.prog.info? 3).map (fun i => (i.zero, i.size, i.bytes)) = some (some (.int .i64 0), 1, 8) := by kernel_rfl

/-- The numbers of those below j that stay, or go. -/
def numsJ (p : Pol) (l : List Snp) (st : Bool) (j : Nat) : List Int := ((List.range j).filter fun i => stB p l i == st).map fun i => (l.getD i (0, 0)).1
theorem numsJ_succ (p : Pol) (l : List Snp) (st : Bool) (j : Nat) : numsJ p l st (j + 1) = numsJ p l st j ++ (if (stB p l j == st) = true then [(l.getD j (0, 0)).1] else []) := by
  unfold numsJ
  rw [List.range_succ, List.filter_append, List.map_append]
  congr 1
  by_cases h : (stB p l j == st) = true
  · rw [if_pos h]; simp [h]
  · rw [if_neg h]; simp [h]
theorem numsJ_le (p : Pol) (l : List Snp) (st : Bool) (j : Nat) : (numsJ p l st j).length ≤ j := by
  unfold numsJ
  rw [List.length_map]
  have := List.length_filter_le (fun i => stB p l i == st) (List.range j)
  simpa using this

def toldCode (p : Pol) (l : List Snp) : Int := if p.ok then (if soundB 0 l then 0 else 2) else 5
def toldL (p : Pol) (l : List Snp) (st : Bool) : List Int := if toldCode p l = 0 then numsJ p l st l.length else []

/-- A list of numbers of the call's own. -/
structure OwnI (W w : World) (v : Value) (xs : List Int) : Prop where
  row : w.ownsRow 0 3 1 v xs.length (intCells xs)
  fresh : ∀ g, v.ownBlock = some g → W.heap.size ≤ g
theorem OwnI.nil (W w : World) : OwnI W w (.slice none 0 0) [] := ⟨World.ownsRow_nil _ _ _ _, fun g hg => by simp [Value.ownBlock] at hg⟩
theorem own_chg {S : Nat → Prop} {w w' : World} {base : Nat} {e : TypeId} {size n : Nat} {v : Value} {xs : List Value} (h : w.ownsRow base e size v n xs) (hc : Chg S w w') (hs : ∀ g, v.ownBlock = some g → ¬ S g) : w'.ownsRow base e size v n xs := by
  refine ⟨h.1, ?_⟩
  rcases h.2 with ⟨rfl, h2⟩ | ⟨g, cap, cur, rfl, hb, hh, h1, h2, h3⟩
  · exact .inl ⟨rfl, h2⟩
  · exact .inr ⟨g, cap, cur, rfl, hb, hc.heap hh (hs g rfl), h1, h2, h3⟩
theorem own_shape {w : World} {base : Nat} {e : TypeId} {size n : Nat} {v : Value} {xs : List Value} (h : w.ownsRow base e size v n xs) : ∃ A c, v = .slice A n c ∧ n ≤ c ∧ c ≤ maxLen := by
  rcases h.2 with ⟨rfl, rfl⟩ | ⟨g, cap, cur, rfl, _, _, h1, h2, _⟩
  · exact ⟨none, 0, rfl, Nat.le_refl _, by simp⟩
  · exact ⟨_, cap, rfl, h1, h2⟩
theorem OwnI.new_ {W w w' : World} {v : Value} {xs : List Int} (h : OwnI W w v xs) (k : Chg (fun _ => False) w w') : OwnI W w' v xs := ⟨own_chg h.row k (fun _ _ h => h), h.fresh⟩

/-- The blocks of a running 'told'. -/
structure EnvT (w wr : World) (L b m : Nat) (A : Option Addr) (c : Nat) (l : List Snp) (p : Pol) : Prop where
  hLB : Blk wr w.heap.size 22 #[.slice A l.length c]
  hPB : Blk wr (w.heap.size + 1) 24 #[.int .i64 p.last, .int .i64 p.span, .int .i64 p.spans]
  hL : Blk wr L 46 #[.map (some b)]
  hS : SetI wr b m (endsS p l)
  chg : Chg (fun _ => False) w wr
theorem EnvT.new_ {w wr w' : World} {L b m : Nat} {A : Option Addr} {c : Nat} {l : List Snp} {p : Pol} (h : EnvT w wr L b m A c l p) (k : Chg (fun _ => False) wr w') : EnvT w w' L b m A c l p :=
  ⟨h.hLB.chg k (fun h => h), h.hPB.chg k (fun h => h), h.hL.chg k (fun h => h), h.hS.chg k (fun h => h), h.chg.trans k (fun _ _ h => h)⟩
theorem EnvT.row {w wr w' : World} {L b m : Nat} {A : Option Addr} {c : Nat} {l : List Snp} {p : Pol} (h : EnvT w wr L b m A c l p) {v : Value} {n : Nat} {xs : List Value} (ho : wr.ownsRow 0 3 1 v n xs) (hf : ∀ g, v.ownBlock = some g → w.heap.size ≤ g) (k : Chg (fun k => some k = v.ownBlock) wr w') : EnvT w w' L b m A c l p := by
  have hne : ∀ g t cs, Blk wr g t cs → t ≠ 3 → ¬ some g = v.ownBlock := fun g t cs hb ht he => own_blk_ne ho hb (Ne.symm ht) he
  refine ⟨h.hLB.chg k (hne _ _ _ h.hLB (by decide)), h.hPB.chg k (hne _ _ _ h.hPB (by decide)), h.hL.chg k (hne _ _ _ h.hL (by decide)), h.hS.chg k fun he => ?_, h.chg.trans k fun g hg he => absurd (hf g he.symm) (by omega)⟩
  rcases ho.2 with ⟨rfl, _⟩ | ⟨g, cap, cur, rfl, _, hh, _⟩
  · cases he
  · have : b = g := by simpa [Value.ownBlock] using he
    subst this
    exact h.hS.not_cells hh

theorem envT_start {w w0 w3 : World} {A : Option Addr} {c : Nat} {l : List Snp} {p : Pol} {b m : Nat} (hLB : Blk w0 w.heap.size 22 #[.slice A l.length c]) (hPB : Blk w0 (w.heap.size + 1) 24 #[.int .i64 p.last, .int .i64 p.span, .int .i64 p.spans]) (k : Chg (fun _ => False) w0 w3) (k0 : Chg (fun _ => False) w w0) (hS : SetI w3 b m (endsS p l)) :
    EnvT w (w3.alloc (.cells #[.map (some b)] 46)) w3.heap.size b m A c l p :=
  ⟨(hLB.chg k (fun h => h)).alloc _, (hPB.chg k (fun h => h)).alloc _, Blk.new _ _ _, hS.chg ((Chg.refl (fun _ => False) w3).alloc _) (fun h => h), (k0.trans k (fun _ _ h => h)).alloc _⟩

theorem toldEnv_next {w w4 w5 : World} {L b m : Nat} {A : Option Addr} {c : Nat} {l : List Snp} {p : Pol} {v : Value} {xs : List Int} {o : Obj} (h : EnvT w w4 L b m A c l p) (hO : OwnI w w4 v xs) (hg : (w4.alloc o).grownBy w5 v.ownBlock) : EnvT w w5 L b m A c l p :=
  h.row hO.row hO.fresh (((Chg.refl _ w4).alloc o).grown hg fun _ hk => .inr hk.symm)
theorem toldOwn_next {w w4 w5 : World} {v v5 : Value} {xs : List Int} {n : Int} {o : Obj} (hO : OwnI w w4 v xs) (hs : w.heap.size ≤ w4.heap.size) (ho : w5.ownsRow 0 3 1 v5 (xs.length + 1) (intCells xs ++ [.int .i64 n])) (ha : v5.ownBlock = v.ownBlock ∨ v5.ownBlock = some (w4.alloc o).heap.size) : OwnI w w5 v5 (xs ++ [n]) := by
  refine ⟨by simpa [intCells] using ho, fun g hg => ?_⟩
  rcases ha with h | h
  · exact hO.fresh g (h ▸ hg)
  · rw [hg] at h; simp at h; omega

set_option maxRecDepth 100000 in
set_option maxHeartbeats 800000 in
theorem told_any {D : Nat → Prop} {w : World} {A : Option Addr} {l : List Snp} {c : Nat} (h : Snaps D w A l) (hl : l.length ≤ 1000) (p : Pol) (st : Bool) :
    Calls Try.prog 25 #[.slice A l.length c, p.v, .bool st] w fun e w' => ∃ v, e = .returned (.tuple #[v, .int .i64 (toldCode p l)]) ∧ OwnI w w' v (toldL p l st) ∧ Chg (fun _ => False) w w' := by
  have h0 := h.chg (S := fun _ => False) (((Chg.refl _ w).alloc (.cells #[.slice A l.length c] 22)).alloc (.cells #[.int .i64 p.last, .int .i64 p.span, .int .i64 p.spans] 24)) (fun _ _ h => h)
  have hLB0 : Blk ((w.alloc (.cells #[.slice A l.length c] 22)).alloc (.cells #[.int .i64 p.last, .int .i64 p.span, .int .i64 p.spans] 24)) w.heap.size 22 #[.slice A l.length c] := (Blk.new w 22 _).alloc _
  have hPB0 : Blk ((w.alloc (.cells #[.slice A l.length c] 22)).alloc (.cells #[.int .i64 p.last, .int .i64 p.span, .int .i64 p.spans] 24)) (w.heap.size + 1) 24 #[.int .i64 p.last, .int .i64 p.span, .int .i64 p.spans] := by
    have := Blk.new (w.alloc (.cells #[.slice A l.length c] 22)) 24 #[.int .i64 p.last, .int .i64 p.span, .int .i64 p.spans]
    simpa using this
  have k0 : Chg (fun _ => False) w ((w.alloc (.cells #[.slice A l.length c] 22)).alloc (.cells #[.int .i64 p.last, .int .i64 p.span, .int .i64 p.spans] 24)) := ((Chg.refl _ w).alloc _).alloc _
  generalize hw0 : (w.alloc (.cells #[.slice A l.length c] 22)).alloc (.cells #[.int .i64 p.last, .int .i64 p.span, .int .i64 p.spans] 24) = w0 at h0 hLB0 hPB0 k0
  have v0 := hLB0.cell 0
  have v1 := hPB0.cell 0
  have v2 := hPB0.cell 1
  have v3 := hPB0.cell 2
  simp only [List.getElem?_toArray] at v0 v1 v2 v3
  have hvp : p.v = .agg #[.int .i64 p.last, .int .i64 p.span, .int .i64 p.spans] := rfl
  by_cases hp : p.ok = true
  · have hpc : p.code = 0 := by simp [Pol.code, hp]
    by_cases hs : soundB 0 l = true
    · have hpo := hp
      simp only [Pol.ok, Bool.and_eq_true, decide_eq_true_iff] at hpo
      obtain ⟨⟨⟨p1, p2⟩, p3, p4⟩, p5, p6⟩ := hpo
      have htm := tame_of (prev := 0) (by omega) hs
      have ht : toldCode p l = 0 := by simp [toldCode, hp, hs]
      have htl : toldL p l st = numsJ p l st l.length := by simp [toldL, ht]
      have HTL := Lib.hid htl
      obtain ⟨i3, hi3, hz3, hs3, hby3⟩ := info_parts Try.info3
      rw [ht, hvp]
      clear ht htl
      have HS := Lib.hid hs
      clear hs
      go_enter Try.func25, Try.ntmps25
      go_wp2_with (first
        | (go_at_call 12; rw [← hvp]; refine (check_any p _).mono ?_; rintro e w1 ⟨rfl, k1⟩; rw [hpc]; have u0 := (hLB0.chg k1 (fun h => h)).cell 0; simp only [List.getElem?_toArray] at u0)
        | (go_at_call 11; refine (sound_any (h0.chg k1 (fun _ _ h => h)) (by omega)).mono ?_; rintro e w2 ⟨rfl, k2⟩; rw [HS.out]; have k12 := k1.trans k2 (fun _ _ h => h); have y0 := (hLB0.chg k12 (fun h => h)).cell 0; have y1 := (hPB0.chg k12 (fun h => h)).cell 0; have y2 := (hPB0.chg k12 (fun h => h)).cell 1; have y3 := (hPB0.chg k12 (fun h => h)).cell 2; simp only [List.getElem?_toArray] at y0 y1 y2 y3)
        | (go_at_call 28; rw [← hvp]; refine (ends_any (h0.chg k12 (fun _ _ h => h)) hl htm p hp).mono ?_; rintro e w3 ⟨b, m, rfl, hS3, hb3, k3⟩; have hE := envT_start hLB0 hPB0 (k12.trans k3 (fun _ _ h => h)) k0 hS3; have z0 := hE.hLB.cell 0; simp only [List.getElem?_toArray] at z0))
      clear v0 v1 v2 v3 u0 y0 y1 y2 y3 z0 k1 k2 k12 k3 hS3 hb3 hLB0 hPB0 k0 h0 hw0
      generalize w3.heap.size = L at *
      go_loopg [11, 28] l.length (fun k v i wr => ∃ j : Nat, (j + k ≤ l.length ∧ l.length ≤ j + k) ∧ i = .int .i64 (j : Int) ∧ EnvT w wr L b m A c l p ∧ OwnI w wr v (numsJ p l st j))
      case atStart => exact ⟨0, ⟨by omega, by omega⟩, rfl, hE, OwnI.nil _ _⟩
      case round =>
        obtain ⟨j, ⟨hj1, hj2⟩, rfl, hE, hO⟩ := hrel
        by_cases hj : j < l.length
        · obtain ⟨ad, rfl, had, c1w, c2w⟩ := Snaps.at_ (D := D) (w := w) (A := A) (l := l) h hj
          have htj := htm l[j] (List.getElem_mem hj)
          have hnj := numsJ_succ p l st j
          rw [List.getD_eq_getElem?_getD, List.getElem?_eq_getElem hj] at hnj
          simp only [Option.getD_some] at hnj
          generalize l[j] = x at c1w c2w htj hnj
          obtain ⟨n, t⟩ := x
          simp only at c1w c2w htj hnj
          have c1 := hE.chg.cell c1w (fun h => h)
          have c2 := hE.chg.cell c2w (fun h => h)
          have hjl : (j : Int) < (l.length : Int) := by omega
          have hE1 := hE.new_ ((Chg.refl (fun _ => False) wr).alloc (.cells #[.int .i64 n, .int .i64 t] 37))
          have hO1 := hO.new_ ((Chg.refl (fun _ => False) wr).alloc (.cells #[.int .i64 n, .int .i64 t] 37))
          have hB := Blk.new wr 37 #[.int .i64 n, .int .i64 t]
          have hnl := numsJ_le p l st j
          have q1 : (numsJ p l st j).length + 1 ≤ maxLen := by unfold maxLen; omega
          have q2 : ((numsJ p l st j).length + 1) * 8 ≤ 140737488355328 := by omega
          rcases hse : (stB p l j == st) with _ | _
          · rw [hse] at hnj
            simp only [Bool.false_eq_true, if_false, List.append_nil] at hnj
            have HN := Lib.hid hnj
            clear hnj
            go_wp2_with (first
              | (go_at_call 29; refine (stays_any (h.chg hE1.chg (fun _ _ h => h)) hl htm p1 p2 hE1.hL hE1.hS hE1.hLB hE1.hPB j hj).mono ?_; rintro e w4 ⟨rfl, k4⟩))
            go_roundg (gk - 1)
            case measure => omega
            case rel => exact ⟨j + 1, ⟨by omega, by omega⟩, by go_num, hE1.new_ k4, by rw [HN.out]; exact hO1.new_ k4⟩
          · rw [hse] at hnj
            simp only [if_true] at hnj
            have HN := Lib.hid hnj
            clear hnj
            go_wp2_with (first
              | (go_at_call 29; refine (stays_any (h.chg hE1.chg (fun _ _ h => h)) hl htm p1 p2 hE1.hL hE1.hS hE1.hLB hE1.hPB j hj).mono ?_; rintro e w4 ⟨rfl, k4⟩; have s0 := (hB.chg k4 (fun h => h)).cell 0; simp only [List.getElem?_toArray] at s0; have hE4 := hE1.new_ k4; have hO4 := hO1.new_ k4)
              | (at_builtin; refine wpList_append_any _ rfl (.tmp 38) (.tmp 41) 30 rfl 0 3 i3 (.int .i64 0) 1 8 Try.underlying30 hi3 hz3 hs3 hby3 rfl (by decide) u11 (numsJ p l st j).length (intCells (numsJ p l st j)) rfl (hO4.row.alloc _) (some ⟨w4.heap.size, 0, none⟩) 1 1 [.int .i64 n] rfl rfl (RdC.one _ 3) (by intro u hu; simp at hu; subst hu; rfl) q1 q2 (Nat.zero_le _) ?_; intro v5 w5 ho5 hg5 ha5))
            go_roundg (gk - 1)
            case measure => omega
            case rel => exact ⟨j + 1, ⟨by omega, by omega⟩, by go_num, toldEnv_next hE4 hO4 hg5, by rw [HN.out]; exact toldOwn_next hO4 (hE4.chg.size) ho5 ha5⟩
        · obtain rfl : j = l.length := by omega
          go_wp2_with fail
          go_ret2
          exact ⟨_, rfl, by rw [HTL.out]; exact hO, hE.chg⟩
    · have ht : toldCode p l = 2 := by simp [toldCode, hp, hs]
      have htl : toldL p l st = [] := by simp [toldL, ht]
      have hsf : soundB 0 l = false := by simpa using hs
      have HS := Lib.hid hsf
      rw [ht, htl, hvp]
      clear hs hsf
      go_enter Try.func25, Try.ntmps25
      go_wp2_with (first
        | (go_at_call 12; rw [← hvp]; refine (check_any p _).mono ?_; rintro e w1 ⟨rfl, k1⟩; rw [hpc]; have u0 := (hLB0.chg k1 (fun h => h)).cell 0; simp only [List.getElem?_toArray] at u0)
        | (go_at_call 11; refine (sound_any (h0.chg k1 (fun _ _ h => h)) (by omega)).mono ?_; rintro e w2 ⟨rfl, k2⟩; rw [HS.out]))
      go_ret2
      exact ⟨_, rfl, OwnI.nil _ _, (k0.trans k1 (fun _ _ h => h)).trans k2 (fun _ _ h => h)⟩
  · have hc : p.code = 5 := by simp [Pol.code, hp]
    have ht : toldCode p l = 5 := by simp [toldCode, hp]
    have htl : toldL p l st = [] := by simp [toldL, ht]
    rw [ht, htl, hvp]
    go_enter Try.func25, Try.ntmps25
    go_wp2_with (first | (go_at_call 12; rw [← hvp]; refine (check_any p _).mono ?_; rintro e w1 ⟨rfl, k1⟩; rw [hc]))

    go_ret2
    exact ⟨_, rfl, OwnI.nil _ _, k0.trans k1 (fun _ _ h => h)⟩
end Go.Proofs.Ytjfkjohocopcgaa
