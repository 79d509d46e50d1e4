/- Pick, and those of some snapshots that have certain numbers: left. -/
import Derived.Test.YtjfkjohocopcgaaAwake
namespace Go.Proofs.Ytjfkjohocopcgaa
open Go.RowKit Go.Maps

def pickI (x n : Int) : Int := if x.tmod n < 0 then x.tmod n + n else x.tmod n
theorem pickI_in {x n : Int} (hn : 1 ≤ n) : 0 ≤ pickI x n ∧ pickI x n < n := by
  unfold pickI
  have h1 := Int.tmod_lt_of_pos x (show 0 < n by omega)
  have h2 : -n < x.tmod n := by
    have := Int.tmod_lt_of_pos (-x) (show 0 < n by omega)
    rw [Int.neg_tmod] at this
    omega
  split <;> omega

set_option maxHeartbeats 400000 in
theorem pick_any {x n : Int} (w : World) (hn : 1 ≤ n) (hn2 : n ≤ 4611686018427387904) :
    Calls Try.prog 10 #[.int .i64 x, .int .i64 n] w fun e w' => e = .returned (.int .i64 (pickI x n)) ∧ w = w' := by
  have h1 := Int.tmod_lt_of_pos x (show 0 < n by omega)
  have h2 : -n < x.tmod n := by
    have := Int.tmod_lt_of_pos (-x) (show 0 < n by omega)
    rw [Int.neg_tmod] at this
    omega
  go_enter Try.func10, Try.ntmps10
  go_wp2
  · go_ret
    exact ⟨by rw [pickI, if_pos (by assumption)]; rfl, rfl⟩
  · go_ret
    exact ⟨by rw [pickI, if_neg (by omega)]; rfl, rfl⟩


/-- Snapshots of the call's own. -/
structure OwnS (W w : World) (v : Value) (xs : List Snp) : Prop where
  row : w.ownsRow 0 37 2 v xs.length (snapCells xs)
  fresh : ∀ g, v.ownBlock = some g → W.heap.size ≤ g
theorem Try.info37 : (Try.prog.info? 37).map (fun i => (i.zero, i.size, i.bytes)) = some (some (.agg #[.int .i64 0, .int .i64 0]), 2, 16) := by kernel_rfl
def leftL (l : List Snp) (n : List Int) : List Snp := l.filter fun x => n.contains x.1
theorem leftL_take (l : List Snp) (n : List Int) (j : Nat) (hj : j < l.length) : leftL (l.take (j + 1)) n = leftL (l.take j) n ++ (if n.contains l[j].1 = true then [l[j]] else []) := by
  unfold leftL
  rw [List.take_succ_eq_append_getElem hj, List.filter_append]
  congr 1
  by_cases h : n.contains l[j].1 = true
  · rw [if_pos h]; simpa using h
  · rw [if_neg h]; simpa using h
theorem OwnS.new_ {W w w' : World} {v : Value} {xs : List Snp} (h : OwnS W w v xs) (k : Chg (fun _ => False) w w') : OwnS W w' v xs := ⟨own_chg h.row k (fun _ _ h => h), h.fresh⟩
theorem OwnS.snaps {W w : World} {A : Option Addr} {n c : Nat} {xs : List Snp} (h : OwnS W w (.slice A n c) xs) : n = xs.length ∧ Snaps (fun _ => True) w A xs := by
  rcases h.row.2 with ⟨he, h0⟩ | ⟨g, cap, cur, he, _, hb, h1, h2, h3, h4⟩
  · injection he with ha hn hc
    have : xs = [] := List.eq_nil_of_length_eq_zero h0
    subst this
    exact ⟨by simp [hn], RdC.nil _⟩
  · injection he with ha hn hc
    exact ⟨hn, fun _ => ⟨⟨g, 0, none⟩, ha, trivial, fun j u hu => h.row.cells (g := g) (by rw [ha]; rfl) j u hu⟩⟩

theorem leftL_le (l : List Snp) (n : List Int) : (leftL l n).length ≤ l.length := List.length_filter_le _ _

theorem ownS_next {w w4 w5 : World} {v v5 : Value} {xs : List Snp} {x : Snp} {o : Obj} (hO : OwnS w w4 v xs) (hs : w.heap.size ≤ w4.heap.size) (ho : w5.ownsRow 0 37 2 v5 (xs.length + 1) (snapCells xs ++ [.int .i64 x.1, .int .i64 x.2])) (ha : v5.ownBlock = v.ownBlock ∨ v5.ownBlock = some (w4.alloc o).heap.size) : OwnS w w5 v5 (xs ++ [x]) := by
  refine ⟨by simpa [snapCells] using ho, fun g hg => ?_⟩
  rcases ha with h | h
  · exact hO.fresh g (h ▸ hg)
  · rw [hg] at h; simp at h; omega

set_option maxHeartbeats 800000 in
theorem left_any {D D' : Nat → Prop} {w : World} {A A' : Option Addr} {l : List Snp} {ns : List Int} {c c' : Nat} (h : Snaps D w A l) (hl : l.length ≤ 1000) (hn : Nums D' w A' ns) (hnl : ns.length ≤ 1000) :
    Calls Try.prog 15 #[.slice A l.length c, .slice A' ns.length c'] w fun e w' => ∃ v, e = .returned v ∧ OwnS w w' v (leftL l ns) ∧ Chg (fun _ => False) w w' := by
  obtain ⟨i0, hi0, hz0, hs0, hb0⟩ := info_parts Try.info37
  go_enter Try.func15, Try.ntmps15
  go_wp2_with fail
  go_loopg [5, 6] l.length (fun k v i wr => ∃ j : Nat, (j + k ≤ l.length ∧ l.length ≤ j + k) ∧ i = .int .i64 (j : Int) ∧ OwnS w wr v (leftL (l.take j) ns) ∧ Chg (fun _ => False) w wr)
  case atStart => exact ⟨0, ⟨by omega, by omega⟩, rfl, ⟨World.ownsRow_nil _ _ _ _, fun g hg => by simp [Value.ownBlock] at hg⟩, Chg.refl _ _⟩
  case round =>
    obtain ⟨j, ⟨hj1, hj2⟩, rfl, hO, hc⟩ := hrel
    by_cases hj : j < l.length
    · obtain ⟨ad, rfl, had, c1w, c2w⟩ := Snaps.at_ (D := D) (w := w) (A := A) (l := l) h hj
      have hlt := leftL_take l ns j hj
      generalize l[j] = x at c1w c2w hlt
      obtain ⟨n, t⟩ := x
      simp only at c1w c2w hlt
      have c1 := hc.cell c1w (fun h => h)
      have c2 := hc.cell c2w (fun h => h)
      have hNr := hn.chg hc (fun _ _ h => h)
      have hll := leftL_le (l.take j) ns
      have hlj : (l.take j).length = j := by simp; omega
      have q1 : (leftL (l.take j) ns).length + 1 ≤ maxLen := by unfold maxLen; omega
      have q2 : ((leftL (l.take j) ns).length + 1) * 16 ≤ 140737488355328 := by omega
      have hjl : (j : Int) < (l.length : Int) := by omega
      rcases hcn : ns.contains n with _ | _
      · rw [hcn] at hlt
        simp only [Bool.false_eq_true, if_false, List.append_nil] at hlt
        have HN := Lib.hid hlt
        have HC := Lib.hid hcn
        clear hlt hcn
        go_wp2_with (go_at_call 14; refine (among_any hNr (by omega) n).mono ?_; rintro e w' ⟨rfl, rfl⟩; rw [HC.out])
        go_roundg (gk - 1)
        case measure => omega
        case rel => exact ⟨j + 1, ⟨by omega, by omega⟩, by go_num, by rw [HN.out]; exact hO, hc⟩
      · rw [hcn] at hlt
        simp only [if_true] at hlt
        have HN := Lib.hid hlt
        have HC := Lib.hid hcn
        clear hlt hcn
        go_wp2_with (first
          | (go_at_call 14; refine (among_any hNr (by omega) n).mono ?_; rintro e w' ⟨rfl, rfl⟩; rw [HC.out])
          | (at_builtin; refine wpList_append_any _ rfl (.tmp 20) (.tmp 25) 22 rfl 0 37 i0 (.agg #[.int .i64 0, .int .i64 0]) 2 16 Try.underlying22 hi0 hz0 hs0 hb0 rfl (by decide) u5 (leftL (l.take j) ns).length (snapCells (leftL (l.take j) ns)) rfl (hO.row.alloc _) (some ⟨wr.heap.size, 0, none⟩) 1 1 [.int .i64 n, .int .i64 t] rfl rfl (row_snaps (l := [(n, t)]) rfl) (snapCells_one [(n, t)]) q1 q2 (Nat.zero_le _) ?_; intro v5 w5 ho5 hg5 ha5))
        go_roundg (gk - 1)
        case measure => omega
        case rel => exact ⟨j + 1, ⟨by omega, by omega⟩, by go_num, by rw [HN.out]; exact ownS_next hO hc.size ho5 ha5, hc.trans (((Chg.refl (fun k => some k = u5.ownBlock) _).alloc _).grown hg5 (fun k hk => .inr hk.symm)) (fun k hk he => absurd (hO.fresh k he.symm) (by omega))⟩
    · obtain rfl : j = l.length := by omega
      rw [List.take_length] at hO
      go_wp2_with fail
      go_ret
      exact ⟨_, rfl, hO, hc⟩
end Go.Proofs.Ytjfkjohocopcgaa
