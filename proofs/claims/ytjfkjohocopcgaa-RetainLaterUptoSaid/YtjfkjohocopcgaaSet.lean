/- A set of numbers (map[int]struct{}) that a call makes: its laws at the operations, in regions of a fixed and of a drawn order; and what 'later' counts. -/
import Derived.Test.YtjfkjohocopcgaaBase
import Derived.Maps.OwnSet
import Derived.Maps.RangeWalk
namespace Go.Proofs.Ytjfkjohocopcgaa
open Go.RowKit Go.Maps

theorem keyed3 : Keyed Try.prog 3 := int_keyed Try.underlying3
theorem zero48 (w : World) : (zeroValue 48).run Try.prog w = .ok (.agg #[]) w := by kernel_rfl
def kq (x : Int) : Lit := .int .i64 x
theorem key_of {x : Int} (h1 : -9223372036854775808 ≤ x) (h2 : x ≤ 9223372036854775807) : keyOf Try.prog 3 (.int .i64 x) = some (kq x) := keyOf_int_mk Try.underlying3 (WalkArith.wf_i64 (by omega))

/-- Block b is a set that holds just the numbers of S; m: how often it was written, at most. -/
def SetI (w : World) (b m : Nat) (S : List Int) : Prop :=
  ∃ D : DataW Unit, w.ownsMap Try.prog 3 unitElem b m D ∧ S.Nodup ∧ ∀ x : Int, Maps.has D (kq x) = S.contains x

def addS (S : List Int) (x : Int) : List Int := if S.contains x then S else S ++ [x]
theorem addS_contains (S : List Int) (x y : Int) : (addS S x).contains y = (S.contains y || y == x) := by
  unfold addS
  split
  · next h =>
    by_cases hy : y = x
    · subst hy; simp at h; simp [h]
    · simp [hy]
  · simp [Bool.beq_eq_decide_eq, eq_comm]
theorem addS_nodup {S : List Int} (h : S.Nodup) (x : Int) : (addS S x).Nodup := by
  unfold addS
  split
  · exact h
  · next hx =>
    rw [List.nodup_append]
    refine ⟨h, by simp, fun a ha b hb he => ?_⟩
    have : b = x := by simpa using hb
    subst this
    subst he
    exact hx (by simpa using ha)

section
variable {w w' : World} {b m : Nat} {S : List Int}
theorem SetI.chg {T : Nat → Prop} (h : SetI w b m S) (hc : Chg T w w') (hb : ¬ T b) : SetI w' b m S := by
  obtain ⟨D, ⟨es, clock, hb', r⟩, h2, h3⟩ := h
  exact ⟨D, ⟨es, clock, hc.heap hb' hb, r⟩, h2, h3⟩
theorem SetI.lt (h : SetI w b m S) : b < w.heap.size := by
  obtain ⟨D, h1, _⟩ := h
  exact h1.lt
theorem SetI.drewN (h : SetI w b m S) (n : Nat) : SetI (w.drewN n) b m S := by
  obtain ⟨D, ⟨es, clock, hb', r⟩, h2, h3⟩ := h
  exact ⟨D, ⟨es, clock, hb', r⟩, h2, h3⟩
theorem SetI.mono (h : SetI w b m S) {m' : Nat} (hm : m ≤ m') : SetI w b m' S := by
  obtain ⟨D, h1, h2⟩ := h
  exact ⟨D, h1.mono hm, h2⟩
theorem SetI.made (w : World) : SetI (w.alloc (.map #[] 0)) w.heap.size 0 [] :=
  ⟨.map [], World.ownsMap_made _ _ _ _, List.nodup_nil, fun _ => rfl⟩
theorem SetI.not_cells (h : SetI w b m S) {t : TypeId} {cs : Array Value} : ¬ Blk w b t cs := by
  obtain ⟨D, ⟨es, clock, hb', r⟩, _⟩ := h
  intro hb
  unfold Blk at hb
  rw [hb'] at hb
  cases hb

theorem set_put_run (h : SetI w b m S) (hm : m < maxLen) {x : Int} (h1 : -9223372036854775808 ≤ x) (h2 : x ≤ 9223372036854775807) :
    ∃ w', (Instr.mapUpdate 46 (.map (some b)) (.int .i64 x) (.agg #[])).run Try.prog w = .ok () w' ∧ SetI w' b (m + 1) (addS S x) ∧ Chg (fun k => k = b) w w' := by
  obtain ⟨D, hD, hn, hh⟩ := h
  obtain ⟨w', hrun, r1, r2⟩ := hD.update keyed3 Try.underlying46 hm (key_of h1 h2) (unitElem_mk (H := Unit))
  refine ⟨w', hrun, ⟨_, r1, addS_nodup hn x, fun y => ?_⟩, (Chg.refl _ w).grown r2 fun k hk => .inr (by injection hk with hk; exact hk.symm)⟩
  rw [addS_contains]
  by_cases hy : y = x
  · subst hy
    rw [Maps.has_put_same hD.isMap (by exact trivial)]
    simp
  · rw [Maps.has_put_other (by intro h; unfold kq at h; injection h with _ h; exact hy h), hh]
    simp [hy]
theorem set_look_run (h : SetI w b m S) {x : Int} (h1 : -9223372036854775808 ≤ x) (h2 : x ≤ 9223372036854775807) :
    (Instr.lookup 46 (.map (some b)) (.int .i64 x) true).run Try.prog w = .ok (.tuple #[.agg #[], .bool (S.contains x)]) w := by
  obtain ⟨D, hD, hn, hh⟩ := h
  obtain ⟨v, ps, hrun, hv⟩ := hD.look_ok keyed3 Try.underlying46 (zero48 w) (unitElem_mk (H := Unit)) (key_of h1 h2)
  obtain ⟨rfl, _⟩ := unitElem_inv hv
  rw [← hh x]
  exact hrun
end

section
variable {w : World} {b m : Nat} {S : List Int} {ops : Array Oper} {rest : List Oper} {o : Oper} {a : Act} {Q : Exit → Act → World → Prop} {K : Act → World → Prop} {E : Prop}
theorem wp_put (mo xo vo : Operand) (hop : o.op = Op.mapUpdate 46 mo xo vo) (hm : a.eval mo = .map (some b)) {x : Int} (hx : a.eval xo = .int .i64 x) (hv : a.eval vo = .agg #[]) (h : SetI w b m S) (hml : m < maxLen)
    (h1 : -9223372036854775808 ≤ x) (h2 : x ≤ 9223372036854775807) (hK : ∀ w', SetI w' b (m + 1) (addS S x) → Chg (fun k => k = b) w w' → K (a.put o.dst undef) w') : o.wp Try.prog a w K Q := by
  obtain ⟨w', hrun, r1, r2⟩ := set_put_run h hml h1 h2
  unfold Oper.wp
  simp [execOp, hop, hm, hx, hv, hrun, Result.andThen]
  exact hK w' r1 r2
theorem wpList_put (hg : o.guard = none) (mo xo vo : Operand) (hop : o.op = Op.mapUpdate 46 mo xo vo) (hm : a.eval mo = .map (some b)) {x : Int} (hx : a.eval xo = .int .i64 x) (hv : a.eval vo = .agg #[]) (h : SetI w b m S) (hml : m < maxLen)
    (h1 : -9223372036854775808 ≤ x) (h2 : x ≤ 9223372036854775807) (hK : ∀ w', SetI w' b (m + 1) (addS S x) → Chg (fun k => k = b) w w' → wpList Try.prog ops Q rest (a.put o.dst undef) w') : wpList Try.prog ops Q (o :: rest) a w :=
  wpList_plain hg fun _ hK' => wp_put mo xo vo hop hm hx hv h hml h1 h2 fun w' r1 r2 => hK' _ _ (hK w' r1 r2)
theorem step_put (hg : o.guard = none) (mo xo vo : Operand) (hop : o.op = Op.mapUpdate 46 mo xo vo) (hm : a.eval mo = .map (some b)) {x : Int} (hx : a.eval xo = .int .i64 x) (hv : a.eval vo = .agg #[]) (h : SetI w b m S) (hml : m < maxLen)
    (h1 : -9223372036854775808 ≤ x) (h2 : x ≤ 9223372036854775807) (hK : ∀ w', SetI w' b (m + 1) (addS S x) → Chg (fun k => k = b) w w' → K (a.put o.dst undef) w') :
    if Region.wanted o (yielded ops a.tmps) = true then Oper.wp Try.prog o a w K Q else E := by
  have hw : Region.wanted o (yielded ops a.tmps) = true := by simp [Region.wanted, hg]
  rw [if_pos hw]
  exact wp_put mo xo vo hop hm hx hv h hml h1 h2 hK
theorem wp_look (mo xo : Operand) (hop : o.op = Op.lookup 46 mo xo true) (hm : a.eval mo = .map (some b)) {x : Int} (hx : a.eval xo = .int .i64 x) (h : SetI w b m S)
    (h1 : -9223372036854775808 ≤ x) (h2 : x ≤ 9223372036854775807) (hK : K (a.put o.dst (.tuple #[.agg #[], .bool (S.contains x)])) w) : o.wp Try.prog a w K Q := by
  have hrun := set_look_run h h1 h2
  generalize S.contains x = y at hrun hK
  unfold Oper.wp
  simp [execOp, hop, hm, hx, hrun, Result.andThen]
  exact hK
theorem wpList_look (hg : o.guard = none) (mo xo : Operand) (hop : o.op = Op.lookup 46 mo xo true) (hm : a.eval mo = .map (some b)) {x : Int} (hx : a.eval xo = .int .i64 x) (h : SetI w b m S)
    (h1 : -9223372036854775808 ≤ x) (h2 : x ≤ 9223372036854775807) (hK : wpList Try.prog ops Q rest (a.put o.dst (.tuple #[.agg #[], .bool (S.contains x)])) w) : wpList Try.prog ops Q (o :: rest) a w :=
  wpList_plain hg fun _ hK' => wp_look mo xo hop hm hx h h1 h2 (hK' _ _ hK)
theorem step_look (hg : o.guard = none) (mo xo : Operand) (hop : o.op = Op.lookup 46 mo xo true) (hm : a.eval mo = .map (some b)) {x : Int} (hx : a.eval xo = .int .i64 x) (h : SetI w b m S)
    (h1 : -9223372036854775808 ≤ x) (h2 : x ≤ 9223372036854775807) (hK : K (a.put o.dst (.tuple #[.agg #[], .bool (S.contains x)])) w) :
    if Region.wanted o (yielded ops a.tmps) = true then Oper.wp Try.prog o a w K Q else E := by
  have hw : Region.wanted o (yielded ops a.tmps) = true := by simp [Region.wanted, hg]
  rw [if_pos hw]
  exact wp_look mo xo hop hm hx h h1 h2 hK
end
end Go.Proofs.Ytjfkjohocopcgaa
