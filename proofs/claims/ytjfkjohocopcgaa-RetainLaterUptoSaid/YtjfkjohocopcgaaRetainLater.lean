/- Who goes would go, too, if more snapshots had come by then, of whatever ticks: satchellaw22.RetainLater returns true, for every two lists of snapshots and every policy, where the arguments hold together at most 1048576 values and letters. Condition: that bound alone (the statement of the second form). -/
import Derived.Test.YtjfkjohocopcgaaLaterWalk
import Derived.Test.YtjfkjohocopcgaaOpen
import Derived.JoinedCond
namespace Go.Proofs.Ytjfkjohocopcgaa
open Go.ChangeShapes Go.WideShapes Go.ChangeAt Go.RowKit
namespace RetainLater

theorem bulk_pos {H : Type} (d : DataW H) : 1 ≤ Rows.uptoBulk d := by
  rcases d with l | _ | d | ⟨e, s⟩ | p | ⟨t, d⟩ | e | h
  · rcases l with _ | _ | _ | _ | _ | _ <;> simp [Rows.uptoBulk]
  all_goals simp [Rows.uptoBulk]
theorem many_le {H : Type} : ∀ l : List (DataW H), l.length ≤ Rows.uptoBulkAll l
  | [] => Nat.zero_le _
  | d :: l => by
    have h1 := bulk_pos d
    have h2 := many_le l
    simp only [Rows.uptoBulkAll, List.length_cons]
    omega
theorem short_snaps {H : Type} {enc : TypeId × Value → H} {w : World} {fuel : Nat} {held : Bool} {v : Value} {x : DataW H × List MemPlace} (h : DataW.trod enc Try.prog w 0 (fun _ => true) held fuel 22 [v] = some x) {A : Option Addr} {n c : Nat} (hv : v = .slice A n c) :
    n ≤ Rows.uptoBulk x.1 := by
  rcases open_slice_fields (fuel := fuel) Try.underlying22 Try.underlying37 (by kernel_rfl) (by kernel_rfl) h with ⟨hcs, _⟩ | ⟨a, len, cap, m, D, Pl, hcs, _, _, _, _, hx, _⟩
  · simp only [List.cons.injEq, and_true] at hcs
    rw [hv] at hcs
    injection hcs with _ h2 _
    omega
  · simp only [List.cons.injEq, and_true] at hcs
    rw [hv] at hcs
    injection hcs with _ h2 _
    subst h2
    rw [hx]
    have := many_le ((List.range n).map D)
    simp only [Rows.uptoBulk, List.length_map, List.length_range] at this ⊢
    omega

/-- The row of the second form out of its walk. -/
theorem contract (H : Type) (enc : TypeId × Value → H) (W : World) (base : Nat) (args : Array Value) (ds gs : List (DataW H)) (before : List MemPlace)
    (hval : ∀ (j : Nat) t v, Try.f7.params[j]? = some t → args[j]? = some v → Value.okWide Try.prog W .any base t v)
    (hW : DataW.Whole enc Try.prog Try.f7.params.toList Rows.retainLaterSpec.vars false W args.toList ds gs before) (hk : Rows.uptoSmall H (ds ++ gs) = true) :
    Calls Try.prog 7 args W fun e W' => ∃ v, e = .returned v ∧ Rows.retainLaterSpec.post enc Try.prog Try.f7 false true false false W args v W' := by
  have hW' := hW
  obtain ⟨p, q, hA0, hV, rfl, hfz, hnd⟩ := hW
  have hA : DataW.TrodAll enc Try.prog W 0 (fun _ => true) true Try.f7.params.toList args.toList ds p := hA0
  have hA1 := hA
  rw [Try.params7] at hA hval
  obtain ⟨v0, vs0, d0, ds0, p0, q0, hargs, rfl, rfl, h0, r0⟩ := trodAll_cons hA
  obtain ⟨v1, vs1, d1, ds1, p1, q1, rfl, rfl, rfl, h1, r1⟩ := trodAll_cons r0
  obtain ⟨v2, vs2, d2, ds2, p2, q2, rfl, rfl, rfl, h2, r2⟩ := trodAll_cons r1
  obtain ⟨rfl, rfl, rfl⟩ := trodAll_nil r2
  obtain rfl : args = #[v0, v1, v2] := by cases args; simp_all
  obtain ⟨rfl, rfl⟩ := trodVars_none hV
  obtain ⟨a0, len0, cap0, rfl⟩ := okWide_slice Try.underlying22 (hval 0 22 v0 rfl rfl)
  obtain ⟨a1, len1, cap1, rfl⟩ := okWide_slice Try.underlying22 (hval 1 22 v1 rfl rfl)
  obtain ⟨cs, rfl, hcs⟩ := okWide_struct Try.underlying24 (hval 2 24 v2 rfl rfl)
  obtain ⟨fuel0, hf0⟩ := h0
  obtain ⟨fuel1, hf1⟩ := h1
  obtain ⟨fuel2, hf2⟩ := h2
  have g0 : DataW.trod enc Try.prog W 0 (fun _ => true) true fuel0 22 [.slice a0 len0 cap0] = some (d0, p0) := by simpa [Value.cells] using hf0
  have g1 : DataW.trod enc Try.prog W 0 (fun _ => true) true fuel1 22 [.slice a1 len1 cap1] = some (d1, p1) := by simpa [Value.cells] using hf1
  obtain ⟨A0, c0, l0, hv0, hl0, hc0⟩ := open_snaps g0
  obtain ⟨A1, c1, l1, hv1, hl1, hc1⟩ := open_snaps g1
  obtain ⟨p3, hp⟩ := open_pol (by simpa [Value.cells] using hf2)
  have hcs2 : cs = #[.int .i64 p3.last, .int .i64 p3.span, .int .i64 p3.spans] := Array.ext' hp
  have b0 := short_snaps g0 hv0
  have b1 := short_snaps g1 hv1
  simp only [List.append_nil] at hk
  have hb : Rows.uptoBulkAll [d0, d1, d2] ≤ 1048576 := of_decide_eq_true hk
  simp only [Rows.uptoBulkAll] at hb b0 b1
  have key : Calls Try.prog 7 #[.slice a0 len0 cap0, .slice a1 len1 cap1, .agg cs] W fun e w' => e = .returned (.bool true) ∧ Chg (fun _ => False) W w' := by
    rw [hv0, hv1, hcs2]
    exact retainLater_any hc0 hc1 (by omega) (by omega) p3
  refine key.mono ?_
  rintro e W' ⟨rfl, hg⟩
  refine ⟨_, rfl, post_of_below (pv := []) hW' (fun _ _ _ => trodAll_cons_mk (shut_bool Try.underlying4 _) trodAll_mk0) (fun sp hs => ?_) (fun _ _ => rfl) rfl hg.all (ok_one (by kernel_rfl) rfl (okWide_bool_mk Try.underlying4 _))⟩
  refine trodAll_stays Try.laidOut hg.all (fun t ht => ?_) hA1 (fun x hx => hW'.lt x (List.mem_append.2 (.inl hx))) (fun x hx => hs x (List.mem_append.2 (.inl hx)))
  rw [Try.params7] at ht
  have h : t = 22 ∨ t = 24 := by simpa using ht
  rcases h with rfl | rfl <;> exact ⟨by kernel_rfl, of_decide_eq_true (by kernel_rfl)⟩

set_option maxRecDepth 100000 in
theorem lifted (os : Os) (started : os.Started) (H : Type) (enc : TypeId × Value → H) (F : Stop.Interp) :
    ReturnsInHanded {} Try.checked os 7 .any ((Rows.OpenSpec.upto Rows.retainLaterSpec).pre6 enc Try.prog Try.f7 Rows.retainLaterUptoRow.domain false) (((Rows.OpenSpec.upto Rows.retainLaterSpec).at F).post enc Try.prog Try.f7 false true false false) := by
  refine returnsInHanded_of_cond (C := Try.checked) (s := Rows.OpenSpec.upto Rows.retainLaterSpec) (k := Rows.uptoSmall) rfl Try.own started (by kernel_rfl) Try.func7
    (OpenSpec.witness (enc := enc) (C := Try.checked) (s := Rows.OpenSpec.upto Rows.retainLaterSpec) (k := Rows.uptoSmall) rfl false ⟨#[], #[.slice none 0 0, .slice none 0 0, .agg #[.int .i64 0, .int .i64 0, .int .i64 0]], []⟩ 8 (by kernel_rfl) (by kernel_rfl) (by kernel_rfl)
      (x := ([.nil, .nil, .agg [.lit (.int .i64 0), .lit (.int .i64 0), .lit (.int .i64 0)]], [], [])) (by kernel_rfl) rfl (by kernel_rfl)) ?_
  intro W base args ds gs before hval hW _ hk _
  exact contract H enc W base args ds gs before hval hW hk

theorem over : Rows.retainLaterUptoRow.holds Try.pinned (Rows.OpenSpec.upto Rows.retainLaterSpec) :=
  OpenClaim.holds_of_cond 7 Try.f7 rfl rfl rfl rfl rfl rfl rfl ⟨rfl, rfl, rfl, rfl, rfl⟩ rfl rfl rfl rfl rfl (by kernel_rfl) Try.func7 (by kernel_rfl)
    (of_decide_eq_true (by kernel_rfl)) (by unfold Func.isWrapper; first | (rw [if_pos (by decide +kernel)]; kernel_rfl) | (rw [if_neg (by decide +kernel)]; exact ⟨rfl, rfl⟩))
    (fun os started H enc _ F => lifted os started H enc F)
end RetainLater

theorem retainLaterUpto_holds : Rows.RetainLaterUptoSaid := RetainLater.over
#print axioms retainLaterUpto_holds
end Go.Proofs.Ytjfkjohocopcgaa
