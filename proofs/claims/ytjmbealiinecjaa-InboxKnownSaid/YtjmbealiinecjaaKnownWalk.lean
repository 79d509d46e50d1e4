import Derived.Test.YtjmbealiinecjaaAwake
namespace Go.Proofs.Ytjmbealiinecjaa
open Go.RowKit

set_option maxRecDepth 100000 in
set_option maxHeartbeats 800000 in
theorem inboxKnown_any (w : World) : Calls Try.prog 8 #[] w fun e w' => e = .returned (.bool true) ∧ Chg (fun _ => False) w w' := by
  have kc := mark_const
  go_enter Try.func8, Try.ntmps8
  go_wp2_with fail
  refine (two_any w).mono ?_
  rintro e w1 ⟨f, rfl, hI, ⟨v, h2⟩, hcf, k1⟩
  have H2 := Lib.hid h2
  have HCF := Lib.hid hcf
  clear h2 hcf
  go_wp2_with (go_at_call 10; refine (new_bad 0 _ (by omega)).mono ?_; rintro e w' ⟨rfl, rfl⟩)
  have hIa := hI.new_ ((Chg.refl _ _).alloc (.cells #[Value.int IntKind.u8 97] 5 (1, 2)))
  have hR := rd_const w1 [97] (1, 2)
  have hh : hasB 2 1 f 1 = false := by
    rw [hI.win.has (by omega), held_in (by omega) (by omega), hI.win.aw]; rfl
  refine (take_new hIa (by omega) 1 (by omega) (by omega) hh (by omega) (bs := [97]) (c := 1) hR (by simp)).mono ?_
  rintro e w2 ⟨vo, told, nx', f', rfl, T⟩
  obtain ⟨ht, hnx⟩ := awake_told hIa H2.out T
  subst hnx
  have hI2 := T.ibox
  have k2 := T.chg
  have hlen : told.length = 2 := by have := congrArg List.length ht; simpa using this
  have hcf' : cnt f' = 0 := by have := T.count; have := HCF.out; omega
  have hh1 : hasB 2 3 f' 1 = true := by rw [hI2.win.has (by omega)]; rfl
  have hh3 : hasB 2 3 f' 3 = false := by rw [hI2.win.has (by omega), held_in (by omega) (by omega), hI2.win.aw]; rfl
  have HC := Lib.hid hcf'
  have H1 := Lib.hid hh1
  have H3 := Lib.hid hh3
  have t2 : Chg (fun _ => False) w w2 := (k1.alloc _).trans k2 (fun k hlt h => by subst h; exact absurd hlt (by omega))
  clear T ht hlen hh hh1 hh3 hcf' hI hIa hR k1 k2
  go_wp2_with fail
  refine (take_old (hI2.new_ ((Chg.refl _ _).alloc _)) 1 (by omega) (by omega) H1.out _).mono ?_
  rintro e w3 ⟨rfl, hI3, k3⟩
  go_wp2_with fail
  refine (take_out (hI3.new_ ((Chg.refl _ _).alloc _)) 0 (by omega) _).mono ?_
  rintro e w4 ⟨rfl, hI4, k4⟩
  go_wp2_with fail
  refine (awake_any _).mono ?_
  rintro e w5 ⟨rfl, k5⟩
  have hI5 := hI4.new_ k5
  go_wp2_with fail
  refine (hI5.has_ 1 (by omega)).mono ?_
  rintro e w6 ⟨rfl, n6, rfl⟩
  rw [H1.out]
  go_wp2_with fail
  refine ((hI5.drewN n6).has_ 3 (by omega)).mono ?_
  rintro e w7 ⟨rfl, n7, rfl⟩
  rw [H3.out]
  go_wp2_with fail
  have hI7 := (hI5.drewN n6).drewN n7
  rw [World.drewN_drewN] at hI7
  refine (hI7.held_).mono ?_
  rintro e w8 ⟨rfl, rfl⟩
  rw [HC.out]
  go_wp2
  go_ret
  refine ⟨rfl, ?_⟩
  exact ((((t2.alloc _).trans k3 (fun _ _ h => h)).alloc _).trans k4 (fun _ _ h => h) |>.trans k5 (fun _ _ h => h)).drewN _
end Go.Proofs.Ytjmbealiinecjaa
