import Derived.Test.YtjmbealiinecjaaRows
import Derived.Test.YtjmbealiinecjaaCore
namespace Go.Proofs.Ytjmbealiinecjaa
open Go.RowKit

theorem strOf_toList (xs : List UInt8) : (strOf xs).toList = xs := ByteArray.toList_mk xs

theorem ret_bool {a b : Bool} (h : a = b) : Ending.returned (.bool a) = .returned (.bool b) := by rw [h]

set_option maxHeartbeats 400000 in
theorem sameBytes {D D' : Nat → Prop} {A A' : Option Addr} {xs ys : List UInt8} {c c' : Nat} {w : World} (ha : Rd D w A xs) (hb : Rd D' w A' ys) :
    Calls Try.prog 23 #[.slice A xs.length c, .slice A' ys.length c'] w fun e w' => e = .returned (.bool (xs == ys)) ∧ w = w' := by
  have h1 := run_convert_rd (P := Try.prog) (c := c) 31 9 5 Try.underlying31 Try.underlying5 Try.underlying9 ha
  have h2 := run_convert_rd (P := Try.prog) (c := c') 31 9 5 Try.underlying31 Try.underlying5 Try.underlying9 hb
  clear ha hb
  go_enter Try.func23, Try.ntmps23
  go_wp2
  go_ret
  exact ⟨ret_bool (by rw [strOf_toList, strOf_toList]), rfl⟩

/-- A list of slices of bytes. -/
def RdL (D : Nat → Prop) (w : World) (A : Option Addr) (bss : List (List UInt8)) : Prop :=
  ∃ vs : List Value, vs.length = bss.length ∧ RdC D w A vs ∧ ∀ (i : Nat) (bs : List UInt8) (v : Value), bss[i]? = some bs → vs[i]? = some v → RdV D w v bs

theorem RdL.at_ {D : Nat → Prop} {w : World} {A : Option Addr} {bss : List (List UInt8)} (h : RdL D w A bss) {k : Nat} (hk : k < bss.length) :
    ∃ ad B c, A = some ad ∧ w.cell? (ad.add k) = some (.slice B bss[k].length c) ∧ bss[k].length ≤ c ∧ Rd D w B bss[k] := by
  obtain ⟨vs, hl, hr, hv⟩ := h
  obtain ⟨ad, e, hd, hc⟩ := hr.at_ (k := k) (by omega)
  obtain ⟨B, c, e1, e2, e3⟩ := hv k _ _ (List.getElem?_eq_getElem hk) (List.getElem?_eq_getElem (by omega))
  exact ⟨ad, B, c, e, by rw [hc, e1], e2, e3⟩

theorem take_succ_eq {α : Type} {xs ys : List α} {k : Nat} (hk : k < xs.length) (hk' : k < ys.length) (h : xs.take k = ys.take k) (he : xs[k] = ys[k]) : xs.take (k + 1) = ys.take (k + 1) := by
  rw [List.take_succ_eq_append_getElem hk, List.take_succ_eq_append_getElem hk', h, he]

set_option maxHeartbeats 400000 in
theorem sameLists {D D' : Nat → Prop} {A A' : Option Addr} {xs ys : List (List UInt8)} {c c' : Nat} {w : World} (hxs : xs.length ≤ c) (hc : c ≤ maxLen) (ha : RdL D w A xs) (hb : RdL D' w A' ys) :
    Calls Try.prog 15 #[.slice A xs.length c, .slice A' ys.length c'] w fun e w' => e = .returned (.bool (xs == ys)) ∧ ∃ n, w' = w.drewN n := by
  unfold maxLen at hc
  by_cases hl : xs.length = ys.length
  · have e1 : (((xs.length : Nat) : Int) != ((ys.length : Nat) : Int)) = false := by simp [hl]
    have HL := Lib.hid hl
    clear hl
    go_enter Try.func15, Try.ntmps15
    go_wp2
    go_loopw [5] (fun i wr => ∃ k n : Nat, k ≤ xs.length ∧ i = .int .i64 k ∧ wr = w.drewN n ∧ xs.take k = ys.take k) (fun i _ => xs.length - (intOf i).toNat)
    case atStart => exact ⟨0, 0, Nat.zero_le _, rfl, rfl, rfl⟩
    case round =>
      obtain ⟨k, n, hk, rfl, rfl, heq⟩ := hrel
      have HE := Lib.hid heq
      clear heq
      by_cases hlt : k < xs.length
      · have hlt' : k < ys.length := by have := HL.out; omega
        obtain ⟨ad, B, c1, rfl, hcell, hc1, hB⟩ := ha.at_ hlt
        obtain ⟨ad', B', c1', rfl, hcell', hc1', hB'⟩ := hb.at_ hlt'
        by_cases he : xs[k] = ys[k]
        · have e2 : (xs[k] == ys[k]) = true := by simp [he]
          have HX := Lib.hid he
          clear he
          go_wp2_with fail
          go_quiet ((go_at_call 23; exact quiet_add_left (sameBytes (w := w.drewN _) hB hB')))
          go_wp2
          exact ⟨⟨k + 1, _, by omega, by go_num, rfl, take_succ_eq hlt hlt' HE.out HX.out⟩, by simp only [intOf]; omega⟩
        · have e2 : (xs[k] == ys[k]) = false := by simp [he]
          have e3 : (xs == ys) = false := by
            rw [beq_eq_false_iff_ne]
            intro h; subst h; exact he rfl
          clear he
          go_wp2_with fail
          go_quiet ((go_at_call 23; exact quiet_add_left (sameBytes (w := w.drewN _) hB hB')))
          go_wp2
          go_ret
          exact ⟨ret_bool e3.symm, n + nq, by simp only [World.drewN_drewN]⟩
      · have e3 : (xs == ys) = true := by
          have h1 := HE.out
          have h2 := HL.out
          rw [List.take_of_length_le (by omega), List.take_of_length_le (by omega)] at h1
          simp [h1]
        go_wp2
        go_ret
        exact ⟨ret_bool e3.symm, _, rfl⟩
  · have e1 : (((xs.length : Nat) : Int) != ((ys.length : Nat) : Int)) = true := by simp; omega
    have e3 : (xs == ys) = false := by
      rw [beq_eq_false_iff_ne]
      intro h; subst h; exact hl rfl
    clear hl
    go_enter Try.func15, Try.ntmps15
    go_wp2
    go_ret
    exact ⟨ret_bool e3.symm, 0, rfl⟩
end Go.Proofs.Ytjmbealiinecjaa
