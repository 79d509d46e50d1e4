/- Two rows of bytes that are the same: satchelkit.SameBytes (34). -/
import Derived.Test.YthgfkepflpdalaaWord
namespace Go.Proofs.Ythgfkepflpdalaa
open Go.RowKit

theorem strOf_toList (xs : List UInt8) : (strOf xs).toList = xs := ByteArray.toList_mk xs

theorem ret_bool {a b : Bool} (h : a = b) : Ending.returned (.bool a) = .returned (.bool b) := by rw [h]

set_option maxHeartbeats 400000 in
theorem sameBytes {D D' : Nat → Prop} {A A' : Option Addr} {xs ys : List UInt8} {c c' : Nat} {w : World} (ha : Rd D w A xs) (hb : Rd D' w A' ys) :
    Calls Try.prog 34 #[.slice A xs.length c, .slice A' ys.length c'] w fun e w' => e = .returned (.bool (xs == ys)) ∧ w = w' := by
  have h1 := run_convert_rd (P := Try.prog) (c := c) 25 9 5 Try.underlying25 Try.underlying5 Try.underlying9 ha
  have h2 := run_convert_rd (P := Try.prog) (c := c') 25 9 5 Try.underlying25 Try.underlying5 Try.underlying9 hb
  clear ha hb
  go_enter Try.func34, Try.ntmps34
  go_wp2
  go_ret
  exact ⟨ret_bool (by rw [strOf_toList, strOf_toList]), rfl⟩

/-- A list of slices of bytes. -/
def RdL (D : Nat → Prop) (w : World) (A : Option Addr) (bss : List (List UInt8)) : Prop :=
  ∃ vs : List Value, vs.length = bss.length ∧ RdC D w A vs ∧ ∀ (i : Nat) (bs : List UInt8) (v : Value), bss[i]? = some bs → vs[i]? = some v → RdV D w v bs

theorem RdL.at_ {D : Nat → Prop} {w : World} {A : Option Addr} {bss : List (List UInt8)} (h : RdL D w A bss) {k : Nat} (hk : k < bss.length) :
    ∃ ad B c, A = some ad ∧ w.cell? (ad.add k) = some (.slice B bss[k].length c) ∧ bss[k].length ≤ c ∧ Rd D w B bss[k] := by
  obtain ⟨vs, hl, hr, hv⟩ := h
  obtain ⟨ad, e, hd, hc⟩ := hr.at_ (k := k) (by omega)
  obtain ⟨B, c, e1, e2, e3⟩ := hv k _ _ (List.getElem?_eq_getElem hk) (List.getElem?_eq_getElem (by omega))
  exact ⟨ad, B, c, e, by rw [hc, e1], e2, e3⟩

theorem take_succ_eq {α : Type} {xs ys : List α} {k : Nat} (hk : k < xs.length) (hk' : k < ys.length) (h : xs.take k = ys.take k) (he : xs[k] = ys[k]) : xs.take (k + 1) = ys.take (k + 1) := by
  rw [List.take_succ_eq_append_getElem hk, List.take_succ_eq_append_getElem hk', h, he]

end Go.Proofs.Ythgfkepflpdalaa
