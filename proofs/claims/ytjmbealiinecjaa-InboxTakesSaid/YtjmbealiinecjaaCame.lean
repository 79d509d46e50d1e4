import Derived.Test.YtjmbealiinecjaaAwake
namespace Go.Proofs.Ytjmbealiinecjaa
open Go.RowKit

/-- The things that come: a number and a body each; the slice at A reads so, all of it below block B. -/
def Cames (w : World) (B : Nat) (A : Option Addr) (l : List (Int × List UInt8)) : Prop :=
  ∀ (k : Nat) (h : k < l.length), ∃ ad Bk ck, A = some ad ∧ ad.block < B ∧ w.cell? (ad.add (k * 2)) = some (.int .i64 l[k].1) ∧ w.cell? ⟨(ad.add (k * 2)).block, (ad.add (k * 2)).off + 1, none⟩ = some (.slice Bk l[k].2.length ck) ∧
    l[k].2.length ≤ ck ∧ l[k].2.length ≤ 140737488351232 ∧ Rd (fun b => b < B) w Bk l[k].2 ∧ -9223372036854775808 ≤ l[k].1 ∧ l[k].1 ≤ 9223372036854775807

theorem Cames.chg {S : Nat → Prop} {w w' : World} {B : Nat} {A : Option Addr} {l : List (Int × List UInt8)} (h : Cames w B A l) (hc : Chg S w w') (hs : ∀ k, k < B → ¬ S k) : Cames w' B A l := by
  intro k hk
  obtain ⟨ad, Bk, ck, e, hb, h1, h2, h3, h4, h5, h6⟩ := h k hk
  exact ⟨ad, Bk, ck, e, hb, hc.cell h1 (by rw [block_of_add]; exact hs _ hb), hc.cell h2 (by show ¬ S (ad.add (k * 2)).block; rw [block_of_add]; exact hs _ hb), h3, h4, RdC.chg h5 hc hs, h6⟩

/-- How many bytes. -/
def sumB (l : List (Int × List UInt8)) : Nat := (l.map fun x => x.2.length).sum

theorem sumB_snoc {l : List (Int × List UInt8)} {k : Nat} (h : k < l.length) : sumB (l.take (k + 1)) = sumB (l.take k) + l[k].2.length := by
  unfold sumB
  rw [List.take_succ_eq_append_getElem h, List.map_append, List.sum_append]
  simp

theorem sumB_le {w : World} {B : Nat} {A : Option Addr} {l : List (Int × List UInt8)} (h : Cames w B A l) : ∀ k, k ≤ l.length → sumB (l.take k) ≤ k * 140737488351232
  | 0, _ => by simp [sumB]
  | k + 1, hk => by
    have ih := sumB_le h k (by omega)
    obtain ⟨_, _, _, _, _, _, _, _, h4, _⟩ := h k (by omega)
    rw [sumB_snoc (by omega)]
    omega

def longB (l : List (Int × List UInt8)) : Bool := decide (300 < l.length) || decide (4000 < sumB (l.take 301))

theorem longB_false {l : List (Int × List UInt8)} (h : longB l = false) : l.length ≤ 300 ∧ sumB l ≤ 4000 := by
  simp only [longB, Bool.or_eq_false_iff, decide_eq_false_iff_not] at h
  obtain ⟨h1, h2⟩ := h
  rw [List.take_of_length_le (by omega)] at h2
  omega

set_option maxRecDepth 100000 in
set_option maxHeartbeats 800000 in
theorem long_any {w : World} {B : Nat} {A : Option Addr} {l : List (Int × List UInt8)} {c : Nat} (h : Cames w B A l) (hn : l.length ≤ 9223372036854775807) :
    Calls Try.prog 9 #[.slice A l.length c] w fun e w' => e = .returned (.bool (longB l)) ∧ w = w' := by
  go_enter Try.func9, Try.ntmps9
  go_wp2_with fail
  go_loopg [3, 4] l.length (fun k s i wr => ∃ j : Nat, (j + k ≤ l.length ∧ l.length ≤ j + k) ∧ j ≤ 301 ∧ i = .int .i64 j ∧ s = .int .i64 (sumB (l.take j)) ∧ wr = w)
  case atStart => exact ⟨0, ⟨by omega, by omega⟩, by omega, rfl, rfl, rfl⟩
  case round =>
    obtain ⟨j, ⟨hj1, hj2⟩, hj3, rfl, rfl, rfl⟩ := hrel
    have hs0 := sumB_le h j (by omega)
    have hs1 : sumB (l.take j) ≤ 42361984000000000 := by omega
    by_cases h1 : j < l.length
    · by_cases h2 : j < 301
      · have e2 : decide ((j : Int) < 301) = true := by simp; omega
        obtain ⟨ad, Bk, ck, rfl, hb, c1, c2, h3, h4, h5, h6, h7⟩ := h j h1
        have hss := Lib.hid (sumB_snoc h1)
        clear h5 h6 h7 hs0
        go_wp2_with fail
        go_roundg (gk - 1)
        case measure => omega
        case rel => exact ⟨j + 1, ⟨by omega, by omega⟩, by omega, by go_num, by rw [hss.out]; go_num, rfl⟩
      · have e2 : decide ((j : Int) < 301) = false := by simp; omega
        have e3 : longB l = true := by simp [longB]; omega
        have e4 : decide ((300 : Int) < (l.length : Int)) = true := by simp; omega
        clear hs0
        go_wp2_with fail
        go_ret
        exact ⟨ret_bool e3.symm, rfl⟩
    · have hjl : l.take j = l := List.take_of_length_le (by omega)
      have e3 : longB l = (decide (300 < l.length) || decide (4000 < sumB (l.take j))) := by rw [hjl, longB, List.take_of_length_le (by omega)]
      have E3 := Lib.hid e3
      clear e3 hjl hs0
      by_cases h4 : 300 < l.length
      · have e4 : decide ((300 : Int) < (l.length : Int)) = true := by simp; omega
        go_wp2_with fail
        go_ret
        exact ⟨ret_bool (by rw [E3.out]; simp [h4]), rfl⟩
      · have e4 : decide ((300 : Int) < (l.length : Int)) = false := by simp; omega
        go_wp2_with fail
        go_ret
        exact ⟨ret_bool (by rw [E3.out, Bool.eq_iff_iff]; simp [h4]; omega), rfl⟩

/-- A block of bytes, or of slices of bytes. -/
def Lst (w : World) (k : Nat) : Prop := ∃ t cs, Blk w k t cs ∧ (t = 31 ∨ t = 5)

theorem Lst.ne_ {w : World} {k g : Nat} {t : TypeId} {cs : Array Value} (h : Lst w k) (hg : Blk w g t cs) (h1 : t ≠ 31) (h2 : t ≠ 5) : k ≠ g := by
  obtain ⟨t', cs', hb, ht⟩ := h
  refine hb.ne_ hg ?_
  rintro rfl
  rcases ht with h | h
  · exact h1 h
  · exact h2 h

theorem rdl_lst {w : World} {A : Option Addr} {n c : Nat} {told : List (Value × List UInt8)} (hr : w.ownsRow 0 31 1 (.slice A n c) n (told.map (·.1))) (ho : ∀ (k : Nat) (x : Value × List UInt8), told[k]? = some x → OwnB 5 w x.1 x.2) :
    RdL (Lst w) w A (told.map (·.2)) := by
  refine ⟨told.map (·.1), by simp, fun hn => ?_, fun i bs v h1 h2 => ?_⟩
  · rcases hr.2 with ⟨he, _⟩ | ⟨g, cap, cur, he, _, hb, _⟩
    · have := hr.1
      injection he with _ h2 _
      omega
    · injection he with hA _ _
      subst hA
      exact ⟨_, rfl, ⟨31, cur, hb, .inl rfl⟩, hr.cells (g := g) rfl⟩
  · simp only [List.getElem?_map, Option.map_eq_some_iff] at h1 h2
    obtain ⟨x, hx, rfl⟩ := h1
    obtain ⟨y, hy, rfl⟩ := h2
    rw [hx] at hy
    injection hy with hy
    subst hy
    refine (ho i x hx).rd.mono fun k hk => ?_
    obtain ⟨cs, hb⟩ := (ho i x hx).blk hk
    exact ⟨5, cs, hb, .inr rfl⟩

end Go.Proofs.Ytjmbealiinecjaa
