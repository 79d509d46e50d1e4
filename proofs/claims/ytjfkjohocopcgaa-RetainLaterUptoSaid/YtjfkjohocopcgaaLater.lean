/- How many spans are later: the closure of retain.ends. -/
import Derived.Test.YtjfkjohocopcgaaSet
namespace Go.Proofs.Ytjfkjohocopcgaa
open Go.RowKit Go.Maps

def laterN (S : List Int) (s : Int) : Nat := (S.filter fun x => decide (s < x)).length
/-- Those that have come by so far. -/
def gone (s : Int) (left : Lit → Bool) : List Int → Nat
  | [] => 0
  | x :: S => (if s < x ∧ left (kq x) = false then 1 else 0) + gone s left S

theorem gone_start {s : Int} {left : Lit → Bool} : ∀ {S : List Int}, (∀ x ∈ S, left (kq x) = true) → gone s left S = 0
  | [], _ => rfl
  | x :: S, h => by
    rw [gone, if_neg (by rw [h x (List.mem_cons_self ..)]; simp), gone_start fun y hy => h y (List.mem_cons_of_mem _ hy)]
theorem gone_end {s : Int} {left : Lit → Bool} (h : ∀ kl, left kl = false) : ∀ S : List Int, gone s left S = laterN S s
  | [] => rfl
  | x :: S => by
    rw [gone, gone_end h S]
    unfold laterN
    rw [List.filter_cons]
    by_cases hs : s < x
    · simp [hs, h]; omega
    · simp [hs]
theorem sameKq (x y : Int) : (kq x).sameKey (kq y) = decide (x = y) := by simp [kq, Lit.sameKey]
theorem gone_miss {s : Int} {left : Lit → Bool} {y : Int} : ∀ {S : List Int}, y ∉ S → gone s (fun z => left z && !z.sameKey (kq y)) S = gone s left S
  | [], _ => rfl
  | x :: S, h => by
    have hx : x ≠ y := fun he => h (he ▸ List.mem_cons_self ..)
    rw [gone, gone, gone_miss fun hm => h (List.mem_cons_of_mem _ hm)]
    simp [sameKq, hx]
theorem gone_step {s : Int} {left : Lit → Bool} {y : Int} (hl : left (kq y) = true) : ∀ {S : List Int}, S.Nodup → y ∈ S → gone s (fun z => left z && !z.sameKey (kq y)) S = gone s left S + (if s < y then 1 else 0)
  | x :: S, hn, hm => by
    have hn' := List.nodup_cons.1 hn
    by_cases hx : x = y
    · subst hx
      rw [gone, gone, gone_miss hn'.1]
      simp [sameKq, hl]
      omega
    · have hm' : y ∈ S := by
        rcases List.mem_cons.1 hm with h | h
        · exact absurd h.symm hx
        · exact h
      rw [gone, gone, gone_step hl hn'.2 hm']
      simp [sameKq, hx]
      omega
theorem gone_le (s : Int) (left : Lit → Bool) : ∀ S : List Int, gone s left S ≤ S.length
  | [] => Nat.le_refl _
  | x :: S => by
    have := gone_le s left S
    rw [gone, List.length_cons]
    split <;> omega

set_option maxHeartbeats 400000 in
theorem later_any {w : World} {V b m : Nat} {S : List Int} (hV : Blk w V 46 #[.map (some b)]) (h : SetI w b m S) (hl : S.length ≤ 4611686018427387904) (s : Int) :
    Calls Try.prog 31 #[.int .i64 s, .pointer (some ⟨V, 0, none⟩)] w fun e w' => e = .returned (.int .i64 (laterN S s)) ∧ Chg (fun _ => False) w w' := by
  obtain ⟨D, hD, hn, hh⟩ := h
  have c0 := hV.cell 0
  simp only [List.getElem?_toArray] at c0
  have hwf : ∀ key kl, keyOf Try.prog 3 key = some kl → ∃ x, key = Value.int .i64 x := fun key kl hk => by
    obtain ⟨x, rfl, _⟩ := Maps.keyOf_int_inv Try.underlying3 hk
    exact ⟨x, rfl⟩
  have hinv : ∀ v y, unitElem (H := Unit) v = some y → ∃ c : Unit, v = Value.agg #[] := fun v y hv => by
    obtain ⟨rfl, _⟩ := unitElem_inv hv
    exact ⟨(), rfl⟩
  have hst : gone s (Maps.has D) S = 0 := gone_start fun x hx => by rw [hh]; simpa using hx
  have HST := Lib.hid hst
  clear hst
  go_enter Try.func31, Try.ntmps31
  go_wp2_with (first | (at_range; refine wpList_range_own _ rfl _ 46 rfl 3 48 keyed3 Try.underlying46 _ b m _ rfl hD ?_; intro w0 hrg0 hg0 hs0))
  go_frame
  go_loopg [4] (Maps.size D) (fun k n wr => ∃ (left : Lit → Bool), wr.ranges Try.prog 3 (unitElem (H := Unit)) b w.heap.size m D left k ∧ n = .int .i64 (gone s left S : Int) ∧ Chg (fun _ => False) w wr)
  case atStart => exact ⟨_, hrg0, by rw [HST.out]; rfl, (Chg.refl _ w).grown hg0 (fun k hk => by cases hk)⟩
  case round =>
    obtain ⟨left, hrg, rfl, hc⟩ := hrel
    have hgl := gone_le s left S
    have hVr := hV.chg hc (fun h => h)
    go_wp2_with (first | (at_next; refine wpList_next_ranges _ rfl _ rfl 3 keyed3 (unitElem (H := Unit)) (Value.int .i64) (fun _ : Unit => Value.agg #[]) hwf hinv b w.heap.size m D left gk rfl hrg ?_ ?_))
    · intro _ hl0
      have hN := Lib.hid (gone_end (s := s) hl0 S)
      go_wp2_with fail
      go_ret
      exact ⟨by rw [← hN.out]; rfl, hc⟩
    · intro x _ kl y w1 cnt1 hkey hlx _ hat hrg1 hlt hg1 hs1 hen
      obtain ⟨x', ex, rfl, hwx⟩ := Maps.keyOf_int_inv Try.underlying3 hkey
      injection ex with _ ex
      subst ex
      have hxS : x ∈ S := by
        have h1 := Maps.has_true_of_atKey hat
        have h2 := hh x
        unfold kq at h2
        rw [h1] at h2
        simpa using h2.symm
      have hst := Lib.hid (gone_step (s := s) (left := left) hlx hn hxS)
      have hc1 : Chg (fun _ => False) w w1 := hc.grown hg1 fun k hk => .inl (by injection hk with hk; omega)
      clear hkey hat hwx hh
      by_cases hsx : s < x
      · have hst2 := hst.out
        rw [if_pos hsx] at hst2
        have hS2 := Lib.hid hst2
        clear hst2
        go_wp2_with fail
        go_roundg cnt1
        case measure => omega
        case rel => exact ⟨_, hrg1, by rw [show (fun z : Lit => left z && !z.sameKey (.int .i64 x)) = (fun z => left z && !z.sameKey (kq x)) from rfl, hS2.out]; go_num, hc1⟩
      · have hst2 := hst.out
        rw [if_neg hsx] at hst2
        have hS2 := Lib.hid hst2
        clear hst2
        go_wp2_with fail
        go_roundg cnt1
        case measure => omega
        case rel => exact ⟨_, hrg1, by rw [show (fun z : Lit => left z && !z.sameKey (.int .i64 x)) = (fun z => left z && !z.sameKey (kq x)) from rfl, hS2.out]; rfl, hc1⟩
end Go.Proofs.Ytjfkjohocopcgaa
