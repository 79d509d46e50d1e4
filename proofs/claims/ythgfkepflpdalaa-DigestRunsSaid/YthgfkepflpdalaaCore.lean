/- Plain words for memory, over any program: what a call may have changed, what a slice reads, what the call owns. -/
import Derived.WalkKit
import Derived.WalkSpells
import Derived.WalkLawsBesides
import Derived.Deep.QuietTactic
import Derived.BigQuiet
import Derived.Lib.Hide
import Derived.Laws.BytesArg
import Derived.Laws.CopyOwn
namespace Go.Proofs.Ythgfkepflpdalaa
open Go.RowKit

/-- Only blocks of S, and new ones, may have turned. -/
structure Chg (S : Nat → Prop) (w w' : World) : Prop where
  os : w'.os = w.os
  tape : w'.tape = w.tape
  output : w'.output = w.output
  size : w.heap.size ≤ w'.heap.size
  block : ∀ k, k < w.heap.size → ¬ S k → w'.heap[k]? = w.heap[k]?

section
variable {S T U : Nat → Prop} {a b c w w' : World}
theorem Chg.refl (S : Nat → Prop) (w : World) : Chg S w w := ⟨rfl, rfl, rfl, Nat.le_refl _, fun _ _ _ => rfl⟩
theorem Chg.drewN (h : Chg S a w) (n : Nat) : Chg S a (w.drewN n) := ⟨h.os, h.tape, h.output, h.size, h.block⟩
theorem Chg.drew (h : Chg S a w) : Chg S a w.drew := ⟨h.os, h.tape, h.output, h.size, h.block⟩
theorem Chg.mono (h : Chg S a b) (hs : ∀ k, k < a.heap.size → S k → T k) : Chg T a b :=
  ⟨h.os, h.tape, h.output, h.size, fun k hk hn => h.block k hk fun hS => hn (hs k hk hS)⟩
/-- Two steps: what the second one turns is S's own, or was made by the first. -/
theorem Chg.trans (h : Chg S a b) (h' : Chg T b c) (hs : ∀ k, k < a.heap.size → T k → S k) : Chg S a c :=
  ⟨h'.os.trans h.os, h'.tape.trans h.tape, h'.output.trans h.output, Nat.le_trans h.size h'.size,
    fun k hk hn => (h'.block k (Nat.lt_of_lt_of_le hk h.size) fun hT => hn (hs k hk hT)).trans (h.block k hk hn)⟩
theorem Chg.alloc (h : Chg S a w) (o : Obj) : Chg S a (w.alloc o) :=
  ⟨h.os, h.tape, h.output, Nat.le_trans h.size (by simp), fun k hk hn => (Below.heap_alloc w o k (Nat.lt_of_lt_of_le hk h.size)).trans (h.block k hk hn)⟩
theorem Chg.setCell (h : Chg S a w) {p : Addr} (hp : a.heap.size ≤ p.block ∨ S p.block) (u : Value) : Chg S a (w.setCell p u) :=
  ⟨h.os, h.tape, h.output, by simpa [World.setCell] using h.size, fun k hk hn => (Below.heap_setCell w p u k (by
    rintro rfl
    rcases hp with hp | hp
    · omega
    · exact hn hp)).trans (h.block k hk hn)⟩
theorem Chg.setRow (h : Chg S a w) {g : Nat} (hp : a.heap.size ≤ g ∨ S g) (cs : Array Value) : Chg S a (w.setRow g cs) :=
  ⟨h.os, h.tape, h.output, by simpa using h.size, fun k hk hn => (setRow_other w g k cs (by
    rintro rfl
    rcases hp with hp | hp
    · omega
    · exact hn hp)).trans (h.block k hk hn)⟩
theorem Chg.grown (h : Chg S a w) {row : Option Nat} (hg : w.grownBy w' row) (hr : ∀ k, row = some k → a.heap.size ≤ k ∨ S k) : Chg S a w' :=
  ⟨hg.os.trans h.os, hg.tape.trans h.tape, hg.output.trans h.output, Nat.le_trans h.size hg.size, fun k hk hn => (hg.block k (Nat.lt_of_lt_of_le hk h.size) (fun e => by
    rcases hr k e.symm with h1 | h1
    · omega
    · exact hn h1)).trans (h.block k hk hn)⟩
theorem Chg.below (h : Chg S a b) {B : Nat} (hB : B ≤ a.heap.size) (hs : ∀ k, S k → B ≤ k) : Below B a b :=
  ⟨h.os, h.tape, h.output, h.size, fun k hk => h.block k (by omega) (fun hS => by have := hs k hS; omega)⟩
theorem Chg.cell (h : Chg S a b) {p : Addr} {v : Value} (hc : a.cell? p = some v) (hp : ¬ S p.block) : b.cell? p = some v :=
  (World.cell?_of_block (h.block p.block (World.block_lt_of_cell? a p hc) hp)).trans hc
theorem Chg.heap (h : Chg S a b) {k : Nat} {o : Obj} (hk : a.heap[k]? = some o) (hn : ¬ S k) : b.heap[k]? = some o :=
  (h.block k (lt_of_block hk) hn).trans hk
end

/-- The cells xs lie at A, one behind the other, in a block of D. -/
def RdC (D : Nat → Prop) (w : World) (A : Option Addr) (xs : List Value) : Prop :=
  0 < xs.length → ∃ ad, A = some ad ∧ D ad.block ∧ ∀ j u, xs[j]? = some u → w.cell? (ad.add j) = some u

section
variable {D D' S : Nat → Prop} {w w' : World} {A : Option Addr} {xs : List Value}
theorem block_of_add (a : Addr) (n : Nat) : (a.add n).block = a.block := by unfold Addr.add; split <;> rfl
theorem RdC.nil (A : Option Addr) : RdC D w A [] := fun h => absurd h (by simp)
theorem RdC.mono (h : RdC D w A xs) (hd : ∀ k, D k → D' k) : RdC D' w A xs := fun hn =>
  let ⟨ad, e, hb, hc⟩ := h hn; ⟨ad, e, hd _ hb, hc⟩
theorem RdC.chg (h : RdC D w A xs) (hw : Chg S w w') (hd : ∀ k, D k → ¬ S k) : RdC D w' A xs := fun hn =>
  let ⟨ad, e, hb, hc⟩ := h hn
  ⟨ad, e, hb, fun j u hu => hw.cell (hc j u hu) (by rw [block_of_add]; exact hd _ hb)⟩
theorem RdC.drewN (h : RdC D w A xs) (n : Nat) : RdC D (w.drewN n) A xs := h
theorem RdC.at_ (h : RdC D w A xs) {k : Nat} (hk : k < xs.length) : ∃ ad, A = some ad ∧ D ad.block ∧ w.cell? (ad.add k) = some xs[k] := by
  obtain ⟨ad, e, hb, hc⟩ := h (by omega)
  exact ⟨ad, e, hb, hc k _ (List.getElem?_eq_getElem hk)⟩
end

/-- A byte's cell. -/
def bv (b : UInt8) : Value := .int .u8 (b.toNat : Int)
def bcs (bs : List UInt8) : List Value := bs.map bv
theorem bcs_length (bs : List UInt8) : (bcs bs).length = bs.length := by simp [bcs]
/-- A slice value that reads as bytes. -/
def Rd (D : Nat → Prop) (w : World) (A : Option Addr) (bs : List UInt8) : Prop := RdC D w A (bcs bs)
def RdV (D : Nat → Prop) (w : World) (v : Value) (bs : List UInt8) : Prop := ∃ A c, v = .slice A bs.length c ∧ bs.length ≤ c ∧ Rd D w A bs

/-- The bytes as a string of Go's. -/
def strOf (bs : List UInt8) : ByteArray := ⟨bs.toArray⟩
theorem strOf_size (bs : List UInt8) : (strOf bs).size = bs.length := by simp [strOf, ByteArray.size]
theorem strOf_inj {as bs : List UInt8} (h : strOf as = strOf bs) : as = bs := by
  have := congrArg (fun b : ByteArray => b.data.toList) h
  simpa [strOf] using this

theorem run_convert_rd {P : Program} {D : Nat → Prop} {w : World} {A : Option Addr} {bs : List UInt8} {c : Nat} (src dst e : TypeId) (hs : P.underlying src = some (.slice e)) (he : P.underlying e = some (.int .u8))
    (hd : P.underlying dst = some .string) (h : Rd D w A bs) : (convert src dst (.slice A bs.length c)).run P w = .ok (.string (strOf bs)) w := by
  rcases A with _ | ad
  · rw [run_convert_bytes_nil w src e hs he _ _ dst hd]
    have : bs = [] := by
      rcases bs with _ | ⟨b, bs⟩
      · rfl
      · obtain ⟨ad, h, _⟩ := h (by simp [bcs]); cases h
    subst this
    rfl
  · rw [run_convert_bytes_string w src dst e _ _ c hs he hd]
    have hl : (loadCells ad bs.length).run P w = .ok ((bs.map fun b => (b.toNat : Int)).map (Value.int .u8)).toArray w := by
      have h1 := run_loadCells_list (P := P) w ad (bcs bs) (fun j v hj => by
        have hlt : j < (bcs bs).length := (List.getElem?_eq_some_iff.1 hj).1
        obtain ⟨ad', e, _, hc⟩ := h (by omega)
        cases e
        exact hc j v hj)
      have e1 : (bs.map fun b => (b.toNat : Int)).map (Value.int .u8) = bcs bs := by simp [bcs, bv]
      rw [e1]
      simpa [bcs_length] using h1
    rw [run_bytesToString w ad _ c _ hl, foldl_push_bytes]
    have e2 : (List.map (fun n => UInt8.ofNat n.toNat) (List.map (fun b : UInt8 => (b.toNat : Int)) bs)) = bs := by
      rw [List.map_map]
      conv => rhs; rw [← List.map_id bs]
      apply List.map_congr_left
      intro b _
      simp
    rw [e2]
    congr 2
    show (⟨_⟩ : ByteArray) = ⟨_⟩
    congr 1
    exact Array.empty_append

theorem quiet_add_left {P : Program} {f : FuncId} {args : Array Value} {w : World} {a n : Nat} {v : Value}
    (h : Calls P f args (w.drewN (a + n)) fun e w' => e = .returned v ∧ w.drewN (a + n) = w') :
    Calls P f args (w.drewN (a + n)) fun e w'' => e = .returned v ∧ ∃ m, w'' = w.drewN (a + m) :=
  h.mono fun _ _ ⟨he, hm⟩ => ⟨he, n, hm.symm⟩
theorem quiet_add {P : Program} {f : FuncId} {args : Array Value} {w : World} {a n : Nat} {v : Value}
    (h : Calls P f args (w.drewN (a + n)) fun e w' => e = .returned v ∧ ∃ m, w' = (w.drewN (a + n)).drewN m) :
    Calls P f args (w.drewN (a + n)) fun e w'' => e = .returned v ∧ ∃ m, w'' = w.drewN (a + m) :=
  h.mono fun _ _ ⟨he, m, hm⟩ => ⟨he, n + m, by rw [hm, World.drewN_drewN, Nat.add_assoc]⟩
theorem quiet_left {P : Program} {f : FuncId} {args : Array Value} {w : World} {n : Nat} {v : Value}
    (h : Calls P f args (w.drewN n) fun e w' => e = .returned v ∧ w.drewN n = w') : Calls P f args (w.drewN n) fun e w'' => e = .returned v ∧ ∃ m, w'' = w.drewN m :=
  h.mono fun _ _ ⟨he, hm⟩ => ⟨he, n, hm.symm⟩

end Go.Proofs.Ythgfkepflpdalaa
