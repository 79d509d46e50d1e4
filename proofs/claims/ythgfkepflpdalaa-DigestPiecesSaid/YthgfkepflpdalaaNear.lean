/- A region that draws its order, whose operations read and whose callees leave alone what was there (they may make blocks): one walk in the order of the text. -/
import Derived.Test.YthgfkepflpdalaaArr
import Derived.Deep.QuietTactic
import Derived.BigQuiet
namespace Go.Proofs.Ythgfkepflpdalaa
open Go.RowKit

/-- A world in which all that w held is as it was. -/
structure Near (w : World) where
  v : World
  h : Chg (fun _ => False) w v
instance (w : World) : Inhabited (Near w) := ⟨⟨w, Chg.refl _ w⟩⟩

theorem wp_region_near {P : Program} {id : Nat} {Q : Exit → Act → World → Prop} {a : Act} {w : World} {l : List Oper} (hm : P.follows .mixedOrders = true) (hB : Region.lexB .any l.toArray = true)
    (h : wpQuiet P l.toArray (fun w' => ∃ p : Near w, w' = p.v) (fun a' => ∀ w', (∃ p : Near w, w' = p.v) → Q .normal a' w') l a) : (Code.region id l.toArray true).wp P Q a w :=
  wp_region_quiet (C := fun w' => ∃ p : Near w, w' = p.v) hm hB ⟨⟨w.drew, (Chg.refl _ w).drew⟩, rfl⟩ (by simpa using h)

/-- A callee's contract, met in such a world. -/
theorem near_of {P : Program} {f : FuncId} {args : Array Value} {w : World} {p : Near w} {v : Value}
    (h : Calls P f args p.v fun e w' => e = .returned v ∧ Chg (fun _ => False) p.v w') : Calls P f args p.v fun e w'' => e = .returned v ∧ ∃ q : Near w, w'' = q.v :=
  h.mono fun _ _ ⟨he, hk⟩ => ⟨he, ⟨_, p.h.trans hk (fun _ _ h => h)⟩, rfl⟩

/-- A load of a whole row. -/
theorem wpQuiet_loadA {w : World} {ops : Array Oper} {rest : List Oper} {o : Oper} {a : Act} {Q : Act → Prop} (hw : Region.wanted o (yielded ops a.tmps) = true) (ty : TypeId) (x : Operand) (ho : o.op = .load ty x) (g : Nat) (hx : a.eval x = .pointer (some ⟨g, 0, none⟩)) (cs : Array Value) (n : Nat) (hT : RowTy ty n) (hn : cs.size = n) (hB : ∃ t, Blk w g t cs)
    (h : wpQuiet Try.prog ops (fun w' => ∃ p : Near w, w' = p.v) Q rest (a.put o.dst (.agg cs))) : wpQuiet Try.prog ops (fun w' => ∃ p : Near w, w' = p.v) Q (o :: rest) a := by
  obtain ⟨t, hB⟩ := hB
  refine wpQuiet_step fun K hK => ?_
  rw [if_pos hw]
  refine ⟨.agg cs, ?_, hK _ h⟩
  rintro w' ⟨p, rfl⟩
  have hb := hB.chg p.h (fun h => h)
  obtain ⟨d, h1, h2, h3⟩ := hT
  unfold Oper.quietAt execOp
  simp only [ho, hx, Instr.loadAt, Instr.sureAddr, Sem.run_bind, Sem.run_pure, Result.andThen_ok, run_loadVar_row p.v g t ty cs (0, 0) d hb h1 (by cases d <;> simp_all) (by rw [h3, hn])]
  exact ⟨rfl, rfl⟩
end Go.Proofs.Ythgfkepflpdalaa
