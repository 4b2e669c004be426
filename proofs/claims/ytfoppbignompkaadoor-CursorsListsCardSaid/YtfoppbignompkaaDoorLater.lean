/-
  A drawn region whose operations only read and whose callees lay blocks: one walk in the order of the text.
-/
import Derived.Test.YtfoppbignompkaaDoorIter
import Derived.Deep.QuietTactic
import Derived.BigQuiet
namespace Go.Proofs.YtfoppbignompkaaDoor
open Go.RowKit

/-- a world behind another one, in which nothing that existed has turned -/
structure Later (w : World) where
  W : World
  hb : Below w.heap.size w W
instance (w : World) : Inhabited (Later w) := ⟨⟨w, Below.refl _ _⟩⟩
theorem wp_region_later {P : Program} {id : Nat} {Q : Exit → Act → World → Prop} {a : Act} {w : World} {l : List Oper} (hm : P.follows .mixedOrders = true) (hB : Region.lexB .any l.toArray = true)
    (h : wpQuiet P l.toArray (fun w' => ∃ p : Later w, w' = p.W) (fun a' => ∀ w', (∃ p : Later w, w' = p.W) → Q .normal a' w') l a) : (Code.region id l.toArray true).wp P Q a w :=
  wp_region_quiet (C := fun w' => ∃ p : Later w, w' = p.W) hm hB ⟨⟨w.drew, (Below.refl _ _).drew⟩, rfl⟩ (by simpa using h)
theorem Later.cell {w : World} {g i : Nat} {v : Value} (h : w.cell? ⟨g, i, none⟩ = some v) (p : Later w) : p.W.cell? ⟨g, i, none⟩ = some v := cellKeep h p.hb
theorem Calls.later_of {P : Program} {f : FuncId} {args : Array Value} {w : World} {p : Later w} {v : Value}
    (h : Calls P f args p.W fun e w' => e = .returned v ∧ Below p.W.heap.size p.W w') : Calls P f args p.W fun e w'' => e = .returned v ∧ ∃ q : Later w, w'' = q.W :=
  h.mono fun _ _ ⟨he, hb⟩ => ⟨he, ⟨_, nx p.hb hb⟩, rfl⟩

end Go.Proofs.YtfoppbignompkaaDoor
