/-
  A region that draws its order within the round of a range over a function, by the walk that holds a condition on the world.
-/
import Derived.Test.YtebmjmohhpkonaaDoorRound
import Derived.Deep.RegionHeldLaw
namespace Go.Proofs.YtebmjmohhpkonaaDoor
open Go.RowKit

theorem rows_wide {n : Nat} {P : Program} {row : String} {args : Array Value} {w : World} {R : Value → World → Prop} (h : Rows P row args w R) : RowsIn Fence.wide n P row args w R :=
  fun c cs _ => let ⟨v, w', r, s⟩ := h c cs; ⟨v, w', r, stepsIn_wide.2 s⟩
theorem upon_wide {n : Nat} {P : Program} {o : Oper} {a : Act} {K : Act → World → Prop} {Q : Exit → Act → World → Prop} (r : Result Next) (h : o.upon P a K Q r) : o.uponIn Fence.wide n P a K Q r := by
  cases r with
  | ok x w' =>
    cases x with
    | enter f args => exact ⟨(fun e => by cases e), callsIn_wide.2 h⟩
    | row row args => exact ⟨(fun e => by cases e), rows_wide h⟩
    | round l f tmps assign body => exact h.elim
    | value v => exact h
    | skip => exact h
    | defer d => exact h
    | _ => exact h
  | halt x w' => cases x <;> exact h
theorem op_wide {n : Nat} {P : Program} {ops : Array Oper} {Q : Exit → Act → World → Prop} {i : Nat} {K K' : Act → World → Prop} {a : Act} {w : World} (hL : ¬ LetsOut Q) (hK : ∀ a w, K a w → K' a w)
    (h : wpOp P ops Q i K a w) : wpOpIn Fence.wide n P ops Q i K' a w := by
  cases ho : ops[i]? with
  | none =>
    simp only [wpOp, wpOpIn, ho] at h ⊢
    exact hK _ _ h
  | some o =>
    simp only [wpOp, wpOpIn, ho] at h ⊢
    split at h
    · rename_i hw
      rw [if_pos hw]
      rcases h with h | h
      · refine Oper.wpIn_mono hK ⟨fun _ _ => trivial, upon_wide _ h⟩
      · exact absurd h.2 hL
    · rename_i hw
      rw [if_neg hw]
      exact ⟨fun _ _ => trivial, hK _ _ h⟩
theorem any_wide {n : Nat} {P : Program} {md : Region.Mode} {ops : Array Oper} {Q : Exit → Act → World → Prop} (hL : ¬ LetsOut Q) :
    ∀ (fuel : Nat) (listed : Array Bool) (a : Act) (w : World), wpAny P md ops Q fuel listed a w → wpAnyIn Fence.wide n P md ops Q fuel listed a w
  | 0, _, _, _, h => h
  | fuel + 1, _, _, _, h => ⟨h.1, fun i hi => op_wide hL (fun a w => any_wide hL fuel _ a w) (h.2 i hi)⟩
/-- **The held walk of a drawn region, within a round.** -/
theorem held_round {q n : Nat} {P : Program} {id : Nat} {Q : Exit → Act → World → Prop} {a : Act} {w : World} {l : List Oper} {S : World → Prop} (hL : ¬ LetsOut Q) (hnd : noDefer l = true) (hm : P.follows .mixedOrders = true)
    (h : wpAnyH P .any l.toArray Q S l.toArray.size (Array.replicate l.toArray.size false) a w.drew) : (Code.region id l.toArray true).wpIn (Fence.wide.inRound q) n P Q a w :=
  wpIn_region_any hm (any_round (noDefer_at hnd) _ _ _ _ (any_wide hL _ _ _ _ (wpAny_of_held _ _ _ _ h)))
end Go.Proofs.YtebmjmohhpkonaaDoor
