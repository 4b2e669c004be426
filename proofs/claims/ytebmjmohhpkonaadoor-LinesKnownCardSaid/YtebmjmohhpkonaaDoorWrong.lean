/-
  The law's helper 'wrong': what the iterator Wrong tells against the document's characters, whole and left early.
-/
import Derived.Test.YtebmjmohhpkonaaDoorIter
import Derived.Deep.AppendLies
import Derived.Deep.RegionLaw
import Derived.Deep.RegionHeld3
import Derived.BigQuiet
namespace Go.Proofs.YtebmjmohhpkonaaDoor
open Go.RowKit
attribute [local go_sem] Oper.semAt_some

theorem info_int : (Tryd.prog.info? 3).map (fun i => (i.zero, i.size, i.bytes)) = some (some (.int .i64 0), 1, 8) := by kernel_rfl

/-- 'out = append(out, ..)', out in a box below the row's base: what stands behind the store. -/
theorem app_box {W w1 : World} {base B n₀ : Nat} {t e : TypeId} {size : Nat} {v v' : Value} {k m : Nat} {xs ys : List Value} {tmp : Obj}
    (hv : Boxed W B t v) (hBb : B < base) (hrow : W.ownsRow base e size v k xs) (hbase : base ≤ W.heap.size) (hn : n₀ ≤ B)
    (hown' : w1.ownsRow base e size v' m ys) (hgrow : (W.alloc tmp).grownBy w1 v.ownBlock) :
    Boxed w1 B t v ∧ Boxed (w1.setCell ⟨B, 0, none⟩ v') B t v' ∧ (w1.setCell ⟨B, 0, none⟩ v').ownsRow base e size v' m ys ∧ KeepsOthers W (w1.setCell ⟨B, 0, none⟩ v') ∧ Below n₀ W (w1.setCell ⟨B, 0, none⟩ v') ∧
    (∀ B' t' u, B' < base → B' ≠ B → Boxed W B' t' u → Boxed (w1.setCell ⟨B, 0, none⟩ v') B' t' u) := by
  have hne : ∀ j, j < base → some j ≠ v.ownBlock := fun j hj e => by have := (hrow.lt j e.symm).1; omega
  have hv1 : Boxed w1 B t v := (hv.alloc tmp).kept hgrow (hne B hBb)
  refine ⟨hv1, hv1.set v', hown'.kept (grownBy_setCell' w1 B v') (.inr (fun e => by have := (hown'.lt B e).1; omega)), ?_, ?_, ?_⟩
  · refine ((KeepsOthers.alloc W tmp).trans (KeepsOthers.of_grownBy hgrow fun j o ej hj => ?_)).trans (KeepsOthers.setCell _ _ _)
    rcases (hrow.alloc tmp).2 with ⟨rfl, _⟩ | ⟨g, cap, cur, rfl, _, hgb, _⟩
    · simp [Value.ownBlock] at ej
    · obtain rfl : g = j := by simpa [Value.ownBlock] using ej
      rw [hgb] at hj; cases hj; rfl
  · refine (((Below.refl n₀ W).alloc (by omega) tmp).grown hgrow (by rw [World.size_alloc]; omega) fun j ej => ?_).setCell (p := ⟨B, 0, none⟩) hn v'
    have := (hrow.lt j ej).1
    omega
  · intro B' t' u hB' hBB hb
    exact ((hb.alloc tmp).kept hgrow (hne B' hB')).kept (grownBy_setCell' w1 B v') (fun e => hBB (by injection e))

theorem wrTo_prefix (l : Bs) {a b : Nat} (h : a ≤ b) : wrTo l a <+: wrTo l b := by
  induction b with
  | zero => obtain rfl : a = 0 := by omega
            exact List.prefix_refl _
  | succ b ih =>
    by_cases e : a = b + 1
    · subst e; exact List.prefix_refl _
    · refine (ih (by omega)).trans ?_
      cases hw : isWrong l b
      · rw [wrTo_no l b hw]; exact List.prefix_refl _
      · rw [wrTo_yes l b hw]; exact List.prefix_append _ _

end Go.Proofs.YtebmjmohhpkonaaDoor
