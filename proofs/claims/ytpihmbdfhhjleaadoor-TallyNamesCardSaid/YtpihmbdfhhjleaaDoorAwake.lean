/-
  The walk of the laws' awake, and of the law UtfCloses.
-/
import Derived.Test.YtpihmbdfhhjleaaDoorCloses
namespace Go.Proofs.YtpihmbdfhhjleaaDoor
open Go.RowKit

theorem aw1 (w : World) (hT : Tabs w) : Calls Tryd.prog 44 #[.string ⟨#[195, 169, 65]⟩] w fun e w' => e = .returned (.tuple #[.int .i32 233, .int .i64 2, .bool true]) ∧ Below w.heap.size w w' := by
  have h := first_any ⟨#[195, 169, 65]⟩ w hT
  have e1 : fR (bs ⟨#[195, 169, 65]⟩) = 233 := by decide +kernel
  have e2 : fW (bs ⟨#[195, 169, 65]⟩) = 2 := by decide +kernel
  have e3 : fB (bs ⟨#[195, 169, 65]⟩) = true := by decide +kernel
  rw [e1, e2, e3] at h
  exact h
theorem aw5 (w : World) (hT : Tabs w) : Calls Tryd.prog 42 #[.string ⟨#[65, 195]⟩] w fun e w' => e = .returned (.int .i64 1) ∧ Below w.heap.size w w' := by
  have h := pending_any ⟨#[65, 195]⟩ (by decide) w hT
  have e1 : pendN (bs ⟨#[65, 195]⟩) = 1 := by decide +kernel
  rw [e1] at h
  exact h
theorem aw6 (w : World) (hT : Tabs w) : Calls Tryd.prog 43 #[.string ⟨#[195]⟩, .string ⟨#[169]⟩] w fun e w' => e = .returned (.int .i64 1) ∧ Below w.heap.size w w' := by
  have h := closes_any ⟨#[195]⟩ ⟨#[169]⟩ (by decide) (by decide) w hT
  have e1 : closN (bs ⟨#[195]⟩) (bs ⟨#[169]⟩) = 1 := by decide +kernel
  rw [e1] at h
  exact h
theorem closN_nil (b : Bs) : closN [] b = 0 := by
  unfold closN
  rw [if_neg]
  rintro ⟨h, _⟩
  rw [properB_short (by simp)] at h
  cases h

end Go.Proofs.YtpihmbdfhhjleaaDoor
