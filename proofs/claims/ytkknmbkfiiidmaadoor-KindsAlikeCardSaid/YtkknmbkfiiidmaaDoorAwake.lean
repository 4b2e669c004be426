/-
  The walk of the laws' awake, and of the law UtfCloses.
-/
import Derived.Test.YtkknmbkfiiidmaaDoorCloses
namespace Go.Proofs.YtkknmbkfiiidmaaDoor
open Go.RowKit

theorem aw1 (w : World) (hT : Tabs w) : Calls Tryd.prog 49 #[.string ⟨#[195, 169, 65]⟩] w fun e w' => e = .returned (.tuple #[.int .i32 233, .int .i64 2, .bool true]) ∧ Below w.heap.size w w' := by
  have h := first_any ⟨#[195, 169, 65]⟩ w hT
  have e1 : fR (bs ⟨#[195, 169, 65]⟩) = 233 := by decide +kernel
  have e2 : fW (bs ⟨#[195, 169, 65]⟩) = 2 := by decide +kernel
  have e3 : fB (bs ⟨#[195, 169, 65]⟩) = true := by decide +kernel
  rw [e1, e2, e3] at h
  exact h
theorem aw2 (w : World) (hT : Tabs w) : Calls Tryd.prog 56 #[.string ⟨#[65, 195, 169]⟩] w fun e w' => e = .returned (.tuple #[.int .i32 233, .int .i64 2, .bool true]) ∧ Below w.heap.size w w' := by
  have h := last_any ⟨#[65, 195, 169]⟩ (by decide) w hT
  have e1 : lR (bs ⟨#[65, 195, 169]⟩) = 233 := by decide +kernel
  have e2 : lW (bs ⟨#[65, 195, 169]⟩) = 2 := by decide +kernel
  have e3 : lB (bs ⟨#[65, 195, 169]⟩) = true := by decide +kernel
  rw [e1, e2, e3] at h
  exact h
theorem aw4 (w : World) : Calls Tryd.prog 36 #[.string ⟨#[195, 169, 65, 255]⟩] w fun e w' => e = .returned (.int .i64 3) ∧ Below w.heap.size w w' := by
  have h := count_any ⟨#[195, 169, 65, 255]⟩ (by decide) w
  have e1 : countN (bs ⟨#[195, 169, 65, 255]⟩) = 3 := by decide +kernel
  rw [e1] at h
  exact h
theorem aw5 (w : World) (hT : Tabs w) : Calls Tryd.prog 33 #[.string ⟨#[65, 195]⟩] w fun e w' => e = .returned (.int .i64 1) ∧ Below w.heap.size w w' := by
  have h := pending_any ⟨#[65, 195]⟩ (by decide) w hT
  have e1 : pendN (bs ⟨#[65, 195]⟩) = 1 := by decide +kernel
  rw [e1] at h
  exact h
theorem aw6 (w : World) (hT : Tabs w) : Calls Tryd.prog 34 #[.string ⟨#[195]⟩, .string ⟨#[169]⟩] w fun e w' => e = .returned (.int .i64 1) ∧ Below w.heap.size w w' := by
  have h := closes_any ⟨#[195]⟩ ⟨#[169]⟩ (by decide) (by decide) w hT
  have e1 : closN (bs ⟨#[195]⟩) (bs ⟨#[169]⟩) = 1 := by decide +kernel
  rw [e1] at h
  exact h
theorem aw7 (w : World) : Calls Tryd.prog 51 #[.slice (some ⟨w.heap.size, 0, none⟩) 1 1] (w.alloc (.cells #[.int .i32 233] 21)) fun e w' => e = .returned (.string ⟨#[195, 169]⟩) ∧ Below (w.heap.size + 1) (w.alloc (.cells #[.int .i32 233] 21)) w' := by
  have h := encode_any (some ⟨w.heap.size, 0, none⟩) 1 [233] _ (reads_new w .i32 [233] 21) (by simp) (by simp)
  have e1 : encS [233] = ⟨#[195, 169]⟩ := by decide +kernel
  rw [e1, World.size_alloc] at h
  exact h

theorem closN_nil (b : Bs) : closN [] b = 0 := by
  unfold closN
  rw [if_neg]
  rintro ⟨h, _⟩
  rw [properB_short (by simp)] at h
  cases h

end Go.Proofs.YtkknmbkfiiidmaaDoor
