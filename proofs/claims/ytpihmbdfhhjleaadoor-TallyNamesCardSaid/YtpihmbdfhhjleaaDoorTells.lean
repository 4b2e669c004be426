/-
  The walk of the law TallyTells.
-/
import Derived.Test.YtpihmbdfhhjleaaDoorTalOf
namespace Go.Proofs.YtpihmbdfhhjleaaDoor
open Go.RowKit

theorem box_tabs {w W : World} {A B C D E : Prop} (H : A ∧ B ∧ C ∧ D ∧ E ∧ Below w.heap.size w W) (hT : Tabs w) : Tabs W := hT.below H.2.2.2.2.2 (Nat.le_refl _)

set_option maxHeartbeats 4000000 in
theorem tallyTells_any (s : ByteArray) (hs : s.size ≤ 140737488351232) (w : World) (hT : Tabs w) :
    Calls Tryd.prog 3 #[.string s] w fun e w' => e = .returned (.bool true) ∧ Below w.heap.size w w' := by
  obtain ⟨b, c, l, h, t, hI⟩ := isT_ex (bs s)
  have HOF := Lib.hid (of_is (by omega) hI)
  have HRO := Lib.hid (rof_is hs hI)
  have HCH := Lib.hid (check_is hI (by rw [← size_bs]; omega))
  have HT := Lib.hid hT
  have hbs : (b == (s.size : Int)) = true := beq_iff_eq.2 (by rw [hI.b, size_bs])
  have HC := Lib.hid hI.c
  clear hT hI
  have hgd := guard_tal
  have heq := fun w => eq_tal b c l h t b c l h t w
  rw [show eqT b c l h t b c l h t = true from decide_eq_true ⟨rfl, rfl, rfl, rfl, rfl⟩] at heq
  have hb := Below.refl w.heap.size w
  go_enter Tryd.func3, Tryd.ntmps3
  go_wp2_with fail
  (with_reducible refine (HOF.out _).mono ?_)
  rintro e w1 ⟨rfl, hb1⟩
  have hb := nx hb hb1
  clear hb1
  go_wp2_with fail
  go_loopw [4] (fun n wr => ∃ done p, Cut (bs s) done p ∧ n = .int .i64 (done.length : Nat) ∧ wr = (w1.alloc (.cells #[.int .i64 b, .int .i64 c, .int .i64 l, .string h, .string t] 23)).iter s p) (fun _ wr => s.size - wr.iterPos (w1.heap.size + 1))
  case atStart => exact ⟨[], 0, Cut.zero _, rfl, rfl⟩
  case round =>
    obtain ⟨done, p, hc, rfl, rfl⟩ := hrel
    have hle := hc.len_le
    have hpl := hc.1
    rw [← size_bs] at hpl
    by_cases hp : p < s.size
    · have hnx := fun ty => run_next_any (P := Tryd.prog) (w1.alloc (.cells #[.int .i64 b, .int .i64 c, .int .i64 l, .string h, .string t] 23)) s p ty hp
      have hst := Lib.hid (hc.step (by rw [← size_bs]; exact hp))
      rw [decode_bs, World.size_alloc] at hnx
      have hw := (wid_bounds ((bs s).drop p)).1
      obtain ⟨d, hd⟩ : ∃ d, d = Lib.decodeL ((bs s).drop p) := ⟨_, rfl⟩
      rw [← hd] at hnx hst hw
      clear hd hc
      go_wp2_with fail
      go_roundw
      case rel => exact ⟨_, _, hst.out, by simp, rfl⟩
      case measure => rw [tObj_pos, tObj_pos]; omega
    · have hnx := fun ty => run_next_end (P := Tryd.prog) (w1.alloc (.cells #[.int .i64 b, .int .i64 c, .int .i64 l, .string h, .string t] 23)) s p ty hp
      rw [World.size_alloc] at hnx
      have he := (hc.end' (by rw [← size_bs]; exact hp)).1
      have hcn : (c == (done.length : Int)) = true := beq_iff_eq.2 (by rw [HC.out]; unfold countN; rw [he])
      have hb2 : Below w.heap.size w ((w1.alloc (.cells #[.int .i64 b, .int .i64 c, .int .i64 l, .string h, .string t] 23)).iter s p) := by
        unfold World.iter
        exact al (al hb _) _
      have X := (BoxAt.new w1 b c l h t).keep (W' := (w1.alloc (.cells #[.int .i64 b, .int .i64 c, .int .i64 l, .string h, .string t] 23)).iter s p) (by unfold World.iter; exact (Below.refl _ _).alloc (Nat.le_refl _) _)
      obtain ⟨W, hW⟩ : ∃ W, (w1.alloc (.cells #[.int .i64 b, .int .i64 c, .int .i64 l, .string h, .string t] 23)).iter s p = W := ⟨_, rfl⟩
      rw [hW] at hnx hb2 X ⊢
      clear hW he hc HC hb
      obtain ⟨x0, x1, x2, x3, x4⟩ := X
      have hS := And.intro x0 (And.intro x1 (And.intro x2 (And.intro x3 (And.intro x4 hb2))))
      go_wp2_with fail
      go_region_held3 (fun w' => w'.cell? ⟨w1.heap.size, 0, none⟩ = some (.int .i64 b) ∧ w'.cell? ⟨w1.heap.size, 1, none⟩ = some (.int .i64 c) ∧ w'.cell? ⟨w1.heap.size, 2, none⟩ = some (.int .i64 l) ∧ w'.cell? ⟨w1.heap.size, 3, none⟩ = some (.string h) ∧ w'.cell? ⟨w1.heap.size, 4, none⟩ = some (.string t) ∧ Below w.heap.size w w') (first | assumption | exact box_keep hS (Below.refl _ _).drew | exact box_keep (by assumption) (by assumption))
        (first | (go_at_call 12; (with_reducible refine (HRO.out _).mono ?_); rintro e w' ⟨rfl, hb'⟩) | (go_at_call 13; (with_reducible refine (HCH.out _).mono ?_); rintro e w' ⟨rfl, hb'⟩) | (go_at_call 14; (with_reducible refine (works_any _ (box_tabs (by assumption) HT.out)).mono ?_); rintro e w' ⟨rfl, hb'⟩))
      all_goals
        go_wp2_with fail
        rename_i HH
        go_ret
        exact ⟨rfl, HH.2.2.2.2.2⟩
end Go.Proofs.YtpihmbdfhhjleaaDoor
