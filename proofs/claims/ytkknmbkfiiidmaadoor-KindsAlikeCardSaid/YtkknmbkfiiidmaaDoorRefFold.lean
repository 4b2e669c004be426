/-
  Fold, as the document has it: its contract.
-/
import Derived.Test.YtkknmbkfiiidmaaDoorRefKinds
import Derived.BigQuiet
import Derived.Deep.QuietTactic
namespace Go.Proofs.YtkknmbkfiiidmaaDoor
open Go.RowKit

theorem find_drop (L : List (Int × Int × Int × Int)) (r : Int) (k : Nat) (hk : k < L.length) : (L.drop k).find? (fitB r) = if fitB r (L[k]?.getD (0, 0, 0, 0)) = true then some (L[k]?.getD (0, 0, 0, 0)) else (L.drop (k + 1)).find? (fitB r) := by
  rw [List.drop_eq_getElem_cons hk, List.find?_cons, List.getElem?_eq_getElem hk]
  simp only [Option.getD_some]
  cases fitB r L[k] <;> simp
theorem fold_rows : ∀ q ∈ foldL, 0 ≤ q.1 ∧ q.2.1 ≤ 100000 ∧ (q.2.2.1 = 1 ∨ q.2.2.1 = 2) ∧ -100000 ≤ q.2.2.2 ∧ q.2.2.2 ≤ 100000 := by decide +kernel

set_option maxRecDepth 10000 in
set_option maxHeartbeats 4000000 in
theorem reffold_any (r : Int) (hr1 : -2147483648 ≤ r) (hr2 : r ≤ 2147483647) (w : World) : Calls Tryd.prog 21 #[.int .i32 r] w fun e w' => e = .returned (.int .i32 (foldZ r)) ∧ Below w.heap.size w w' := by
  have HF := Lib.hid (fun w => folds_any w)
  have hR0 := reads_new w .i32 (flat4 foldL) 21
  obtain ⟨g, hg⟩ : ∃ g, w.heap.size = g := ⟨_, rfl⟩
  have hb0 : Below w.heap.size w (w.alloc (.cells ((flat4 foldL).map (Value.int .i32)).toArray 21)) := al (Below.refl _ _) _
  obtain ⟨w1, hw1⟩ : ∃ w1, w.alloc (.cells ((flat4 foldL).map (Value.int .i32)).toArray 21) = w1 := ⟨_, rfl⟩
  have HF1 := Lib.hid (HF.out w)
  rw [hw1] at HF1 hR0 hb0
  have HR := Lib.hid hR0
  have hlen : (flat4 foldL).length = 140 := by rw [flat4_len]; rfl
  have HLEN := Lib.hid hlen
  clear hw1 hg hR0 hlen HF
  go_enter Tryd.func21, Tryd.ntmps21
  go_wp2_with (first | (go_at_call 40; (with_reducible refine HF1.out.mono ?_); rintro e w2 ⟨rfl, rfl⟩))
  go_loopw [4] (fun i wr => ∃ j k, Hid (j = 4 * k) ∧ k ≤ 35 ∧ i = .int .i64 (j : Nat) ∧ Below w1.heap.size w1 wr ∧ Hid (foldL.find? (fitB r) = (foldL.drop k).find? (fitB r))) (fun i _ => 140 - (intOf i).toNat)
  case atStart => exact ⟨0, 0, Lib.hid rfl, by omega, rfl, Below.refl _ _, Lib.hid rfl⟩
  case round =>
    obtain ⟨j, k, hj, hk, rfl, hb, hI⟩ := hrel
    by_cases hlt : k < 35
    · have hkl : k < foldL.length := hlt
      rcases (HR.out.below hb (Nat.le_refl _)) with h0 | ⟨g', o, hgo, hc⟩
      · have := HLEN.out; rw [h0] at this; simp at this
      · obtain ⟨rfl, rfl⟩ : w.heap.size = g' ∧ 0 = o := by injection hgo with e1; injection e1 with e2 e3; exact ⟨e2, e3⟩
        have h3 := hj.out
        have e0 := hc j (by rw [HLEN.out]; omega)
        have e1 := hc (j + 1) (by rw [HLEN.out]; omega)
        have e2 := hc (j + 2) (by rw [HLEN.out]; omega)
        have e3 := hc (j + 3) (by rw [HLEN.out]; omega)
        have hat := flat4_at foldL k hkl
        rw [← h3] at hat
        rw [hat.1] at e0
        rw [hat.2.1] at e1
        rw [hat.2.2.1] at e2
        rw [hat.2.2.2] at e3
        have hD := find_drop foldL r k hkl
        have hrow := fold_rows (foldL[k]?.getD (0, 0, 0, 0)) (by rw [List.getElem?_eq_getElem hkl]; exact List.getElem_mem _)
        obtain ⟨q, hq⟩ : ∃ q, foldL[k]?.getD (0, 0, 0, 0) = q := ⟨_, rfl⟩
        rw [hq] at e0 e1 e2 e3 hD hrow
        obtain ⟨p1, p2, p3, p4⟩ := q
        simp only at e0 e1 e2 e3 hrow
        obtain ⟨hp1, hp2, hp3, hp4, hp5⟩ := hrow
        rw [Nat.zero_add] at e0 e1 e2 e3
        have hki : (j : Int) < 140 := by omega
        have hk0 : (0 : Int) ≤ (j : Int) := by omega
        have hj2 : j ≤ 140 := by omega
        have HD := Lib.hid hD
        have hki1 : (j : Int) + 1 < 140 := by omega
        have hki2 : (j : Int) + 2 < 140 := by omega
        have hki3 : (j : Int) + 3 < 140 := by omega
        clear hc hat hq h3 hD hgo hkl
        have HJ := Lib.hid (show j + 4 = 4 * (k + 1) by have := hj.out; omega)
        by_cases hb1 : p1 ≤ r
        · by_cases hb2 : r ≤ p2
          · have hws : IntKind.i32.wrap (r - p1) = r - p1 := by rw [IntKind.wrap_i32]; omega
            have hwa : IntKind.i32.wrap (r + p4) = r + p4 := by rw [IntKind.wrap_i32]; omega
            rcases hp3 with rfl | rfl
            · have HV := Lib.hid (show foldZ r = r + p4 from foldWith_some (q := (p1, p2, 1, p4)) (hI.out.trans (HD.out.trans (if_pos (by simp [fitB, hb1, hb2, Int.emod_one])))))
              go_wp2_with fail
              go_quiet (fail)
              have e3Y : (wr.drewN nq).cell? ⟨w.heap.size, j + 3, none⟩ = some (.int .i32 p4) := e3
              go_wp2_with fail
              go_ret
              exact ⟨ret_int HV.out.symm, below_drewN (hb0.trans (hb.mono hb0.size)) _⟩
            · by_cases hm : (r - p1) % 2 = 0
              · have HV := Lib.hid (show foldZ r = r + p4 from foldWith_some (q := (p1, p2, 2, p4)) (hI.out.trans (HD.out.trans (if_pos (by simp [fitB, hb1, hb2, hm])))))
                have hm' : ((r - p1) % 2 == 0) = true := beq_iff_eq.2 hm
                clear hm
                go_wp2_with fail
                go_quiet (fail)
                have e3Y : (wr.drewN nq).cell? ⟨w.heap.size, j + 3, none⟩ = some (.int .i32 p4) := e3
                go_wp2_with fail
                go_ret
                exact ⟨ret_int HV.out.symm, below_drewN (hb0.trans (hb.mono hb0.size)) _⟩
              · have HI := Lib.hid (hI.out.trans (HD.out.trans (if_neg (by simp [fitB, hb1, hb2, hm]))))
                have hm' : ((r - p1) % 2 == 0) = false := beq_eq_false_iff_ne.2 hm
                clear hm
                go_wp2_with fail
                go_quiet (fail)
                go_wp2_with fail
                exact ⟨⟨j + 4, k + 1, HJ, by omega, by go_num, below_drewN hb _, HI⟩, by simp [intOf]; omega⟩
          · have HI := Lib.hid (hI.out.trans (HD.out.trans (if_neg (by simp [fitB, hb1, hb2]))))
            have hb2' : decide (r ≤ p2) = false := decide_eq_false hb2
            go_wp2_with fail
            go_quiet (fail)
            go_wp2_with fail
            exact ⟨⟨j + 4, k + 1, HJ, by omega, by go_num, below_drewN hb _, HI⟩, by simp [intOf]; omega⟩
        · have HI := Lib.hid (hI.out.trans (HD.out.trans (if_neg (by simp [fitB, hb1]))))
          have hb1' : decide (p1 ≤ r) = false := decide_eq_false hb1
          go_wp2_with fail
          go_quiet (fail)
          go_wp2_with fail
          exact ⟨⟨j + 4, k + 1, HJ, by omega, by go_num, below_drewN hb _, HI⟩, by simp [intOf]; omega⟩
    · have hki : (140 : Int) ≤ (j : Int) := by have := hj.out; omega
      have HV := Lib.hid (show foldZ r = r from foldWith_none (hI.out.trans (by rw [List.drop_of_length_le (show foldL.length ≤ k by have : foldL.length = 35 := rfl; omega)]; rfl)))
      go_wp2_with fail
      go_ret
      exact ⟨ret_int HV.out.symm, hb0.trans (hb.mono hb0.size)⟩
end Go.Proofs.YtkknmbkfiiidmaaDoor
