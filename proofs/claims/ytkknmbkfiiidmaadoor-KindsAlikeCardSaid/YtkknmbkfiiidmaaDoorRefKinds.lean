/-
  The kinds of runes, as the document has them: contracts of within, Blank, Word, Ends, Width, folds, Fold.
-/
import Derived.Test.YtkknmbkfiiidmaaDoorKinds
namespace Go.Proofs.YtkknmbkfiiidmaaDoor
open Go.RowKit

def flat2 (L : List (Int × Int)) : List Int := L.flatMap fun p => [p.1, p.2]
theorem flat2_len (L : List (Int × Int)) : (flat2 L).length = 2 * L.length := by
  induction L with
  | nil => rfl
  | cons p L ih => rw [show flat2 (p :: L) = p.1 :: p.2 :: flat2 L from rfl, List.length_cons, List.length_cons, ih, List.length_cons]; omega
theorem flat2_at (L : List (Int × Int)) : ∀ k, k < L.length → (flat2 L)[2 * k]?.getD 0 = (L[k]?.getD (0, 0)).1 ∧ (flat2 L)[2 * k + 1]?.getD 0 = (L[k]?.getD (0, 0)).2 := by
  induction L with
  | nil => intro k hk; simp at hk
  | cons p L ih =>
    intro k hk
    rw [show flat2 (p :: L) = p.1 :: p.2 :: flat2 L from rfl]
    cases k with
    | zero => exact ⟨rfl, rfl⟩
    | succ k =>
      have := ih k (by simpa using hk)
      rw [show 2 * (k + 1) = 2 * k + 1 + 1 by omega]
      simpa using this
theorem inR_drop (L : List (Int × Int)) (r : Int) (k : Nat) (hk : k < L.length) : inR (L.drop k) r = ((decide ((L[k]?.getD (0, 0)).1 ≤ r) && decide (r ≤ (L[k]?.getD (0, 0)).2)) || inR (L.drop (k + 1)) r) := by
  rw [List.drop_eq_getElem_cons hk, inR_cons, List.getElem?_eq_getElem hk]
  rfl

set_option maxHeartbeats 1000000 in
theorem within_any (ao : Option Addr) (cap : Nat) (L : List (Int × Int)) (hL : L.length ≤ 1000) (r : Int) (w : World) (hR : ReadsI w .i32 ao (flat2 L)) :
    Calls Tryd.prog 37 #[.int .i32 r, .slice ao (flat2 L).length cap] w fun e w' => e = .returned (.bool (inR L r)) ∧ w = w' := by
  have HR := Lib.hid hR
  obtain ⟨N, hN⟩ : ∃ N, (flat2 L).length = N := ⟨_, rfl⟩
  have hNL : N = 2 * L.length := by rw [← hN, flat2_len]
  rw [hN]
  have HN := Lib.hid hN
  have HNL := Lib.hid hNL
  have hN2 : N ≤ 2000 := by omega
  clear hR hN hNL
  go_enter Tryd.func37, Tryd.ntmps37
  go_wp2_with fail
  go_loopw [5] (fun i wr => ∃ j k, Hid (j = 2 * k) ∧ k ≤ L.length ∧ i = .int .i64 (j : Nat) ∧ w = wr ∧ Hid (inR L r = inR (L.drop k) r)) (fun i _ => N - (intOf i).toNat)
  case atStart => exact ⟨0, 0, Lib.hid rfl, Nat.zero_le _, rfl, rfl, Lib.hid rfl⟩
  case round =>
    obtain ⟨j, k, hj, hk, rfl, rfl, hI⟩ := hrel
    by_cases hlt : k < L.length
    · have hne : flat2 L ≠ [] := by intro e; have := HN.out; rw [e] at this; have := HNL.out; simp at *; omega
      rcases HR.out with h0 | ⟨g, o, rfl, hc⟩
      · exact absurd h0 hne
      · have h2 := HNL.out
        have h3 := hj.out
        have e0 := hc j (by rw [HN.out]; omega)
        have e1 := hc (j + 1) (by rw [HN.out]; omega)
        have hat := flat2_at L k hlt
        rw [← h3] at hat
        rw [hat.1] at e0
        rw [hat.2] at e1
        have hD := inR_drop L r k hlt
        obtain ⟨p1, hp1⟩ : ∃ p, (L[k]?.getD (0, 0)).1 = p := ⟨_, rfl⟩
        obtain ⟨p2, hp2⟩ : ∃ p, (L[k]?.getD (0, 0)).2 = p := ⟨_, rfl⟩
        rw [hp1] at e0 hD
        rw [hp2] at e1 hD
        have hki : (j : Int) + 1 < (N : Int) := by omega
        have hki' : (j : Int) < (N : Int) := by omega
        have hk0 : (0 : Int) ≤ (j : Int) := by omega
        have hj2 : j ≤ 2000 := by omega
        have HD := Lib.hid hD
        clear hc hat hp1 hp2 hne h2 h3 hD
        by_cases hb1 : p1 ≤ r
        · by_cases hb2 : r ≤ p2
          · go_wp2_with fail
            go_ret
            refine ⟨ret_bool ?_, rfl⟩
            rw [hI.out, HD.out, decide_eq_true hb1, decide_eq_true hb2]
            rfl
          · have hb2' : p2 < r := by omega
            have HI := Lib.hid (show inR L r = inR (L.drop (k + 1)) r by rw [hI.out, HD.out, decide_eq_true hb1, decide_eq_false hb2]; rfl)
            have HJ := Lib.hid (show j + 2 = 2 * (k + 1) by have := hj.out; omega)
            go_wp2_with fail
            exact ⟨⟨j + 2, k + 1, HJ, hlt, by go_num, trivial, HI⟩, by simp [intOf]; omega⟩
        · have hb1' : r < p1 := by omega
          have HI := Lib.hid (show inR L r = inR (L.drop (k + 1)) r by rw [hI.out, HD.out, decide_eq_false hb1]; rfl)
          have HJ := Lib.hid (show j + 2 = 2 * (k + 1) by have := hj.out; omega)
          go_wp2_with fail
          exact ⟨⟨j + 2, k + 1, HJ, hlt, by go_num, trivial, HI⟩, by simp [intOf]; omega⟩
    · have hki : (N : Int) ≤ (j : Int) + 1 := by have := HNL.out; have := hj.out; omega
      have hj2 : j ≤ 2000 := by have := hj.out; omega
      have HI := Lib.hid (show inR L r = false by rw [hI.out, List.drop_of_length_le (by omega)]; rfl)
      go_wp2_with fail
      go_ret
      exact ⟨ret_bool HI.out.symm, rfl⟩

theorem within_lit (L : List (Int × Int)) (hL : L.length ≤ 1000) (N : Nat) (hN : (flat2 L).length = N) (r : Int) (w : World) (xs : Array Value) (hx : xs = ((flat2 L).map (Value.int .i32)).toArray) (b : Nat) (hb : b = w.heap.size) (cap : Nat) (t : TypeId) :
    Calls Tryd.prog 37 #[.int .i32 r, .slice (some ⟨b, 0, none⟩) N cap] (w.alloc (.cells xs t)) fun e w' => e = .returned (.bool (inR L r)) ∧ w.alloc (.cells xs t) = w' := by
  subst hN
  subst hx
  subst hb
  exact within_any _ cap L hL r _ (reads_new w .i32 (flat2 L) t)

set_option maxRecDepth 10000 in
set_option maxHeartbeats 2000000 in
theorem refblank_any (r : Int) (w : World) : Calls Tryd.prog 13 #[.int .i32 r] w fun e w' => e = .returned (.bool (blankB r)) ∧ Below w.heap.size w w' := by
  have H := Lib.hid (within_lit blankL (by decide))
  go_enter Tryd.func13, Tryd.ntmps13
  go_wp2_with ((go_at_call 37; (with_reducible refine (H.out _ ?_ r _ _ ?_ _ ?_ _ _).mono ?_); rfl; rfl; rfl; rintro e w1 ⟨rfl, rfl⟩))
  go_ret
  exact ⟨rfl, al (Below.refl _ _) _⟩
set_option maxRecDepth 10000 in
set_option maxHeartbeats 2000000 in
theorem refword_any (r : Int) (w : World) : Calls Tryd.prog 15 #[.int .i32 r] w fun e w' => e = .returned (.bool (wordB r)) ∧ Below w.heap.size w w' := by
  have H := Lib.hid (within_lit wordL (by decide))
  go_enter Tryd.func15, Tryd.ntmps15
  go_wp2_with ((go_at_call 37; (with_reducible refine (H.out _ ?_ r _ _ ?_ _ ?_ _ _).mono ?_); rfl; rfl; rfl; rintro e w1 ⟨rfl, rfl⟩))
  go_ret
  exact ⟨rfl, al (Below.refl _ _) _⟩
set_option maxHeartbeats 2000000 in
theorem refends_any (r : Int) (w : World) : Calls Tryd.prog 17 #[.int .i32 r] w fun e w' => e = .returned (.bool (endsB r)) ∧ Below w.heap.size w w' := by
  go_enter Tryd.func17, Tryd.ntmps17
  go_wp2
  all_goals go_ret
  all_goals refine ⟨ret_bool ?_, Below.refl _ _⟩
  all_goals (rw [Bool.eq_iff_iff, ends_iff]; simp only [beq_iff_eq, Bool.or_eq_true, eq_self, true_iff]; omega)

set_option maxRecDepth 10000 in
set_option maxHeartbeats 4000000 in
theorem refwidth_any (r : Int) (w : World) : Calls Tryd.prog 19 #[.int .i32 r] w fun e w' => e = .returned (.int .i64 (widthN r : Nat)) ∧ Below w.heap.size w w' := by
  have HZ := Lib.hid (fun N hN => within_lit zeroL (by decide) N hN r)
  have HW := Lib.hid (fun N hN => within_lit wideL (by decide) N hN r)
  unfold widthN
  go_enter Tryd.func19, Tryd.ntmps19
  cases hz : inR zeroL r
  · rw [hz] at HZ
    cases hw : inR wideL r
    · rw [hw] at HW
      go_wp2_with (first | ((go_at_call 37; (with_reducible refine (HZ.out _ ?_ _ _ ?_ _ ?_ _ _).mono ?_); rfl; rfl; rfl; rintro e w1 ⟨rfl, rfl⟩)) | ((go_at_call 37; (with_reducible refine (HW.out _ ?_ _ _ ?_ _ ?_ _ _).mono ?_); rfl; rfl; (exact (World.size_alloc _ _).symm); rintro e w1 ⟨rfl, rfl⟩)))
      go_ret
      exact ⟨rfl, al (al (Below.refl _ _) _) _⟩
    · rw [hw] at HW
      go_wp2_with (first | ((go_at_call 37; (with_reducible refine (HZ.out _ ?_ _ _ ?_ _ ?_ _ _).mono ?_); rfl; rfl; rfl; rintro e w1 ⟨rfl, rfl⟩)) | ((go_at_call 37; (with_reducible refine (HW.out _ ?_ _ _ ?_ _ ?_ _ _).mono ?_); rfl; rfl; (exact (World.size_alloc _ _).symm); rintro e w1 ⟨rfl, rfl⟩)))
      go_ret
      exact ⟨rfl, al (al (Below.refl _ _) _) _⟩
  · rw [hz] at HZ
    go_wp2_with (first | ((go_at_call 37; (with_reducible refine (HZ.out _ ?_ _ _ ?_ _ ?_ _ _).mono ?_); rfl; rfl; rfl; rintro e w1 ⟨rfl, rfl⟩)) | ((go_at_call 37; (with_reducible refine (HW.out _ ?_ _ _ ?_ _ ?_ _ _).mono ?_); rfl; rfl; (exact (World.size_alloc _ _).symm); rintro e w1 ⟨rfl, rfl⟩)))
    go_ret
    exact ⟨rfl, al (Below.refl _ _) _⟩

/-! ### Fold -/
def flat4 (L : List (Int × Int × Int × Int)) : List Int := L.flatMap fun p => [p.1, p.2.1, p.2.2.1, p.2.2.2]
theorem flat4_len (L : List (Int × Int × Int × Int)) : (flat4 L).length = 4 * L.length := by
  induction L with
  | nil => rfl
  | cons p L ih => rw [show flat4 (p :: L) = p.1 :: p.2.1 :: p.2.2.1 :: p.2.2.2 :: flat4 L from rfl]; simp only [List.length_cons, ih]; omega
theorem flat4_at (L : List (Int × Int × Int × Int)) : ∀ k, k < L.length → (flat4 L)[4 * k]?.getD 0 = (L[k]?.getD (0, 0, 0, 0)).1 ∧ (flat4 L)[4 * k + 1]?.getD 0 = (L[k]?.getD (0, 0, 0, 0)).2.1 ∧
    (flat4 L)[4 * k + 2]?.getD 0 = (L[k]?.getD (0, 0, 0, 0)).2.2.1 ∧ (flat4 L)[4 * k + 3]?.getD 0 = (L[k]?.getD (0, 0, 0, 0)).2.2.2 := by
  induction L with
  | nil => intro k hk; simp at hk
  | cons p L ih =>
    intro k hk
    rw [show flat4 (p :: L) = p.1 :: p.2.1 :: p.2.2.1 :: p.2.2.2 :: flat4 L from rfl]
    cases k with
    | zero => exact ⟨rfl, rfl, rfl, rfl⟩
    | succ k =>
      have := ih k (by simpa using hk)
      rw [show 4 * (k + 1) = 4 * k + 1 + 1 + 1 + 1 by omega]
      simpa using this

theorem wpl_world {P : Program} {ops : Array Oper} {Q : Exit → Act → World → Prop} {rest : List Oper} {o : Oper} {a : Act} {w w' : World} {v : Value} {d : Nat} (hw : Region.wanted o (yielded ops a.tmps) = true) (hd : o.dst = some d)
    (he : (execOp a.eval o).run P w = .ok (.value v) w') (h : wpList P ops Q rest (a.put (some d) v) w') : wpList P ops Q (o :: rest) a w := by
  refine wpList_step fun K hK => ?_
  rw [if_pos hw]
  unfold Oper.wp
  rw [he]
  show K (a.put o.dst v) w'
  rw [hd]
  exact hK _ _ h
set_option maxRecDepth 10000 in
set_option maxHeartbeats 4000000 in
theorem folds_any (w : World) : Calls Tryd.prog 40 #[] w fun e w' => e = .returned (.slice (some ⟨w.heap.size, 0, none⟩) 140 140) ∧ w.alloc (.cells ((flat4 foldL).map (Value.int .i32)).toArray 21) = w' := by
  go_enter Tryd.func40, Tryd.ntmps40
  refine wp_seq (wp_region_lit ?_)
  refine wpl_value rfl rfl (run_assign rfl) ?_
  show (Code.seq _ _).wp _ _ _ _
  refine wp_seq (wp_region_lit ?_)
  refine wpl_world (v := .slice (some ⟨w.heap.size, 0, none⟩) 140 140) (w' := w.alloc (.cells ((flat4 foldL).map (Value.int .i32)).toArray 21)) rfl rfl (by kernel_rfl) ?_
  refine wpl_value rfl rfl (run_assign rfl) ?_
  refine wp_ret ?_
  go_ret
  exact ⟨rfl, rfl⟩
end Go.Proofs.YtkknmbkfiiidmaaDoor
