/-
  The kinds of runes: contracts of the program's Blank, Word, Ends, Width, Fold and of the document's.
-/
import Derived.Test.YtkknmbkfiiidmaaDoorChain
import Derived.Test.YtkknmbkfiiidmaaDoorProg
namespace Go.Proofs.YtkknmbkfiiidmaaDoor
open Go.RowKit

set_option maxHeartbeats 1000000 in
theorem word_any (r : Int) (w : World) : Calls Tryd.prog 14 #[.int .i32 r] w fun e w' => e = .returned (.bool (wordB r)) ∧ w = w' := by
  refine calls_rn Tryd.func14 rfl rfl (by decide) rfl (fun a ha => ?_)
  refine seq_set ha (by decide) (by decide) (fun a ha _ => ?_)
  refine or_fn (B := inR wordL r) (d := 3) ?_ ha (by decide) (fun a' h' hv => ⟨rfl, rfl, _, hv, h'.defs, ?_, rfl⟩)
  · unfold wordL
    repeat (first | refine chain_or (chain_range (by decide) (by decide) (by decide)) ?_ | refine chain_or (chain_eq (by decide) (by decide) (by decide)) ?_)
    first | exact chain_range (by decide) (by decide) (by decide) | exact chain_eq (by decide) (by decide) (by decide)
  · unfold wordB
    cases inR wordL r <;> rfl

set_option maxHeartbeats 1000000 in
theorem width_any (r : Int) (w : World) : Calls Tryd.prog 18 #[.int .i32 r] w fun e w' => e = .returned (.int .i64 (widthN r : Nat)) ∧ w = w' := by
  refine calls_rn Tryd.func18 rfl rfl (by decide) rfl (fun a ha => ?_)
  refine seq_set ha (by decide) (by decide) (fun a ha _ => ?_)
  refine wp_seq (wp_block (case_more (chain_lss (by decide) (by decide) (by decide)) ha (fun hB a ha => ?_) (fun hB a ha => case_more (B := inR zeroL r) (d := 6) ?_ ha (fun hZ a ha => ?_) (fun hZ a ha => case_more (B := inR wideL r) (d := 93) ?_ ha (fun hW a ha => ?_) (fun hW a ha => wp_skip ?_)))))
  · refine ret_set ha (by decide) (fun a' h' hv => ⟨rfl, rfl, _, hv, h'.defs, ?_, rfl⟩)
    have hr : r < 0 := by simpa using hB
    have h1 : inR zeroL r = false := clear_out (a := r) (b := -1) (by simp [clear', zeroL]) (Int.le_refl _) (by omega)
    have h2 : inR wideL r = false := clear_out (a := r) (b := -1) (by simp [clear', wideL]) (Int.le_refl _) (by omega)
    unfold widthN
    rw [h1, h2]
    rfl
  · unfold zeroL
    repeat (first | refine chain_or (chain_range (by decide) (by decide) (by decide)) ?_ | refine chain_or (chain_eq (by decide) (by decide) (by decide)) ?_)
    first | exact chain_range (by decide) (by decide) (by decide) | exact chain_eq (by decide) (by decide) (by decide)
  · refine ret_set ha (by decide) (fun a' h' hv => ⟨rfl, rfl, _, hv, h'.defs, ?_, rfl⟩)
    unfold widthN
    rw [hZ]
    rfl
  · unfold wideL
    repeat (first | refine chain_or (chain_range (by decide) (by decide) (by decide)) ?_ | refine chain_or (chain_eq (by decide) (by decide) (by decide)) ?_)
    first | exact chain_range (by decide) (by decide) (by decide) | exact chain_eq (by decide) (by decide) (by decide)
  · refine ret_set ha (by decide) (fun a' h' hv => ⟨rfl, rfl, _, hv, h'.defs, ?_, rfl⟩)
    unfold widthN
    rw [hZ, hW]
    rfl
  · show (Code.seq _ _).wp _ _ _ _
    refine ret_set ha (by decide) (fun a' h' hv => ⟨rfl, rfl, _, hv, h'.defs, ?_, rfl⟩)
    unfold widthN
    rw [hZ, hW]
    rfl

theorem blank_iff (r : Int) : blankB r = true ↔ (9 ≤ r ∧ r ≤ 13) ∨ r = 32 ∨ r = 133 ∨ r = 160 ∨ r = 5760 ∨ (8192 ≤ r ∧ r ≤ 8202) ∨ r = 8232 ∨ r = 8233 ∨ r = 8239 ∨ r = 8287 ∨ r = 12288 := by
  unfold blankB
  rw [inR_iff]
  simp only [blankL, List.mem_cons, List.not_mem_nil, or_false]
  constructor
  · rintro ⟨p, hp, h1, h2⟩
    rcases hp with rfl | rfl | rfl | rfl | rfl | rfl | rfl | rfl | rfl | rfl <;> simp only at h1 h2 <;> omega
  · intro h
    rcases h with h | h | h | h | h | h | h | h | h | h | h
    · exact ⟨(0x9, 0xd), by simp, h.1, h.2⟩
    · exact ⟨(0x20, 0x20), by simp, by omega, by omega⟩
    · exact ⟨(0x85, 0x85), by simp, by omega, by omega⟩
    · exact ⟨(0xa0, 0xa0), by simp, by omega, by omega⟩
    · exact ⟨(0x1680, 0x1680), by simp, by omega, by omega⟩
    · exact ⟨(0x2000, 0x200a), by simp, by omega, by omega⟩
    · exact ⟨(0x2028, 0x2029), by simp, by simp only; omega, by simp only; omega⟩
    · exact ⟨(0x2028, 0x2029), by simp, by simp only; omega, by simp only; omega⟩
    · exact ⟨(0x202f, 0x202f), by simp, by omega, by omega⟩
    · exact ⟨(0x205f, 0x205f), by simp, by omega, by omega⟩
    · exact ⟨(0x3000, 0x3000), by simp, by omega, by omega⟩
theorem blank_not {r : Int} (h : ¬ ((9 ≤ r ∧ r ≤ 13) ∨ r = 32 ∨ r = 133 ∨ r = 160 ∨ r = 5760 ∨ (8192 ≤ r ∧ r ≤ 8202) ∨ r = 8232 ∨ r = 8233 ∨ r = 8239 ∨ r = 8287 ∨ r = 12288)) : blankB r = false := by
  cases hb : blankB r with
  | false => rfl
  | true => exact absurd ((blank_iff r).1 hb) h

set_option maxHeartbeats 1000000 in
theorem blank_any (r : Int) (w : World) : Calls Tryd.prog 12 #[.int .i32 r] w fun e w' => e = .returned (.bool (blankB r)) ∧ w = w' := by
  go_enter Tryd.func12, Tryd.ntmps12
  go_wp2
  all_goals go_ret
  all_goals refine ⟨ret_bool ?_, rfl⟩
  all_goals (rw [Bool.eq_iff_iff, blank_iff]; simp only [beq_iff_eq, beq_eq_false_iff_ne, Bool.or_eq_true, decide_eq_true_eq, ne_eq, Bool.false_eq_true, true_iff, false_iff, eq_self] at *; omega)

theorem ends_iff (r : Int) : endsB r = true ↔ r = 10 ∨ r = 13 ∨ r = 133 ∨ r = 8232 ∨ r = 8233 := by
  unfold endsB
  rw [inR_iff]
  simp only [List.mem_cons, List.not_mem_nil, or_false]
  constructor
  · rintro ⟨p, hp, h1, h2⟩
    rcases hp with rfl | rfl | rfl | rfl <;> simp only at h1 h2 <;> omega
  · intro h
    rcases h with h | h | h | h | h
    · exact ⟨(0xa, 0xa), by simp, by omega, by omega⟩
    · exact ⟨(0xd, 0xd), by simp, by omega, by omega⟩
    · exact ⟨(0x85, 0x85), by simp, by omega, by omega⟩
    · exact ⟨(0x2028, 0x2029), by simp, by simp only; omega, by simp only; omega⟩
    · exact ⟨(0x2028, 0x2029), by simp, by simp only; omega, by simp only; omega⟩
set_option maxHeartbeats 1000000 in
theorem ends_any (r : Int) (w : World) : Calls Tryd.prog 16 #[.int .i32 r] w fun e w' => e = .returned (.bool (endsB r)) ∧ w = w' := by
  go_enter Tryd.func16, Tryd.ntmps16
  go_wp2
  all_goals go_ret
  all_goals refine ⟨ret_bool ?_, rfl⟩
  all_goals (rw [Bool.eq_iff_iff, ends_iff]; simp only [beq_iff_eq, beq_eq_false_iff_ne, ne_eq, Bool.false_eq_true, true_iff, false_iff, eq_self] at *; omega)

set_option maxHeartbeats 1000000 in
theorem second_any (r lo hi : Int) (h0 : 0 ≤ lo) (h1 : hi ≤ 1114111) (w : World) : Calls Tryd.prog 52 #[.int .i32 r, .int .i32 lo, .int .i32 hi] w fun e w' => e = .returned (.bool (fitB r (lo, hi, 2, 1))) ∧ w = w' := by
  by_cases h2 : lo ≤ r
  · by_cases h3 : r ≤ hi
    · have hw : IntKind.i32.wrap (r - lo) = r - lo := by rw [IntKind.wrap_i32]; omega
      go_enter Tryd.func52, Tryd.ntmps52
      go_wp2
      go_ret
      refine ⟨ret_bool ?_, rfl⟩
      simp [fitB, h2, h3]
    · go_enter Tryd.func52, Tryd.ntmps52
      go_wp2
      go_ret
      refine ⟨ret_bool ?_, rfl⟩
      simp [fitB]
      omega
  · go_enter Tryd.func52, Tryd.ntmps52
    go_wp2
    go_ret
    refine ⟨ret_bool ?_, rfl⟩
    simp [fitB]
    omega

/-- 'case second(r, lo, hi)'. -/
theorem chain_second {n : Nat} {r : Int} {id k d : Nat} {lo hi c : Int} {tt tb : TypeId} {ats : Array TypeId} {p1 p2 p3 : String} {f1 f2 f3 : Array Edge} (hd : 0 < d) (hk : d < k) (hn : k + 1 < n) (h0 : 0 ≤ lo) (h1 : hi ≤ 1114111) :
    Chain Tryd.prog (Code.region id #[{ dst := some k, op := .move (.tmp 0), type := tt, pos := p1, after := f1, guard := none },
      { dst := some (k + 1), op := .call { callee := .value (.func 52), args := #[.tmp k, .const (.int .i32 lo), .const (.int .i32 hi)], argTypes := ats }, type := tb, pos := p2, after := f2, guard := none },
      { dst := some d, op := .assign (.tmp (k + 1)), type := tb, pos := p3, after := f3, guard := none }] false) n d r (fitB r (lo, hi, 2, c)) := by
  intro Q a w ha h
  have hs := ha.size
  refine wp_region_lit ?_
  refine wpl_value rfl rfl (run_move (eval_of ha.zero)) ?_
  have h2 := ha.put (i := k) (by omega) (.int .i32 r)
  have s2 := h2.size
  have q2 := put_same (a := a) (i := k) (v := .int .i32 r) (by omega)
  generalize a.put (some k) (.int .i32 r) = A at h2 s2 q2 ⊢
  refine wpList_plain rfl fun K hK => ?_
  unfold Oper.wp
  have he : (execOp A.eval { dst := some (k + 1), op := .call { callee := .value (.func 52), args := #[.tmp k, .const (.int .i32 lo), .const (.int .i32 hi)], argTypes := ats }, type := tb, pos := p2, after := f2, guard := none }).run Tryd.prog w = .ok (.enter 52 #[.int .i32 r, .int .i32 lo, .int .i32 hi]) w := by
    have e1 := eval_of q2
    simp [go_sem, q2]
  rw [he]
  show Calls _ _ _ _ _
  refine (second_any r lo hi h0 h1 w).mono ?_
  rintro e w' ⟨rfl, rfl⟩
  refine hK _ _ ?_
  show wpList Tryd.prog _ Q _ (A.put (some (k + 1)) (.bool (fitB r (lo, hi, 2, c)))) w
  have h3 := h2.put (i := k + 1) (by omega) (.bool (fitB r (lo, hi, 2, c)))
  have s3 := h3.size
  refine wpl_value rfl rfl (run_assign (eval_of (put_same (by omega)))) ?_
  exact h _ (h3.put hd _) (put_same (by omega))

theorem chain_fit {P : Program} {n : Nat} {r : Int} {d : Nat} {x : Code} {lo hi c : Int} (h : Chain P x n d r (inR [(lo, hi)] r)) : Chain P x n d r (fitB r (lo, hi, 1, c)) := by rw [fit_one]; exact h

def foldWith (L : List (Int × Int × Int × Int)) (r : Int) : Int := match L.find? (fitB r) with | some q => r + q.2.2.2 | none => r
theorem foldWith_some {L : List (Int × Int × Int × Int)} {r : Int} {q : Int × Int × Int × Int} (h : L.find? (fitB r) = some q) : foldWith L r = r + q.2.2.2 := by unfold foldWith; rw [h]
theorem foldWith_none {L : List (Int × Int × Int × Int)} {r : Int} (h : L.find? (fitB r) = none) : foldWith L r = r := by unfold foldWith; rw [h]
theorem fold_low (r : Int) (h : r < 1024) : foldZ r = foldWith (foldL.take 18) r := by
  show foldWith foldL r = _
  have h2 : (foldL.drop 18).find? (fitB r) = none := by
    rw [List.find?_eq_none]
    intro q hq
    have : ∀ q ∈ foldL.drop 18, 1024 ≤ q.1 := by decide +kernel
    have := this q hq
    simp [fitB]
    omega
  have h3 : (foldL.take 18 ++ foldL.drop 18).find? (fitB r) = (foldL.take 18).find? (fitB r) := by rw [List.find?_append, h2, Option.or_none]
  rw [List.take_append_drop] at h3
  unfold foldWith
  rw [h3]
theorem fold_high (r : Int) (h : 1024 ≤ r) : foldZ r = foldWith (foldL.drop 18) r := by
  show foldWith foldL r = _
  have h2 : (foldL.take 18).find? (fitB r) = none := by
    rw [List.find?_eq_none]
    intro q hq
    have : ∀ q ∈ foldL.take 18, q.2.1 < 1024 := by decide +kernel
    have := this q hq
    simp [fitB]
    omega
  have h3 : (foldL.take 18 ++ foldL.drop 18).find? (fitB r) = (foldL.drop 18).find? (fitB r) := by rw [List.find?_append, h2, Option.none_or]
  rw [List.take_append_drop] at h3
  unfold foldWith
  rw [h3]

set_option maxHeartbeats 4000000 in
theorem low_any (r : Int) (w : World) : Calls Tryd.prog 38 #[.int .i32 r] w fun e w' => e = .returned (.int .i32 (foldWith (foldL.take 18) r)) ∧ w = w' := by
  refine calls_rn Tryd.func38 rfl rfl (by decide) rfl (fun a ha => ?_)
  refine seq_set ha (by decide) (by decide) (fun a ha _ => ?_)
  have hF : ∀ q, (foldL.take 18).find? (fitB r) = some q → (Ending.returned (.int .i32 (r + q.2.2.2)) = .returned (.int .i32 (foldWith (foldL.take 18) r)) ∧ w = w) := fun q hq => ⟨by rw [foldWith_some hq], rfl⟩
  refine wp_seq (wp_block ((show FChain Tryd.prog _ Tryd.f38.ntmps r (foldL.take 18) from ?_) _ a w ha (fun q hq a' h' hv => ⟨rfl, rfl, _, hv, h'.defs, hF q hq⟩) (fun hq a' h' => ?_)))
  · simp only [foldL, List.take]
    repeat'
      first
        | exact fchain_nil
        | refine fchain_cons (chain_fit (chain_range (by decide) (by decide) (by decide))) (fun hf Q a w ha h => ?_) ?_
        | refine fchain_cons (chain_fit (chain_eq (by decide) (by decide) (by decide))) (fun hf Q a w ha h => ?_) ?_
        | refine fchain_cons (chain_second (by decide) (by decide) (by decide) (by decide) (by decide)) (fun hf Q a w ha h => ?_) ?_
        | (dsimp only at h; exact ret_add ha (by decide) (by decide) (by have hf := fit_iff.1 hf; simp only at hf; rw [IntKind.wrap_i32]; omega) h)
        | (dsimp only at h; exact ret_sub ha (by decide) (by decide) (by have hf := fit_iff.1 hf; simp only at hf; rw [IntKind.wrap_i32]; omega) h)
  · show (Code.seq _ _).wp _ _ _ _
    exact ret_self h' (by decide) (by decide) (fun a2 h2 hv => ⟨rfl, rfl, _, hv, h2.defs, by rw [foldWith_none hq], rfl⟩)
set_option maxHeartbeats 4000000 in
theorem high_any (r : Int) (w : World) : Calls Tryd.prog 39 #[.int .i32 r] w fun e w' => e = .returned (.int .i32 (foldWith (foldL.drop 18) r)) ∧ w = w' := by
  refine calls_rn Tryd.func39 rfl rfl (by decide) rfl (fun a ha => ?_)
  refine seq_set ha (by decide) (by decide) (fun a ha _ => ?_)
  have hF : ∀ q, (foldL.drop 18).find? (fitB r) = some q → (Ending.returned (.int .i32 (r + q.2.2.2)) = .returned (.int .i32 (foldWith (foldL.drop 18) r)) ∧ w = w) := fun q hq => ⟨by rw [foldWith_some hq], rfl⟩
  refine wp_seq (wp_block ((show FChain Tryd.prog _ Tryd.f39.ntmps r (foldL.drop 18) from ?_) _ a w ha (fun q hq a' h' hv => ⟨rfl, rfl, _, hv, h'.defs, hF q hq⟩) (fun hq a' h' => ?_)))
  · simp only [foldL, List.drop]
    repeat'
      first
        | exact fchain_nil
        | refine fchain_cons (chain_fit (chain_range (by decide) (by decide) (by decide))) (fun hf Q a w ha h => ?_) ?_
        | refine fchain_cons (chain_fit (chain_eq (by decide) (by decide) (by decide))) (fun hf Q a w ha h => ?_) ?_
        | refine fchain_cons (chain_second (by decide) (by decide) (by decide) (by decide) (by decide)) (fun hf Q a w ha h => ?_) ?_
        | (dsimp only at h; exact ret_add ha (by decide) (by decide) (by have hf := fit_iff.1 hf; simp only at hf; rw [IntKind.wrap_i32]; omega) h)
        | (dsimp only at h; exact ret_sub ha (by decide) (by decide) (by have hf := fit_iff.1 hf; simp only at hf; rw [IntKind.wrap_i32]; omega) h)
  · show (Code.seq _ _).wp _ _ _ _
    exact ret_self h' (by decide) (by decide) (fun a2 h2 hv => ⟨rfl, rfl, _, hv, h2.defs, by rw [foldWith_none hq], rfl⟩)

theorem fold_any (r : Int) (w : World) : Calls Tryd.prog 20 #[.int .i32 r] w fun e w' => e = .returned (.int .i32 (foldZ r)) ∧ w = w' := by
  by_cases h : r < 1024
  · have HL := Lib.hid (fun w => low_any r w)
    rw [← fold_low r h] at HL
    go_enter Tryd.func20, Tryd.ntmps20
    go_wp2_with (first | (go_at_call 38; (with_reducible refine (HL.out _).mono ?_); rintro e w2 ⟨rfl, rfl⟩))
    go_ret
    exact ⟨rfl, rfl⟩
  · have HH := Lib.hid (fun w => high_any r w)
    rw [← fold_high r (by omega)] at HH
    go_enter Tryd.func20, Tryd.ntmps20
    go_wp2_with (first | (go_at_call 39; (with_reducible refine (HH.out _).mono ?_); rintro e w2 ⟨rfl, rfl⟩))
    go_ret
    exact ⟨rfl, rfl⟩

theorem class_any (r : Int) (w : World) : Calls Tryd.prog 42 #[.int .i32 r] w fun e w' => e = .returned (.int .i64 ((if blankB r = true then 0 else if wordB r = true then 1 else 2 : Nat) : Nat)) ∧ w = w' := by
  have HB := Lib.hid (fun w => blank_any r w)
  have HW := Lib.hid (fun w => word_any r w)
  go_enter Tryd.func42, Tryd.ntmps42
  cases hb : blankB r
  · rw [hb] at HB
    cases hw : wordB r
    · rw [hw] at HW
      go_wp2_with (first | (go_at_call 12; (with_reducible refine (HB.out _).mono ?_); rintro e w2 ⟨rfl, rfl⟩) | (go_at_call 14; (with_reducible refine (HW.out _).mono ?_); rintro e w2 ⟨rfl, rfl⟩))
      go_ret
      exact ⟨rfl, rfl⟩
    · rw [hw] at HW
      go_wp2_with (first | (go_at_call 12; (with_reducible refine (HB.out _).mono ?_); rintro e w2 ⟨rfl, rfl⟩) | (go_at_call 14; (with_reducible refine (HW.out _).mono ?_); rintro e w2 ⟨rfl, rfl⟩))
      go_ret
      exact ⟨rfl, rfl⟩
  · rw [hb] at HB
    go_wp2_with (first | (go_at_call 12; (with_reducible refine (HB.out _).mono ?_); rintro e w2 ⟨rfl, rfl⟩))
    go_ret
    exact ⟨rfl, rfl⟩
end Go.Proofs.YtkknmbkfiiidmaaDoor
