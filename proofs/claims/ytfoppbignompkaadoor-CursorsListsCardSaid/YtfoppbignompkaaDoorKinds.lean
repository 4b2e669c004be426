/-
  The kinds of runes: contracts of the program's Blank, Word, Ends, Width, Fold and of the document's.
-/
import Derived.Test.YtfoppbignompkaaDoorChain
import Derived.Test.YtfoppbignompkaaDoorProg
namespace Go.Proofs.YtfoppbignompkaaDoor
open Go.RowKit

set_option maxHeartbeats 1000000 in
theorem word_any (r : Int) (w : World) : Calls Tryd.prog 87 #[.int .i32 r] w fun e w' => e = .returned (.bool (wordB r)) ∧ w = w' := by
  refine calls_rn Tryd.func87 rfl rfl (by decide) rfl (fun a ha => ?_)
  refine seq_set ha (by decide) (by decide) (fun a ha _ => ?_)
  refine or_fn (B := inR wordL r) (d := 3) ?_ ha (by decide) (fun a' h' hv => ⟨rfl, rfl, _, hv, h'.defs, ?_, rfl⟩)
  · unfold wordL
    repeat (first | refine chain_or (chain_range (by decide) (by decide) (by decide)) ?_ | refine chain_or (chain_eq (by decide) (by decide) (by decide)) ?_)
    first | exact chain_range (by decide) (by decide) (by decide) | exact chain_eq (by decide) (by decide) (by decide)
  · unfold wordB
    cases inR wordL r <;> rfl

theorem blank_iff (r : Int) : blankB r = true ↔ (9 ≤ r ∧ r ≤ 13) ∨ r = 32 ∨ r = 133 ∨ r = 160 ∨ r = 5760 ∨ (8192 ≤ r ∧ r ≤ 8202) ∨ r = 8232 ∨ r = 8233 ∨ r = 8239 ∨ r = 8287 ∨ r = 12288 := by
  unfold blankB
  rw [inR_iff]
  simp only [blankL, List.mem_cons, List.not_mem_nil, or_false]
  constructor
  · rintro ⟨p, hp, h1, h2⟩
    rcases hp with rfl | rfl | rfl | rfl | rfl | rfl | rfl | rfl | rfl | rfl <;> simp only at h1 h2 <;> omega
  · intro h
    rcases h with h | h | h | h | h | h | h | h | h | h | h
    · exact ⟨(0x9, 0xd), by simp, h.1, h.2⟩
    · exact ⟨(0x20, 0x20), by simp, by omega, by omega⟩
    · exact ⟨(0x85, 0x85), by simp, by omega, by omega⟩
    · exact ⟨(0xa0, 0xa0), by simp, by omega, by omega⟩
    · exact ⟨(0x1680, 0x1680), by simp, by omega, by omega⟩
    · exact ⟨(0x2000, 0x200a), by simp, by omega, by omega⟩
    · exact ⟨(0x2028, 0x2029), by simp, by simp only; omega, by simp only; omega⟩
    · exact ⟨(0x2028, 0x2029), by simp, by simp only; omega, by simp only; omega⟩
    · exact ⟨(0x202f, 0x202f), by simp, by omega, by omega⟩
    · exact ⟨(0x205f, 0x205f), by simp, by omega, by omega⟩
    · exact ⟨(0x3000, 0x3000), by simp, by omega, by omega⟩
theorem blank_not {r : Int} (h : ¬ ((9 ≤ r ∧ r ≤ 13) ∨ r = 32 ∨ r = 133 ∨ r = 160 ∨ r = 5760 ∨ (8192 ≤ r ∧ r ≤ 8202) ∨ r = 8232 ∨ r = 8233 ∨ r = 8239 ∨ r = 8287 ∨ r = 12288)) : blankB r = false := by
  cases hb : blankB r with
  | false => rfl
  | true => exact absurd ((blank_iff r).1 hb) h

set_option maxHeartbeats 1000000 in
theorem blank_any (r : Int) (w : World) : Calls Tryd.prog 86 #[.int .i32 r] w fun e w' => e = .returned (.bool (blankB r)) ∧ w = w' := by
  go_enter Tryd.func86, Tryd.ntmps86
  go_wp2
  all_goals go_ret
  all_goals refine ⟨ret_bool ?_, rfl⟩
  all_goals (rw [Bool.eq_iff_iff, blank_iff]; simp only [beq_iff_eq, beq_eq_false_iff_ne, Bool.or_eq_true, decide_eq_true_eq, ne_eq, Bool.false_eq_true, true_iff, false_iff, eq_self] at *; omega)

theorem ends_iff (r : Int) : endsB r = true ↔ r = 10 ∨ r = 13 ∨ r = 133 ∨ r = 8232 ∨ r = 8233 := by
  unfold endsB
  rw [inR_iff]
  simp only [List.mem_cons, List.not_mem_nil, or_false]
  constructor
  · rintro ⟨p, hp, h1, h2⟩
    rcases hp with rfl | rfl | rfl | rfl <;> simp only at h1 h2 <;> omega
  · intro h
    rcases h with h | h | h | h | h
    · exact ⟨(0xa, 0xa), by simp, by omega, by omega⟩
    · exact ⟨(0xd, 0xd), by simp, by omega, by omega⟩
    · exact ⟨(0x85, 0x85), by simp, by omega, by omega⟩
    · exact ⟨(0x2028, 0x2029), by simp, by simp only; omega, by simp only; omega⟩
    · exact ⟨(0x2028, 0x2029), by simp, by simp only; omega, by simp only; omega⟩
theorem chain_fit {P : Program} {n : Nat} {r : Int} {d : Nat} {x : Code} {lo hi c : Int} (h : Chain P x n d r (inR [(lo, hi)] r)) : Chain P x n d r (fitB r (lo, hi, 1, c)) := by rw [fit_one]; exact h

def foldWith (L : List (Int × Int × Int × Int)) (r : Int) : Int := match L.find? (fitB r) with | some q => r + q.2.2.2 | none => r
theorem foldWith_some {L : List (Int × Int × Int × Int)} {r : Int} {q : Int × Int × Int × Int} (h : L.find? (fitB r) = some q) : foldWith L r = r + q.2.2.2 := by unfold foldWith; rw [h]
theorem foldWith_none {L : List (Int × Int × Int × Int)} {r : Int} (h : L.find? (fitB r) = none) : foldWith L r = r := by unfold foldWith; rw [h]
theorem fold_low (r : Int) (h : r < 1024) : foldZ r = foldWith (foldL.take 18) r := by
  show foldWith foldL r = _
  have h2 : (foldL.drop 18).find? (fitB r) = none := by
    rw [List.find?_eq_none]
    intro q hq
    have : ∀ q ∈ foldL.drop 18, 1024 ≤ q.1 := by decide +kernel
    have := this q hq
    simp [fitB]
    omega
  have h3 : (foldL.take 18 ++ foldL.drop 18).find? (fitB r) = (foldL.take 18).find? (fitB r) := by rw [List.find?_append, h2, Option.or_none]
  rw [List.take_append_drop] at h3
  unfold foldWith
  rw [h3]
theorem fold_high (r : Int) (h : 1024 ≤ r) : foldZ r = foldWith (foldL.drop 18) r := by
  show foldWith foldL r = _
  have h2 : (foldL.take 18).find? (fitB r) = none := by
    rw [List.find?_eq_none]
    intro q hq
    have : ∀ q ∈ foldL.take 18, q.2.1 < 1024 := by decide +kernel
    have := this q hq
    simp [fitB]
    omega
  have h3 : (foldL.take 18 ++ foldL.drop 18).find? (fitB r) = (foldL.drop 18).find? (fitB r) := by rw [List.find?_append, h2, Option.none_or]
  rw [List.take_append_drop] at h3
  unfold foldWith
  rw [h3]

theorem class_any (r : Int) (w : World) : Calls Tryd.prog 53 #[.int .i32 r] w fun e w' => e = .returned (.int .i64 ((if blankB r = true then 0 else if wordB r = true then 1 else 2 : Nat) : Nat)) ∧ w = w' := by
  have HB := Lib.hid (fun w => blank_any r w)
  have HW := Lib.hid (fun w => word_any r w)
  go_enter Tryd.func53, Tryd.ntmps53
  cases hb : blankB r
  · rw [hb] at HB
    cases hw : wordB r
    · rw [hw] at HW
      go_wp2_with (first | (go_at_call 86; (with_reducible refine (HB.out _).mono ?_); rintro e w2 ⟨rfl, rfl⟩) | (go_at_call 87; (with_reducible refine (HW.out _).mono ?_); rintro e w2 ⟨rfl, rfl⟩))
      go_ret
      exact ⟨rfl, rfl⟩
    · rw [hw] at HW
      go_wp2_with (first | (go_at_call 86; (with_reducible refine (HB.out _).mono ?_); rintro e w2 ⟨rfl, rfl⟩) | (go_at_call 87; (with_reducible refine (HW.out _).mono ?_); rintro e w2 ⟨rfl, rfl⟩))
      go_ret
      exact ⟨rfl, rfl⟩
  · rw [hb] at HB
    go_wp2_with (first | (go_at_call 86; (with_reducible refine (HB.out _).mono ?_); rintro e w2 ⟨rfl, rfl⟩))
    go_ret
    exact ⟨rfl, rfl⟩
end Go.Proofs.YtfoppbignompkaaDoor
