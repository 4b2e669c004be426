/-
  The walk of the statement ViewKnown.
-/
import Derived.Test.YticonolnagcakaaDoorVwTexts
import Derived.Test.YticonolnagcakaaDoorVwPlaces
import Derived.Test.YticonolnagcakaaDoorVwBack
import Derived.Test.YticonolnagcakaaDoorVwWhole
namespace Go.Proofs.YticonolnagcakaaDoor
open Go.RowKit

def knownS : List Value := [.string ⟨#[]⟩, .string ⟨#[97, 98, 99, 100, 101]⟩, .string ⟨#[97, 228, 184, 150, 98]⟩, .string ⟨#[228, 184, 150, 97]⟩, .string ⟨#[97, 98, 9, 9, 99]⟩, .string ⟨#[101, 204, 129, 120]⟩, .string ⟨#[97, 255, 1, 98]⟩, .string ⟨#[204, 129, 204, 129, 97]⟩, .string ⟨#[9]⟩, .string ⟨#[228, 184, 150, 204, 129, 228, 184, 150]⟩, .string ⟨#[194, 133, 226, 128, 168, 127, 0]⟩, .string ⟨#[239, 191, 189, 226, 128]⟩, .string ⟨#[97, 13, 10, 98]⟩]
def knownV : List Value := [.int .i64 2, .int .i64 8, .int .i64 1, .int .i64 1, .int .i64 5, .int .i64 8, .int .i64 4, .int .i64 4, .int .i64 9, .int .i64 8, .int .i64 1024, .int .i64 16, .int .i64 3, .int .i64 2, .int .i64 0, .int .i64 8, .int .i64 1025, .int .i64 8, .int .i64 1, .int .i64 17, .int .i64 1, .int .i64 0, .int .i64 (-1), .int .i64 (-1), .int .i64 9223372036854775807, .int .i64 9223372036854775807]
theorem knownS_get (i : Nat) (h : i < 13) : ∃ st : ByteArray, knownS[i]? = some (.string st) ∧ st.size ≤ 100 := match i, h with
  | 0, _ => ⟨_, rfl, by decide⟩
  | 1, _ => ⟨_, rfl, by decide⟩
  | 2, _ => ⟨_, rfl, by decide⟩
  | 3, _ => ⟨_, rfl, by decide⟩
  | 4, _ => ⟨_, rfl, by decide⟩
  | 5, _ => ⟨_, rfl, by decide⟩
  | 6, _ => ⟨_, rfl, by decide⟩
  | 7, _ => ⟨_, rfl, by decide⟩
  | 8, _ => ⟨_, rfl, by decide⟩
  | 9, _ => ⟨_, rfl, by decide⟩
  | 10, _ => ⟨_, rfl, by decide⟩
  | 11, _ => ⟨_, rfl, by decide⟩
  | 12, _ => ⟨_, rfl, by decide⟩
  | n + 13, h => absurd h (by omega)
theorem knownV_get (i : Nat) (h : i < 13) : ∃ a b : Int, knownV[i * 2]? = some (.int .i64 a) ∧ knownV[i * 2 + 1]? = some (.int .i64 b) := match i, h with
  | 0, _ => ⟨_, _, rfl, rfl⟩
  | 1, _ => ⟨_, _, rfl, rfl⟩
  | 2, _ => ⟨_, _, rfl, rfl⟩
  | 3, _ => ⟨_, _, rfl, rfl⟩
  | 4, _ => ⟨_, _, rfl, rfl⟩
  | 5, _ => ⟨_, _, rfl, rfl⟩
  | 6, _ => ⟨_, _, rfl, rfl⟩
  | 7, _ => ⟨_, _, rfl, rfl⟩
  | 8, _ => ⟨_, _, rfl, rfl⟩
  | 9, _ => ⟨_, _, rfl, rfl⟩
  | 10, _ => ⟨_, _, rfl, rfl⟩
  | 11, _ => ⟨_, _, rfl, rfl⟩
  | 12, _ => ⟨_, _, rfl, rfl⟩
  | n + 13, h => absurd h (by omega)

set_option maxRecDepth 100000 in
set_option maxHeartbeats 8000000 in
theorem viewKnown_of (hL : ∀ W T s, s.size ≤ 1048576 → ToldLaw W T s) (w : World) (hT : Tabs w) :
    Calls Tryd.prog 8 #[] w fun e w' => e = .returned (.bool true) ∧ Below w.heap.size w w' := by
  have HT := Lib.hid hT
  clear hT
  have HW := Lib.hid (fun w hT => vworks_any w hT)
  have HLT := Lib.hid hL
  clear hL
  go_enter Tryd.func8, Tryd.ntmps8
  go_upto_region 3 with fail
  go_name_world X hX
  obtain ⟨hA, hB, hbX, -⟩ := two_boxes (xs := knownS) (ys := knownV) (t := 9) (u := 23) hX
  clear hX
  go_wp2_with fail
  go_loopw [3] (fun i wr => ∃ k : Nat, i = .int .i64 (k : Nat) ∧ k ≤ 13 ∧ Below X.heap.size X wr) (fun i _ => 13 - (intOf i).toNat)
  case atStart => exact ⟨0, rfl, Nat.zero_le _, Below.refl _ _⟩
  case round =>
    obtain ⟨i, rfl, hi, hb⟩ := hrel
    by_cases hlt : i < 13
    · have hii : (i : Int) < 13 := by omega
      obtain ⟨st, hs1, hs2⟩ := knownS_get i hlt
      go_wp2_with fail
      go_loopw [4] (fun j wr => ∃ k : Nat, j = .int .i64 (k : Nat) ∧ k ≤ 13 ∧ Below X.heap.size X wr) (fun j _ => 13 - (intOf j).toNat)
      case atStart => exact ⟨0, rfl, Nat.zero_le _, hb⟩
      case round =>
        clear hb
        obtain ⟨k, rfl, hk, hb⟩ := hrel
        by_cases hlk : k < 13
        · have hkk : (k : Int) < 13 := by omega
          obtain ⟨a, b, hv1, hv2⟩ := knownV_get k hlk
          have d0 := (hA.below hb).cell i hs1
          have d1 := (hB.below hb).cell (k * 2) hv1
          have d2 := (hB.below hb).cell (k * 2 + 1) hv2
          have hbw := nx hbX hb
          have hst1 : st.size + 1 ≤ 9223372036854775807 := by omega
          have hst2 : st.size + 1 + st.size ≤ 9223372036854775807 := by omega
          have tb : ∀ p' : Later wr, Tabs p'.W := fun p' => HT.out.below (nx hbw p'.hb) (Nat.le_refl _)
          have cR : ∀ p' : Later wr, Calls Tryd.prog 3 #[.string st, .agg #[.int .i64 a, .int .i64 b]] p'.W fun e w'' => e = .returned (.bool true) ∧ ∃ q : Later wr, w'' = q.W := fun p' => Calls.later_of (viewRows_any st (by omega) a b _ (tb p'))
          have cP : ∀ p' : Later wr, Calls Tryd.prog 4 #[.string st, .agg #[.int .i64 a, .int .i64 b, .int .i64 9223372036854775807, .int .i64 1, .int .i64 9223372036854775798]] p'.W fun e w'' => e = .returned (.bool true) ∧ ∃ q : Later wr, w'' = q.W := fun p' => Calls.later_of (viewPlaces_any st (by omega) a b _ _ _ _ (tb p'))
          have cT : ∀ p' : Later wr, Calls Tryd.prog 7 #[.string (st ++ ⟨#[10]⟩ ++ st), .agg #[.int .i64 a, .int .i64 b], .int .u8 1] p'.W fun e w'' => e = .returned (.bool true) ∧ ∃ q : Later wr, w'' = q.W := fun p' => by
            have hz : (st ++ ⟨#[10]⟩ ++ st).size ≤ 1048576 := by
              rw [ByteArray.size_append, ByteArray.size_append]
              show st.size + 1 + st.size ≤ _
              omega
            exact Calls.later_of (viewTexts_of _ hz a b 1 (by omega) (HLT.out a b _ hz) _ (tb p'))
          have cW : ∀ p' : Later wr, Calls Tryd.prog 6 #[.string st, .agg #[.int .i64 a, .int .i64 b]] p'.W fun e w'' => e = .returned (.bool true) ∧ ∃ q : Later wr, w'' = q.W := fun p' => Calls.later_of (viewWhole_any st (by omega) a b _ (tb p'))
          have cB : ∀ p' : Later wr, Calls Tryd.prog 5 #[.string st, .agg #[.int .i64 a, .int .i64 b]] p'.W fun e w'' => e = .returned (.bool true) ∧ ∃ q : Later wr, w'' = q.W := fun p' => Calls.later_of (viewBack_any st (by omega) a b _ (tb p'))
          have x0 := Later.cell d0
          have x1 := Later.cell d1
          have x2 := Later.cell d2
          clear d0 d1 d2 hs1 hv1 hv2 tb
          go_wp2_with fail
          simp only [List.append_eq, List.cons_append, List.nil_append]
          refine wp_region_later (by kernel_rfl) (by kernel_rfl) ?_
          repeat (go_big_quiet_step (first | with_reducible exact cR _ | with_reducible exact cP _ | with_reducible exact cT _ | with_reducible exact cW _ | with_reducible exact cB _))
          refine wpQuiet_nil ?_
          intro _ hw'
          obtain ⟨pq, hw''⟩ := hw'
          subst hw''
          have hbp := nx hb pq.hb
          go_wp2_with fail
          go_roundw
          case rel => exact ⟨k + 1, by go_num, hlk, hbp⟩
          case measure => simp [intOf]; omega
        · obtain rfl : k = 13 := by omega
          go_wp2_with fail
          go_roundw
          case rel => exact ⟨i + 1, by go_num, hlt, hb⟩
          case measure => simp [intOf]; omega
    · obtain rfl : i = 13 := by omega
      have hbw := nx hbX hb
      go_wp2_with (first | (go_at_call 16; (with_reducible refine (HW.out _ (HT.out.below hbw (Nat.le_refl _))).mono ?_); rintro e wg ⟨rfl, hbg⟩))
      go_ret
      exact ⟨rfl, nx hbw hbg⟩
end Go.Proofs.YticonolnagcakaaDoor

namespace Go.Proofs.YticonolnagcakaaDoor
open Go.RowKit

theorem viewKnown_any (w : World) (hT : Tabs w) :
    Calls Tryd.prog 8 #[] w fun e w' => e = .returned (.bool true) ∧ Below w.heap.size w w' :=
  viewKnown_of (fun W T s hs => vtold_any W T s hs) w hT
end Go.Proofs.YticonolnagcakaaDoor
