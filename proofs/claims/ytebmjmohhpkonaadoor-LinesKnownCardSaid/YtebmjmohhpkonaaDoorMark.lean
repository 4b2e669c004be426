/-
  The mark of a place of a list of texts: its contract.
-/
import Derived.Test.YtebmjmohhpkonaaDoorTexts
namespace Go.Proofs.YtebmjmohhpkonaaDoor
open Go.RowKit

/-- the mark -/
def tM (i k : Nat) : ByteArray := strOfNums [(i : Int) % 256, (k : Int) % 256, (k : Int) / 256 % 256]
theorem mark_conv (a b c : Int) (W : World) : (convert 65 9 (.slice (some ⟨W.heap.size, 0, none⟩) 3 3)).run Tryd.prog (W.alloc (.cells #[.int .u8 a, .int .u8 b, .int .u8 c] 5)) = .ok (.string (strOfNums [a, b, c])) (W.alloc (.cells #[.int .u8 a, .int .u8 b, .int .u8 c] 5)) := by
  refine run_convert_bytes_arg _ 65 5 Tryd.underlying65 Tryd.underlying5 W.heap.size 0 3 3 [a, b, c] rfl (fun i hi => ?_) 9 Tryd.underlying9
  have := cells_new W [.int .u8 a, .int .u8 b, .int .u8 c] 5 i (.int .u8 ([a, b, c].getD i 0)) (by
    match i, hi with
    | 0, _ => rfl
    | 1, _ => rfl
    | 2, _ => rfl)
  rwa [Addr.add_lit] at this
set_option maxHeartbeats 1000000 in
theorem mark_any (i k : Nat) (hk : k ≤ 140737488355328) (w : World) :
    Calls Tryd.prog 35 #[.int .i64 (i : Nat), .int .i64 (k : Nat)] w fun e w' => e = .returned (.string (tM i k)) ∧ Below w.heap.size w w' := by
  have hq : wrap64 ((k : Int) / 256) = (k : Int) / 256 := by unfold wrap64; omega
  have hcv := mark_conv ((i : Int) % 256) ((k : Int) % 256) ((k : Int) / 256 % 256) w
  go_enter Tryd.func35, Tryd.ntmps35
  go_wp2_with fail
  go_ret
  exact ⟨rfl, al (Below.refl _ _) _⟩
end Go.Proofs.YtebmjmohhpkonaaDoor
