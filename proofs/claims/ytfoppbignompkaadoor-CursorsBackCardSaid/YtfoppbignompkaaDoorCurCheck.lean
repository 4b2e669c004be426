/-
  Check's contract; and the document's Wrong and Check.
-/
import Derived.Test.YtfoppbignompkaaDoorCurB
namespace Go.Proofs.YtfoppbignompkaaDoor
open Go.RowKit

/-- does a cursor leave a text of so many bytes? -/
def farC (B : Int) (c : Cu) : Bool := decide (B < c.2.1 ∨ B < c.2.2.1)
/-- what Check answers -/
def checkN (zs : List Cu) (B : Int) : Int := if B < 0 then 2 else if wrongN zs ≠ 0 then wrongN zs else if zs.any (farC B) then 200 else 0
set_option maxRecDepth 10000 in
set_option maxHeartbeats 4000000 in
theorem check_any (ao : Option Addr) (cap : Nat) (zs : List Cu) (n : Nat) (hl : zs.length = n) (hn : n ≤ 140737488351232) (B : Int) (w : World) (hR : ReadsC w ao zs) :
    Calls Tryd.prog 28 #[.slice ao n cap, .int .i64 B] w fun e w' => e = .returned (.int .i64 (checkN zs B)) ∧ Below w.heap.size w w' := by
  have HW := Lib.hid (fun w hR => cwrong_any ao cap zs n hl hn w hR)
  have HR := Lib.hid hR
  have HL := Lib.hid hl
  clear hR hl
  by_cases hB : B < 0
  · have HC := Lib.hid (show checkN zs B = 2 from if_pos hB)
    go_enter Tryd.func28, Tryd.ntmps28
    go_wp2_with fail
    go_ret
    exact ⟨by rw [HC.out]; rfl, Below.refl _ _⟩
  · have hBd : decide (B < 0) = false := decide_eq_false hB
    have HC0 := Lib.hid (show checkN zs B = if wrongN zs ≠ 0 then wrongN zs else if zs.any (farC B) then 200 else 0 from if_neg hB)
    obtain ⟨er, her⟩ : ∃ er, wrongN zs = er := ⟨_, rfl⟩
    rw [her] at HW HC0
    by_cases hz : er = 0
    · subst hz
      have HC := Lib.hid (show checkN zs B = if zs.any (farC B) then 200 else 0 by rw [HC0.out, if_neg (by simp)])
      have hn8 := (wrongN_zero her).1
      rw [HL.out] at hn8
      clear HC0 her hB
      go_enter Tryd.func28, Tryd.ntmps28
      go_wp2_with (go_at_call 40; (with_reducible refine (HW.out _ HR.out).mono ?_); rintro e w1 ⟨rfl, hb1⟩)
      go_loopw [17] (fun i wr => ∃ k : Nat, i = .int .i64 (k : Nat) ∧ k ≤ n ∧ Hid (∀ j, j < k → farC B (zs[j]?.getD cuZ) = false) ∧ Below w.heap.size w wr) (fun i _ => n - (intOf i).toNat)
      case atStart => exact ⟨0, rfl, Nat.zero_le _, Lib.hid (fun j hj => by omega), hb1⟩
      case round =>
        clear hb1
        obtain ⟨k, rfl, hk, hok, hb⟩ := hrel
        by_cases hlt : k < n
        · have hki : (k : Int) < (n : Int) := by omega
          have hk0 : (0 : Int) ≤ (k : Int) := by omega
          have hkz : k < zs.length := by rw [HL.out]; exact hlt
          rcases HR.out with h0 | ⟨b, off, rfl, hcs⟩
          · rw [h0] at hkz; simp at hkz
          obtain ⟨x0, x1, x2, x3⟩ := hcs k hkz
          have x0 := cellKeep x0 hb
          have x1 := cellKeep x1 hb
          have x2 := cellKeep x2 hb
          have x3 := cellKeep x3 hb
          have HZK := Lib.hid hkz
          obtain ⟨c, hc⟩ : ∃ c, zs[k]?.getD cuZ = c := ⟨_, rfl⟩
          rw [hc] at x0 x1 x2 x3
          have HCC := Lib.hid hc
          obtain ⟨i, a, d, g⟩ := c
          simp only at x0 x1 x2 x3
          clear hcs hc hkz
          by_cases hf : B < a ∨ B < d
          · have HC2 := Lib.hid (show checkN zs B = 200 by
              rw [HC.out, if_pos]
              rw [List.any_eq_true]
              refine ⟨_, List.getElem_mem HZK.out, ?_⟩
              have := HCC.out
              rw [List.getElem?_eq_getElem HZK.out] at this
              rw [show zs[k] = (i, a, d, g) from this]
              exact decide_eq_true hf)
            have hmx : decide (B < max a d) = true := decide_eq_true (by omega)
            obtain ⟨mx, hmxe⟩ : ∃ mx, max a d = mx := ⟨_, rfl⟩
            rw [hmxe] at hmx
            clear hf
            go_wp2_with fail
            go_ret
            exact ⟨by rw [HC2.out]; rfl, al hb _⟩
          · have HF := Lib.hid (show farC B (zs[k]?.getD cuZ) = false by rw [HCC.out]; exact decide_eq_false hf)
            have hmx : decide (B < max a d) = false := decide_eq_false (by omega)
            obtain ⟨mx, hmxe⟩ : ∃ mx, max a d = mx := ⟨_, rfl⟩
            rw [hmxe] at hmx
            clear hf
            go_wp2_with fail
            exact ⟨⟨k + 1, by go_num, hlt, Lib.hid (fun j hj => by rcases Nat.lt_succ_iff_lt_or_eq.1 hj with h | rfl; exact hok.out j h; exact HF.out), al hb _⟩, by simp [intOf]; omega⟩
        · obtain rfl : k = n := by omega
          have HC2 := Lib.hid (show checkN zs B = 0 by
            rw [HC.out, if_neg]
            rw [List.any_eq_true]
            rintro ⟨c, hc, h2⟩
            obtain ⟨j, hj, rfl⟩ := List.getElem_of_mem hc
            have := hok.out j (by rw [← HL.out]; exact hj)
            rw [List.getElem?_eq_getElem hj] at this
            rw [show farC B zs[j] = false from this] at h2
            cases h2)
          have hkd : decide (k < k) = false := decide_eq_false (by omega)
          go_wp2_with fail
          go_ret
          exact ⟨by rw [HC2.out]; rfl, hb⟩
    · have HC := Lib.hid (show checkN zs B = er by rw [HC0.out, if_pos hz])
      have hne : (er != 0) = true := bne_iff_ne.2 hz
      clear hz her HC0 hB
      go_enter Tryd.func28, Tryd.ntmps28
      go_wp2_with (go_at_call 40; (with_reducible refine (HW.out _ HR.out).mono ?_); rintro e w1 ⟨rfl, hb1⟩)
      go_ret
      exact ⟨by rw [HC.out]; rfl, hb1⟩
end Go.Proofs.YtfoppbignompkaaDoor
