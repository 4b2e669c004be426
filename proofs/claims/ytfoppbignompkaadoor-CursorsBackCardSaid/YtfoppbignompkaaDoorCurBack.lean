/-
  The walk of CursorsBack: there and back.
-/
import Derived.Test.YtfoppbignompkaaDoorCurUnpack
import Derived.Test.YtfoppbignompkaaDoorCurSame
namespace Go.Proofs.YtfoppbignompkaaDoor
open Go.RowKit

theorem bs_one {a b : ByteArray} (h : bs a = bs b) : a = b := by
  cases a with
  | mk x => cases b with
    | mk y => exact congrArg ByteArray.mk (Array.toList_inj.1 h)
theorem zB_str (l : List Int) (h : Bytes l) : zB (strOfNums l) = l := by
  unfold zB
  rw [show bs (strOfNums l) = l.map fun n => UInt8.ofNat n.toNat from strOfNums_data l, List.map_map]
  conv => rhs; rw [← List.map_id l]
  apply List.map_congr_left
  intro x hx
  obtain ⟨h1, h2⟩ := h x hx
  simp only [Function.comp, UInt8.toNat_ofNat', id]
  omega
theorem str_zB (s : ByteArray) : strOfNums (zB s) = s := by
  refine bs_one ?_
  rw [show bs (strOfNums (zB s)) = (zB s).map fun n => UInt8.ofNat n.toNat from strOfNums_data _]
  unfold zB
  rw [List.map_map]
  conv => rhs; rw [← List.map_id (bs s)]
  apply List.map_congr_left
  intro x _
  simp
theorem check_max (zs : List Cu) (hz : IntsC zs) : checkN zs 9223372036854775807 = wrongN zs := by
  unfold checkN
  rw [if_neg (by decide)]
  by_cases h : wrongN zs ≠ 0
  · rw [if_pos h]
  · rw [if_neg h, if_neg]
    · omega
    · rw [List.any_eq_true]
      rintro ⟨c, hc, h2⟩
      obtain ⟨k, hk, rfl⟩ := List.getElem_of_mem hc
      have h3 := hz k hk
      rw [List.getElem?_eq_getElem hk] at h3
      simp only [Option.getD_some] at h3
      have := of_decide_eq_true h2
      omega
theorem unpackV_err (l : List Int) (h : (unpackV l).1 ≠ 0) : (unpackV l).2 = [] := by
  unfold unpackV at h ⊢
  split
  · rfl
  · split
    · rfl
    · split
      · rfl
      · split
        · rfl
        · rename_i h1 h2 h3 h4
          rw [if_neg h1, if_neg h2, if_neg h3, if_neg h4] at h
          exact absurd rfl h

set_option maxRecDepth 100000 in
set_option maxHeartbeats 8000000 in
theorem cursorsBack_any (ao : Option Addr) (n cap : Nat) (zs : List Cu) (hl : zs.length = n) (hn : n ≤ 4398046510976) (hz : IntsC zs) (hz2 : WordsC zs) (s : ByteArray) (hs : s.size ≤ 140737488351232) (w : World) (hT : Tabs w) (hR : ReadsC w ao zs) :
    Calls Tryd.prog 11 #[.slice ao n cap, .string s] w fun e w' => e = .returned (.bool true) ∧ Below w.heap.size w w' := by
  have HT := Lib.hid hT
  have HAW := Lib.hid (fun w hT => cawake_any w hT)
  have HR := Lib.hid hR
  have HC1 := Lib.hid (fun w hR => check_any ao cap zs n hl (by omega) 9223372036854775807 w hR)
  rw [check_max zs hz] at HC1
  obtain ⟨⟨er2, L⟩, hV⟩ : ∃ p, unpackV (zB s) = p := ⟨_, rfl⟩
  have HUN := Lib.hid (fun w => unpack_any s hs w)
  rw [hV] at HUN
  clear hT hR
  by_cases h0 : wrongN zs = 0
  · have HP1 := Lib.hid (fun w hR => pack_ok ao cap zs n hl h0 hz hz2 w hR)
    have hTz := zB_str (packZ zs) (bytes_pack zs)
    have hTs : (strOfNums (packZ zs)).size = 32 * n := by rw [strOfNums_size, packZ_len, hl]
    obtain ⟨T, hTT⟩ : ∃ T, strOfNums (packZ zs) = T := ⟨_, rfl⟩
    rw [hTT] at HP1 hTz hTs
    have hn8 := (wrongN_zero h0).1
    rw [hl] at hn8
    have HU1 := Lib.hid (fun w => unpack_any T (by omega) w)
    rw [hTz, unp_pack zs h0 hz hz2, show ((0 : Int), zs).2.length = n from hl] at HU1
    have HS1 := Lib.hid (fun a c w hA hB => same_any a ao n c cap zs hl (by omega) w hA hB)
    rw [h0] at HC1
    have hTi : (T.size : Int) = 32 * (n : Int) := by omega
    clear hTz hTs hTT h0 hl hz hz2
    by_cases h2 : er2 = 0
    case pos =>
      subst h2
      obtain ⟨k1, k2, k3, k4⟩ := pack_unpack (zB s) (zB_bytes s) L hV
      obtain ⟨m, hm⟩ : ∃ m, L.length = m := ⟨_, rfl⟩
      have hm8 : m ≤ 8 := by rw [← hm]; exact (wrongN_zero k2).1
      have HPK := Lib.hid (fun a c w hR => pack_ok a c L m hm k2 k3 k4 w hR)
      have HCK := Lib.hid (fun a c w hR => check_any a c L m hm (by omega) 9223372036854775807 w hR)
      rw [k1, str_zB] at HPK
      rw [check_max L k3, k2] at HCK
      rw [show ((0 : Int), L).2.length = m from hm] at HUN
      have HM := Lib.hid hm
      clear hV k1 k2 k3 k4 hm
      go_enter Tryd.func11, Tryd.ntmps11
      go_wp2_with (first
        | (go_at_call 19; (with_reducible refine (HAW.out _ HT.out).mono ?_); rintro e w1 ⟨rfl, hb1⟩; have R1 := Lib.hid (HR.out.below hb1))
        | (go_at_call 31; (with_reducible refine (HP1.out _ R1.out).mono ?_); rintro e w2 ⟨rfl, hb2⟩; have R2 := Lib.hid (R1.out.below hb2); have hB2 := nx hb1 hb2)
        | (go_at_call 28; (with_reducible refine (HC1.out _ R2.out).mono ?_); rintro e w3 ⟨rfl, hb3⟩; have R3 := Lib.hid (R2.out.below hb3); have hB3 := nx hB2 hb3)
        | (go_at_call 33; (with_reducible refine (HU1.out _).mono ?_); rintro e w4 ⟨v4, rfl, ho4, hb4⟩; obtain ⟨a4, c4, rfl⟩ := (HRow.of_own ho4).form; have R4 := Lib.hid (R3.out.below hb4); have hB4 := nx hB3 hb4; have S4 := Lib.hid (show ReadsC w4 a4 zs by obtain ⟨a9, c9, e9, -, h9⟩ := ReadsC.owned ho4; injection e9 with e1 e2 e3; rw [e1]; exact h9); clear ho4)
        | (go_at_call 16; (with_reducible refine (HS1.out _ _ _ S4.out R4.out).mono ?_); rintro e w5 ⟨rfl, hb5⟩; have hbW := nx hB4 hb5)
        | (go_at_call 33; (with_reducible refine (HUN.out _).mono ?_); rintro e w6 ⟨v6, rfl, ho6, hb6⟩; obtain ⟨a6, c6, rfl, -, hr6⟩ := ReadsC.owned ho6; rw [HM.out]; have R6 := Lib.hid hr6; have hbX := nx hbW hb6; clear ho6 hr6)
        | (go_at_call 31; (with_reducible refine (HPK.out _ _ _ R6.out).mono ?_); rintro e w7 ⟨rfl, hb7⟩; have R7 := Lib.hid (R6.out.below hb7); have hbY := nx hbX hb7)
        | (go_at_call 28; (with_reducible refine (HCK.out _ _ _ R7.out).mono ?_); rintro e w8 ⟨rfl, hb8⟩; have hbZ := nx hbY hb8))
      go_ret
      exact ⟨rfl, hbZ⟩
    case neg =>
      have hL := unpackV_err (zB s) (by rw [hV]; exact h2)
      rw [hV] at hL
      have hL : L = [] := hL
      subst hL
      have hne2 : (er2 != 0) = true := bne_iff_ne.2 h2
      clear hV h2
      go_enter Tryd.func11, Tryd.ntmps11
      go_wp2_with (first
        | (go_at_call 19; (with_reducible refine (HAW.out _ HT.out).mono ?_); rintro e w1 ⟨rfl, hb1⟩; have R1 := Lib.hid (HR.out.below hb1))
        | (go_at_call 31; (with_reducible refine (HP1.out _ R1.out).mono ?_); rintro e w2 ⟨rfl, hb2⟩; have R2 := Lib.hid (R1.out.below hb2); have hB2 := nx hb1 hb2)
        | (go_at_call 28; (with_reducible refine (HC1.out _ R2.out).mono ?_); rintro e w3 ⟨rfl, hb3⟩; have R3 := Lib.hid (R2.out.below hb3); have hB3 := nx hB2 hb3)
        | (go_at_call 33; (with_reducible refine (HU1.out _).mono ?_); rintro e w4 ⟨v4, rfl, ho4, hb4⟩; obtain ⟨a4, c4, rfl⟩ := (HRow.of_own ho4).form; have R4 := Lib.hid (R3.out.below hb4); have hB4 := nx hB3 hb4; have S4 := Lib.hid (show ReadsC w4 a4 zs by obtain ⟨a9, c9, e9, -, h9⟩ := ReadsC.owned ho4; injection e9 with e1 e2 e3; rw [e1]; exact h9); clear ho4)
        | (go_at_call 16; (with_reducible refine (HS1.out _ _ _ S4.out R4.out).mono ?_); rintro e w5 ⟨rfl, hb5⟩; have hbW := nx hB4 hb5)
        | (go_at_call 33; (with_reducible refine (HUN.out _).mono ?_); rintro e w6 ⟨v6, rfl, ho6, hb6⟩; obtain ⟨a6, c6, rfl⟩ := (HRow.of_own ho6).form; have hbX := nx hbW hb6; clear ho6))
      go_ret
      exact ⟨rfl, hbX⟩
  · have HP1 := Lib.hid (fun w hR => pack_bad ao cap zs n hl (by omega) _ rfl h0 w hR)
    obtain ⟨er, her⟩ : ∃ er, wrongN zs = er := ⟨_, rfl⟩
    rw [her] at HP1 HC1 h0
    have hne : (er == 0) = false := beq_eq_false_iff_ne.2 h0
    clear her h0 hl hz hz2
    by_cases h2 : er2 = 0
    case pos =>
      subst h2
      obtain ⟨k1, k2, k3, k4⟩ := pack_unpack (zB s) (zB_bytes s) L hV
      obtain ⟨m, hm⟩ : ∃ m, L.length = m := ⟨_, rfl⟩
      have hm8 : m ≤ 8 := by rw [← hm]; exact (wrongN_zero k2).1
      have HPK := Lib.hid (fun a c w hR => pack_ok a c L m hm k2 k3 k4 w hR)
      have HCK := Lib.hid (fun a c w hR => check_any a c L m hm (by omega) 9223372036854775807 w hR)
      rw [k1, str_zB] at HPK
      rw [check_max L k3, k2] at HCK
      rw [show ((0 : Int), L).2.length = m from hm] at HUN
      have HM := Lib.hid hm
      clear hV k1 k2 k3 k4 hm
      go_enter Tryd.func11, Tryd.ntmps11
      go_wp2_with (first
        | (go_at_call 19; (with_reducible refine (HAW.out _ HT.out).mono ?_); rintro e w1 ⟨rfl, hb1⟩; have R1 := Lib.hid (HR.out.below hb1))
        | (go_at_call 31; (with_reducible refine (HP1.out _ R1.out).mono ?_); rintro e w2 ⟨rfl, hb2⟩; have R2 := Lib.hid (R1.out.below hb2); have hB2 := nx hb1 hb2)
        | (go_at_call 28; (with_reducible refine (HC1.out _ R2.out).mono ?_); rintro e w3 ⟨rfl, hb3⟩; have hbW := nx hB2 hb3)
        | (go_at_call 33; (with_reducible refine (HUN.out _).mono ?_); rintro e w6 ⟨v6, rfl, ho6, hb6⟩; obtain ⟨a6, c6, rfl, -, hr6⟩ := ReadsC.owned ho6; rw [HM.out]; have R6 := Lib.hid hr6; have hbX := nx hbW hb6; clear ho6 hr6)
        | (go_at_call 31; (with_reducible refine (HPK.out _ _ _ R6.out).mono ?_); rintro e w7 ⟨rfl, hb7⟩; have R7 := Lib.hid (R6.out.below hb7); have hbY := nx hbX hb7)
        | (go_at_call 28; (with_reducible refine (HCK.out _ _ _ R7.out).mono ?_); rintro e w8 ⟨rfl, hb8⟩; have hbZ := nx hbY hb8))
      go_ret
      exact ⟨rfl, hbZ⟩
    case neg =>
      have hL := unpackV_err (zB s) (by rw [hV]; exact h2)
      rw [hV] at hL
      have hL : L = [] := hL
      subst hL
      have hne2 : (er2 != 0) = true := bne_iff_ne.2 h2
      clear hV h2
      go_enter Tryd.func11, Tryd.ntmps11
      go_wp2_with (first
        | (go_at_call 19; (with_reducible refine (HAW.out _ HT.out).mono ?_); rintro e w1 ⟨rfl, hb1⟩; have R1 := Lib.hid (HR.out.below hb1))
        | (go_at_call 31; (with_reducible refine (HP1.out _ R1.out).mono ?_); rintro e w2 ⟨rfl, hb2⟩; have R2 := Lib.hid (R1.out.below hb2); have hB2 := nx hb1 hb2)
        | (go_at_call 28; (with_reducible refine (HC1.out _ R2.out).mono ?_); rintro e w3 ⟨rfl, hb3⟩; have hbW := nx hB2 hb3)
        | (go_at_call 33; (with_reducible refine (HUN.out _).mono ?_); rintro e w6 ⟨v6, rfl, ho6, hb6⟩; obtain ⟨a6, c6, rfl⟩ := (HRow.of_own ho6).form; have hbX := nx hbW hb6; clear ho6))
      go_ret
      exact ⟨rfl, hbX⟩
end Go.Proofs.YtfoppbignompkaaDoor
