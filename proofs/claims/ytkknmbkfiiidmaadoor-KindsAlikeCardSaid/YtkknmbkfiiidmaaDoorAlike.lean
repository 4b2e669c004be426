/-
  Alike: what it computes, and the contract of the program's function.
-/
import Derived.Test.YtkknmbkfiiidmaaDoorKAwake
import Derived.Deep.RegionHeldLaw
namespace Go.Proofs.YtkknmbkfiiidmaaDoor
open Go.RowKit

/-- The characters number i of two texts are alike. -/
def sameAt (a b : Bs) (i : Nat) : Bool :=
  let c := (tk a)[i]?.getD (0, 0)
  let d := (tk b)[i]?.getD (0, 0)
  (rightR (c.1 : Nat) c.2 == rightR (d.1 : Nat) d.2) && (if rightR (c.1 : Nat) c.2 = true then foldZ (c.1 : Nat) == foldZ (d.1 : Nat) else by' a (atN a i) == by' b (atN b i))
def alikeB (a b : Bs) : Bool := decide (countN a = countN b ∧ ∀ i, i < countN a → sameAt a b i = true)
theorem alike_t {a b : Bs} (h1 : countN a = countN b) (h2 : ∀ i, i < countN a → sameAt a b i = true) : alikeB a b = true := decide_eq_true ⟨h1, h2⟩
theorem alike_len {a b : Bs} (h1 : countN a ≠ countN b) : alikeB a b = false := decide_eq_false fun h => h1 h.1
theorem alike_at {a b : Bs} {i : Nat} (h1 : i < countN a) (h2 : sameAt a b i = false) : alikeB a b = false := decide_eq_false fun h => by rw [h.2 i h1] at h2; cases h2

/-- The character at a text's beginning, cut where the character number k begins. -/
theorem head_at {a : Bs} {A : ByteArray} {k : Nat} (hA : bs A = a.drop (atN a k)) (hk : k < countN a) : A.size ≠ 0 ∧ Lib.decodeL (bs A) = (tk a)[k]?.getD (0, 0) ∧ by' (bs A) 0 = by' a (atN a k) ∧ (Lib.decodeL (bs A)).2 ≤ A.size ∧ 1 ≤ (Lib.decodeL (bs A)).2 ∧
    bs (A.extract (Lib.decodeL (bs A)).2 A.size) = a.drop (atN a (k + 1)) := by
  have hc := cut_at a k (by omega)
  have hlt := atN_lt a (show k < countN a from hk) (Nat.le_refl _)
  rw [atN_full] at hlt
  have hne : a.drop (atN a k) ≠ [] := by intro e; have := congrArg List.length e; simp at this; omega
  have hg : (tk a)[k]?.getD (0, 0) = Lib.decodeL (a.drop (atN a k)) := by
    have h := hc.get hlt
    rw [List.length_take, Nat.min_eq_left (by unfold countN at hk; omega)] at h
    exact h
  have hs := atN_succ a k hk
  rw [hg] at hs
  have hw := wid_le (a.drop (atN a k)) hne
  have hsz : A.size = a.length - atN a k := by rw [size_bs, hA, List.length_drop]
  refine ⟨by omega, by rw [hA, hg], by rw [hA, by_drop, Nat.add_zero], by rw [hA]; simpa [hsz] using hw, by rw [hA]; exact (wid_bounds _).1, ?_⟩
  rw [bs_drop, hA, List.drop_drop, hs]

theorem sizes_at {a : Bs} {A : ByteArray} {k : Nat} (hA : bs A = a.drop (atN a k)) (hk : k ≤ countN a) : (A.size = 0 ↔ k = countN a) := by
  have hsz : A.size = a.length - atN a k := by rw [size_bs, hA, List.length_drop]
  constructor
  · intro h
    rcases Nat.lt_or_ge k (countN a) with h1 | h1
    · have := atN_lt a h1 (Nat.le_refl _)
      rw [atN_full] at this
      omega
    · omega
  · rintro rfl
    rw [atN_full] at hsz
    omega

theorem first_byte (A : ByteArray) (h : 0 < A.size) : by' (bs A) 0 = (A[0]'h).toNat := by
  obtain ⟨⟨l⟩⟩ := A
  cases l with
  | nil => simp [ByteArray.size] at h
  | cons x l => rfl
def lenS : Value → Nat
  | .string s => s.size
  | _ => 0
set_option maxHeartbeats 8000000 in
theorem alike_any (a b : ByteArray) (ha : a.size ≤ 562949953421312) (hb : b.size ≤ 562949953421312) (w : World) (hT : Tabs w) :
    Calls Tryd.prog 32 #[.string a, .string b] w fun e w' => e = .returned (.bool (alikeB (bs a) (bs b))) ∧ Below w.heap.size w w' := by
  have HT := Lib.hid hT
  obtain ⟨la, hla⟩ : ∃ l, bs a = l := ⟨_, rfl⟩
  obtain ⟨lb, hlb⟩ : ∃ l, bs b = l := ⟨_, rfl⟩
  rw [hla, hlb]
  have HLA := Lib.hid hla
  have HLB := Lib.hid hlb
  clear hT hla hlb
  go_enter Tryd.func32, Tryd.ntmps32
  go_wp2_with fail
  go_loopw [0, 1, 5, 6, 7, 8, 9, 10] (fun x y _ _ _ _ _ _ wr => ∃ A B k, x = .string A ∧ y = .string B ∧ k ≤ countN la ∧ k ≤ countN lb ∧ A.size ≤ 562949953421312 ∧ B.size ≤ 562949953421312 ∧ Hid (bs A = la.drop (atN la k)) ∧ Hid (bs B = lb.drop (atN lb k)) ∧ Hid (∀ i, i < k → sameAt la lb i = true) ∧ Below w.heap.size w wr) (fun x _ _ _ _ _ _ _ _ => lenS x)
  case atStart => exact ⟨a, b, 0, rfl, rfl, Nat.zero_le _, Nat.zero_le _, ha, hb, Lib.hid (by rw [HLA.out, atN_zero, List.drop_zero]), Lib.hid (by rw [HLB.out, atN_zero, List.drop_zero]), Lib.hid (fun i h => absurd h (Nat.not_lt_zero _)), Below.refl _ _⟩
  case round =>
    obtain ⟨A, B, k, rfl, rfl, hka, hkb, hAs, hBs, hA, hB, hI, hbl⟩ := hrel
    by_cases hA0 : k < countN la
    · by_cases hB0 : k < countN lb
      · obtain ⟨a1, a2, a3, a4, a5, a6⟩ := head_at hA.out hA0
        obtain ⟨b1, b2, b3, b4, b5, b6⟩ := head_at hB.out hB0
        have hneA : A.toList.isEmpty = false := notEmpty A (by omega)
        have hneB : B.toList.isEmpty = false := notEmpty B (by omega)
        obtain ⟨c, hc⟩ : ∃ c, Lib.decodeL (bs A) = c := ⟨_, rfl⟩
        obtain ⟨d, hd⟩ : ∃ d, Lib.decodeL (bs B) = d := ⟨_, rfl⟩
        have hFA := fun w => first_some A c.1 c.2 a1 (by rw [hc]) (by rw [hc]) w
        have hFB := fun w => first_some B d.1 d.2 b1 (by rw [hd]) (by rw [hd]) w
        have hSA : sameAt la lb k = ((rightR (c.1 : Nat) c.2 == rightR (d.1 : Nat) d.2) && (if rightR (c.1 : Nat) c.2 = true then foldZ (c.1 : Nat) == foldZ (d.1 : Nat) else by' (bs A) 0 == by' (bs B) 0)) := by
          unfold sameAt
          rw [← a2, ← b2, hc, hd, ← a3, ← b3]
        rw [hc] at a4 a5 a6
        rw [hd] at b4 b5 b6
        obtain ⟨r, wa⟩ := c
        obtain ⟨q, wb⟩ := d
        simp only at hFA hFB hSA a4 a5 a6 b4 b5 b6
        have HFA := Lib.hid hFA
        have HFB := Lib.hid hFB
        have HA6 := Lib.hid a6
        have HB6 := Lib.hid b6
        have HSA := Lib.hid hSA
        have HF1 := Lib.hid (fun w => (fold_any (r : Int) w).mono (fun e w' h => (⟨h.1, h.2.symm⟩ : e = .returned (.int .i32 (foldZ (r : Int))) ∧ w' = w)))
        have HF2 := Lib.hid (fun w => (fold_any (q : Int) w).mono (fun e w' h => (⟨h.1, h.2.symm⟩ : e = .returned (.int .i32 (foldZ (q : Int))) ∧ w' = w)))
        obtain ⟨ra, hra⟩ : ∃ x, rightR (r : Int) wa = x := ⟨_, rfl⟩
        obtain ⟨rb, hrb⟩ : ∃ x, rightR (q : Int) wb = x := ⟨_, rfl⟩
        have hTw := HT.out.below hbl (Nat.le_refl _)
        have HTW := Lib.hid hTw
        rw [hra] at HFA HSA
        rw [hrb] at HFB HSA
        clear a2 a3 a6 b2 b3 b6 hc hd hFA hFB hSA hra hrb hTw
        go_wp2_with (first
          | (go_at_call 49; (with_reducible refine (HFA.out _ HTW.out).mono ?_); rintro e w1 ⟨rfl, hb1⟩)
          | (go_at_call 49; (with_reducible refine (HFB.out _ (HTW.out.below hb1 (Nat.le_refl _))).mono ?_); rintro e w2 ⟨rfl, hb2⟩; have hb12 := nx hb1 hb2))
        have hb02 : Below w.heap.size w w2 := hbl.trans (hb12.mono hbl.size)
        cases ra <;> cases rb
        · have hA1 : (0 : Int) < (A.size : Int) := by omega
          have hB1 : (0 : Int) < (B.size : Int) := by omega
          have hA2 : 0 < A.size := by omega
          have hB2 : 0 < B.size := by omega
          have hAb : by' (bs A) 0 = (A[0]'hA2).toNat := first_byte A hA2
          have hBb : by' (bs B) 0 = (B[0]'hB2).toNat := first_byte B hB2
          rw [hAb, hBb] at HSA
          clear hAb hBb
          by_cases hX : (A[0]'hA2) = (B[0]'hB2)
          · have HS := Lib.hid (show sameAt la lb k = true by rw [HSA.out, hX]; simp)
            go_quiet (fail)
            go_wp2_with fail
            have HI2 := Lib.hid (show ∀ i, i < k + 1 → sameAt la lb i = true by
              intro i hi
              by_cases e : i = k
              · rw [e]; exact HS.out
              · exact hI.out i (by omega))
            have hwa : (wa : Int) ≤ (A.size : Int) := by omega
            have hwb : (wb : Int) ≤ (B.size : Int) := by omega
            have hwa0 : (0 : Int) ≤ (wa : Int) := by omega
            have hwb0 : (0 : Int) ≤ (wb : Int) := by omega
            go_quiet (fail)
            go_wp2_with fail
            exact ⟨⟨_, _, k + 1, rfl, rfl, hA0, hB0, by rw [ByteArray.size_extract]; omega, by rw [ByteArray.size_extract]; omega, HA6, HB6, HI2, below_drewN (below_drewN hb02 _) _⟩, by simp only [lenS, ByteArray.size_extract]; omega⟩
          · have hX' : ((((A[0]'hA2).toNat : Nat) : Int) != (((B[0]'hB2).toNat : Nat) : Int)) = true := bne_iff_ne.2 (fun e => hX (UInt8.toNat_inj.1 (by omega)))
            have HR := Lib.hid (alike_at hA0 (show sameAt la lb k = false by rw [HSA.out]; simp; exact fun e => hX (UInt8.toNat_inj.1 e)))
            go_quiet (fail)
            go_wp2_with fail
            go_ret
            exact ⟨ret_bool HR.out.symm, below_drewN hb02 _⟩
        · have HR := Lib.hid (alike_at hA0 (show sameAt la lb k = false by rw [HSA.out]; rfl))
          go_quiet (fail)
          go_wp2_with fail
          go_ret
          exact ⟨ret_bool HR.out.symm, below_drewN hb02 _⟩
        · have HR := Lib.hid (alike_at hA0 (show sameAt la lb k = false by rw [HSA.out]; rfl))
          go_quiet (fail)
          go_wp2_with fail
          go_ret
          exact ⟨ret_bool HR.out.symm, below_drewN hb02 _⟩
        · obtain ⟨fr, hfr⟩ : ∃ x, foldZ (r : Int) = x := ⟨_, rfl⟩
          obtain ⟨fq, hfq⟩ : ∃ x, foldZ (q : Int) = x := ⟨_, rfl⟩
          rw [hfr] at HF1 HSA
          rw [hfq] at HF2 HSA
          clear hfr hfq
          by_cases hf : fr = fq
          · subst hf
            have HS := Lib.hid (show sameAt la lb k = true by rw [HSA.out]; simp)
            go_quiet (first | (go_at_call 20; refine Calls.quiet_of_same (HF1.out _)) | (go_at_call 20; refine Calls.quiet_of_same (HF2.out _)))
            go_wp2_with fail
            have HI2 := Lib.hid (show ∀ i, i < k + 1 → sameAt la lb i = true by
              intro i hi
              by_cases e : i = k
              · rw [e]; exact HS.out
              · exact hI.out i (by omega))
            have hwa : (wa : Int) ≤ (A.size : Int) := by omega
            have hwb : (wb : Int) ≤ (B.size : Int) := by omega
            have hwa0 : (0 : Int) ≤ (wa : Int) := by omega
            have hwb0 : (0 : Int) ≤ (wb : Int) := by omega
            go_quiet (fail)
            go_wp2_with fail
            exact ⟨⟨_, _, k + 1, rfl, rfl, hA0, hB0, by rw [ByteArray.size_extract]; omega, by rw [ByteArray.size_extract]; omega, HA6, HB6, HI2, below_drewN (below_drewN hb02 _) _⟩, by simp only [lenS, ByteArray.size_extract]; omega⟩
          · have hf' : (fr != fq) = true := bne_iff_ne.2 hf
            have HR := Lib.hid (alike_at hA0 (show sameAt la lb k = false by rw [HSA.out]; simp [hf]))
            clear hf
            go_quiet (first | (go_at_call 20; refine Calls.quiet_of_same (HF1.out _)) | (go_at_call 20; refine Calls.quiet_of_same (HF2.out _)))
            go_wp2_with fail
            go_ret
            exact ⟨ret_bool HR.out.symm, below_drewN hb02 _⟩
      · have hkn : k = countN lb := by omega
        have hBz := (sizes_at hB.out hkb).2 hkn
        have hAz : A.size ≠ 0 := fun e => by have := (sizes_at hA.out hka).1 e; omega
        have hneA : A.toList.isEmpty = false := notEmpty A (by omega)
        have heB : B.toList.isEmpty = true := isEmpty' B hBz
        have hAB : (A.toList == B.toList) = false := beq_eq_false_iff_ne.2 (fun e => by rw [e] at hneA; rw [hneA] at heB; cases heB)
        have HR := Lib.hid (alike_len (a := la) (b := lb) (by omega))
        clear hkn hBz
        go_wp2_with fail
        go_ret
        exact ⟨ret_bool HR.out.symm, hbl⟩
    · have hkn : k = countN la := by omega
      have hAz := (sizes_at hA.out hka).2 hkn
      have heA : A.toList.isEmpty = true := isEmpty' A hAz
      by_cases hB0 : k < countN lb
      · have hBz : B.size ≠ 0 := fun e => by have := (sizes_at hB.out hkb).1 e; omega
        have hneB : B.toList.isEmpty = false := notEmpty B (by omega)
        have hAB : (A.toList == B.toList) = false := beq_eq_false_iff_ne.2 (fun e => by rw [e] at heA; rw [hneB] at heA; cases heA)
        have HR := Lib.hid (alike_len (a := la) (b := lb) (by omega))
        clear hkn hAz
        go_wp2_with fail
        go_ret
        exact ⟨ret_bool HR.out.symm, hbl⟩
      · have hBz := (sizes_at hB.out hkb).2 (by omega)
        have heB : B.toList.isEmpty = true := isEmpty' B hBz
        have hAB : (A.toList == B.toList) = true := by rw [List.isEmpty_iff.1 heA, List.isEmpty_iff.1 heB]; rfl
        have HR := Lib.hid (alike_t (a := la) (b := lb) (by omega) (fun i hi => hI.out i (by omega)))
        clear hkn hAz hBz
        go_wp2_with fail
        go_ret
        exact ⟨ret_bool HR.out.symm, hbl⟩
end Go.Proofs.YtkknmbkfiiidmaaDoor
