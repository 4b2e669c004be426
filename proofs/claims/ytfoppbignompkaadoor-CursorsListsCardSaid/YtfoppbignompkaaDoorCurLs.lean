/-
  Lists of cursors, a cursor and an edit that are handed in: opened, field by field.
-/
import Derived.Test.YtfoppbignompkaaDoorCurB
import Derived.Laws.CopyRow
import Derived.Lib.Overlaps
import Derived.Shelf.Spec.SlicesInsert
import Derived.Lib.AppendZerosOnto
import Derived.Shelf.RegionOpenPlain
import Derived.Deep.RegionHeldLaw
import Derived.Deep.AppendLies
import Derived.Test.YtfoppbignompkaaDoorDoor
import Derived.Deep.Slices
import Derived.ShutString
import Derived.ChangeOld
import Derived.SizedLaws
namespace Go.Proofs.YtfoppbignompkaaDoor
open Go.RowKit

/-- does a cursor leave a text of so many bytes? -/
def farC (B : Int) (c : Cu) : Bool := decide (B < c.2.1 ∨ B < c.2.2.1)
/-- what Check answers -/
def checkN (zs : List Cu) (B : Int) : Int := if B < 0 then 2 else if wrongN zs ≠ 0 then wrongN zs else if zs.any (farC B) then 200 else 0
set_option maxRecDepth 10000 in
set_option maxHeartbeats 4000000 in
theorem check_any (ao : Option Addr) (cap : Nat) (zs : List Cu) (n : Nat) (hl : zs.length = n) (hn : n ≤ 140737488351232) (B : Int) (w : World) (hR : ReadsC w ao zs) :
    Calls Tryd.prog 28 #[.slice ao n cap, .int .i64 B] w fun e w' => e = .returned (.int .i64 (checkN zs B)) ∧ Below w.heap.size w w' := by
  have HW := Lib.hid (fun w hR => cwrong_any ao cap zs n hl hn w hR)
  have HR := Lib.hid hR
  have HL := Lib.hid hl
  clear hR hl
  by_cases hB : B < 0
  · have HC := Lib.hid (show checkN zs B = 2 from if_pos hB)
    go_enter Tryd.func28, Tryd.ntmps28
    go_wp2_with fail
    go_ret
    exact ⟨by rw [HC.out]; rfl, Below.refl _ _⟩
  · have hBd : decide (B < 0) = false := decide_eq_false hB
    have HC0 := Lib.hid (show checkN zs B = if wrongN zs ≠ 0 then wrongN zs else if zs.any (farC B) then 200 else 0 from if_neg hB)
    obtain ⟨er, her⟩ : ∃ er, wrongN zs = er := ⟨_, rfl⟩
    rw [her] at HW HC0
    by_cases hz : er = 0
    · subst hz
      have HC := Lib.hid (show checkN zs B = if zs.any (farC B) then 200 else 0 by rw [HC0.out, if_neg (by simp)])
      have hn8 := (wrongN_zero her).1
      rw [HL.out] at hn8
      clear HC0 her hB
      go_enter Tryd.func28, Tryd.ntmps28
      go_wp2_with (go_at_call 40; (with_reducible refine (HW.out _ HR.out).mono ?_); rintro e w1 ⟨rfl, hb1⟩)
      go_loopw [17] (fun i wr => ∃ k : Nat, i = .int .i64 (k : Nat) ∧ k ≤ n ∧ Hid (∀ j, j < k → farC B (zs[j]?.getD cuZ) = false) ∧ Below w.heap.size w wr) (fun i _ => n - (intOf i).toNat)
      case atStart => exact ⟨0, rfl, Nat.zero_le _, Lib.hid (fun j hj => by omega), hb1⟩
      case round =>
        clear hb1
        obtain ⟨k, rfl, hk, hok, hb⟩ := hrel
        by_cases hlt : k < n
        · have hki : (k : Int) < (n : Int) := by omega
          have hk0 : (0 : Int) ≤ (k : Int) := by omega
          have hkz : k < zs.length := by rw [HL.out]; exact hlt
          rcases HR.out with h0 | ⟨b, off, rfl, hcs⟩
          · rw [h0] at hkz; simp at hkz
          obtain ⟨x0, x1, x2, x3⟩ := hcs k hkz
          have x0 := cellKeep x0 hb
          have x1 := cellKeep x1 hb
          have x2 := cellKeep x2 hb
          have x3 := cellKeep x3 hb
          have HZK := Lib.hid hkz
          obtain ⟨c, hc⟩ : ∃ c, zs[k]?.getD cuZ = c := ⟨_, rfl⟩
          rw [hc] at x0 x1 x2 x3
          have HCC := Lib.hid hc
          obtain ⟨i, a, d, g⟩ := c
          simp only at x0 x1 x2 x3
          clear hcs hc hkz
          by_cases hf : B < a ∨ B < d
          · have HC2 := Lib.hid (show checkN zs B = 200 by
              rw [HC.out, if_pos]
              rw [List.any_eq_true]
              refine ⟨_, List.getElem_mem HZK.out, ?_⟩
              have := HCC.out
              rw [List.getElem?_eq_getElem HZK.out] at this
              rw [show zs[k] = (i, a, d, g) from this]
              exact decide_eq_true hf)
            have hmx : decide (B < max a d) = true := decide_eq_true (by omega)
            obtain ⟨mx, hmxe⟩ : ∃ mx, max a d = mx := ⟨_, rfl⟩
            rw [hmxe] at hmx
            clear hf
            go_wp2_with fail
            go_ret
            exact ⟨by rw [HC2.out]; rfl, al hb _⟩
          · have HF := Lib.hid (show farC B (zs[k]?.getD cuZ) = false by rw [HCC.out]; exact decide_eq_false hf)
            have hmx : decide (B < max a d) = false := decide_eq_false (by omega)
            obtain ⟨mx, hmxe⟩ : ∃ mx, max a d = mx := ⟨_, rfl⟩
            rw [hmxe] at hmx
            clear hf
            go_wp2_with fail
            exact ⟨⟨k + 1, by go_num, hlt, Lib.hid (fun j hj => by rcases Nat.lt_succ_iff_lt_or_eq.1 hj with h | rfl; exact hok.out j h; exact HF.out), al hb _⟩, by simp [intOf]; omega⟩
        · obtain rfl : k = n := by omega
          have HC2 := Lib.hid (show checkN zs B = 0 by
            rw [HC.out, if_neg]
            rw [List.any_eq_true]
            rintro ⟨c, hc, h2⟩
            obtain ⟨j, hj, rfl⟩ := List.getElem_of_mem hc
            have := hok.out j (by rw [← HL.out]; exact hj)
            rw [List.getElem?_eq_getElem hj] at this
            rw [show farC B zs[j] = false from this] at h2
            cases h2)
          have hkd : decide (k < k) = false := decide_eq_false (by omega)
          go_wp2_with fail
          go_ret
          exact ⟨by rw [HC2.out]; rfl, hb⟩
    · have HC := Lib.hid (show checkN zs B = er by rw [HC0.out, if_pos hz])
      have hne : (er != 0) = true := bne_iff_ne.2 hz
      clear hz her HC0 hB
      go_enter Tryd.func28, Tryd.ntmps28
      go_wp2_with (go_at_call 40; (with_reducible refine (HW.out _ HR.out).mono ?_); rintro e w1 ⟨rfl, hb1⟩)
      go_ret
      exact ⟨by rw [HC.out]; rfl, hb1⟩
end Go.Proofs.YtfoppbignompkaaDoor

namespace Go.Proofs.YtfoppbignompkaaDoor
open Go.RowKit

def findN : List Cu → Int → Nat
  | [], _ => 0
  | c :: r, id => if c.1 < id then findN r id + 1 else 0
def hasN (zs : List Cu) (id : Int) : Bool := decide (findN zs id < zs.length ∧ (zs[findN zs id]?.getD cuZ).1 = id)
theorem find_le : ∀ (zs : List Cu) (id : Int), findN zs id ≤ zs.length
  | [], _ => Nat.le_refl _
  | c :: r, id => by
    have := find_le r id
    unfold findN
    split
    · simp; omega
    · exact Nat.zero_le _
theorem find_lt : ∀ (zs : List Cu) (id : Int) (t : Nat), t < findN zs id → (zs[t]?.getD cuZ).1 < id
  | [], _, t, h => by unfold findN at h; omega
  | c :: r, id, t, h => by
    unfold findN at h
    by_cases hc : c.1 < id
    · rw [if_pos hc] at h
      cases t with
      | zero => exact hc
      | succ t =>
        have := find_lt r id t (by omega)
        simpa using this
    · rw [if_neg hc] at h
      omega
theorem find_stop : ∀ (zs : List Cu) (id : Int), findN zs id < zs.length → ¬ (zs[findN zs id]?.getD cuZ).1 < id
  | [], _, h => by simp at h
  | c :: r, id, h => by
    unfold findN at h ⊢
    by_cases hc : c.1 < id
    · rw [if_pos hc] at h ⊢
      have := find_stop r id (by simpa using h)
      simpa using this
    · rw [if_neg hc]
      exact hc
theorem find_is (zs : List Cu) (id : Int) (p : Nat) (hp : p ≤ zs.length) (h1 : ∀ t, t < p → (zs[t]?.getD cuZ).1 < id) (h2 : ∀ t, p ≤ t → t < zs.length → id ≤ (zs[t]?.getD cuZ).1) : p = findN zs id := by
  have hl := find_le zs id
  rcases Nat.lt_trichotomy p (findN zs id) with h | h | h
  · have a := find_lt zs id p h
    have b := h2 p (Nat.le_refl _) (by omega)
    omega
  · exact h
  · have a := find_stop zs id (by omega)
    have b := h1 _ h
    exact absurd b a
/-- ids grow -/
def SortC (zs : List Cu) : Prop := ∀ i j, i < j → j < zs.length → (zs[i]?.getD cuZ).1 < (zs[j]?.getD cuZ).1
theorem sorted_of {zs : List Cu} (her : wrongN zs = 0) : SortC zs := by
  obtain ⟨_, hb⟩ := wrongN_zero her
  have step : ∀ k, 0 < k → k < zs.length → (zs[k - 1]?.getD cuZ).1 < (zs[k]?.getD cuZ).1 := fun k h0 hk => by
    have h := hb k hk
    unfold badC at h
    rw [Bool.or_eq_false_iff, decide_eq_true h0, Bool.true_and] at h
    have := of_decide_eq_false h.2
    omega
  intro i j
  induction j with
  | zero => intro h; omega
  | succ j ih =>
    intro hij hj
    have h1 := step (j + 1) (by omega) hj
    rw [Nat.add_sub_cancel] at h1
    rcases Nat.lt_succ_iff_lt_or_eq.1 hij with h | rfl
    · have := ih h (by omega)
      omega
    · exact h1
theorem find_ge {zs : List Cu} (hs : SortC zs) (id : Int) (t : Nat) (h : findN zs id ≤ t) (ht : t < zs.length) : id ≤ (zs[t]?.getD cuZ).1 := by
  have h0 := find_stop zs id (by omega)
  rcases Nat.eq_or_lt_of_le h with e | e
  · rw [e] at h0; omega
  · have := hs _ _ e ht
    omega

/-- what the search's compare says -/
def cmpN (c : Cu) (id : Int) : Int := if c.1 < id then -1 else if id < c.1 then 1 else 0
theorem findcmp_any (c : Cu) (id : Int) (w : World) :
    Calls Tryd.prog 92 #[.agg #[.int .u32 c.1, .int .i64 c.2.1, .int .i64 c.2.2.1, .int .i64 c.2.2.2], .int .u32 id] w fun e w' => e = .returned (.int .i64 (cmpN c id)) ∧ Below w.heap.size w w' := by
  obtain ⟨i, a, d, g⟩ := c
  have K := Blk.new w 36 [.int .u32 i, .int .i64 a, .int .i64 d, .int .i64 g]
  have k0 := K.cell 0 rfl
  have hb : Below w.heap.size w _ := al (Below.refl _ _) (.cells #[.int .u32 i, .int .i64 a, .int .i64 d, .int .i64 g] 36)
  clear K
  unfold cmpN
  simp only
  by_cases h1 : i < id
  · rw [if_pos h1]
    go_enter Tryd.func92, Tryd.ntmps92
    go_wp2_with fail
    go_ret
    exact ⟨rfl, hb⟩
  · rw [if_neg h1]
    have h1d : decide (i < id) = false := decide_eq_false h1
    by_cases h2 : id < i
    · rw [if_pos h2]
      clear h1
      go_enter Tryd.func92, Tryd.ntmps92
      go_wp2_with fail
      go_ret
      exact ⟨rfl, hb⟩
    · rw [if_neg h2]
      have h2d : decide (id < i) = false := decide_eq_false h2
      clear h1 h2
      go_enter Tryd.func92, Tryd.ntmps92
      go_wp2_with fail
      go_ret
      exact ⟨rfl, hb⟩

set_option maxRecDepth 10000 in
set_option maxHeartbeats 4000000 in
theorem bsearch_any (ao : Option Addr) (cap : Nat) (zs : List Cu) (n : Nat) (hl : zs.length = n) (hn : n ≤ 8) (hs : SortC zs) (id : Int) (w : World) (hR : ReadsC w ao zs) :
    Calls Tryd.prog 91 #[.slice ao n cap, .int .u32 id, .func (.func 92) #[] #[]] w fun e w' => e = .returned (.tuple #[.int .i64 (findN zs id : Nat), .bool (hasN zs id)]) ∧ Below w.heap.size w w' := by
  have HR := Lib.hid hR
  have HL := Lib.hid hl
  have HS := Lib.hid hs
  clear hR hl hs
  go_enter Tryd.func91, Tryd.ntmps91
  go_wp2_with fail
  go_loopw [9, 10] (fun i j wr => ∃ lo hi : Nat, i = .int .i64 (lo : Nat) ∧ j = .int .i64 (hi : Nat) ∧ lo ≤ hi ∧ hi ≤ n ∧ Hid (∀ t, t < lo → (zs[t]?.getD cuZ).1 < id) ∧ Hid (∀ t, hi ≤ t → t < n → id ≤ (zs[t]?.getD cuZ).1) ∧ Below w.heap.size w wr) (fun i j _ => (intOf j).toNat - (intOf i).toNat)
  case atStart => exact ⟨0, n, rfl, rfl, Nat.zero_le _, Nat.le_refl _, Lib.hid (fun t ht => by omega), Lib.hid (fun t h1 h2 => by omega), Below.refl _ _⟩
  case round =>
    obtain ⟨lo, hi, rfl, rfl, hlh, hin, H1, H2, hb⟩ := hrel
    by_cases hlt : lo < hi
    · have hli : (lo : Int) < (hi : Int) := by omega
      obtain ⟨h, hh⟩ : ∃ h, (lo + hi) / 2 = h := ⟨_, rfl⟩
      have hhi : ((lo : Int) + (hi : Int)) / 2 = (h : Int) := by omega
      have hh1 : lo ≤ h := by omega
      have hh2 : h < hi := by omega
      have hhz : h < zs.length := by rw [HL.out]; omega
      have hk0 : (0 : Int) ≤ (h : Int) := by omega
      have hkn : (h : Int) < (n : Int) := by omega
      have hll : (0 : Int) ≤ (lo : Int) + (hi : Int) := by omega
      clear hh
      rcases HR.out with h0 | ⟨b, off, rfl, hcs⟩
      · rw [h0] at hhz; simp at hhz
      obtain ⟨x0, x1, x2, x3⟩ := hcs h hhz
      have x0 := cellKeep x0 hb
      have x1 := cellKeep x1 hb
      have x2 := cellKeep x2 hb
      have x3 := cellKeep x3 hb
      have HCM := Lib.hid (fun w => findcmp_any (zs[h]?.getD cuZ) id w)
      have hcm : cmpN (zs[h]?.getD cuZ) id = if (zs[h]?.getD cuZ).1 < id then -1 else if id < (zs[h]?.getD cuZ).1 then 1 else 0 := rfl
      obtain ⟨c, hc⟩ : ∃ c, zs[h]?.getD cuZ = c := ⟨_, rfl⟩
      have HC := Lib.hid hc
      rw [hc] at x0 x1 x2 x3 HCM hcm
      obtain ⟨ci, ca, cd, cg⟩ := c
      simp only at x0 x1 x2 x3 HCM hcm
      obtain ⟨cm, hcme⟩ : ∃ x, cmpN (ci, ca, cd, cg) id = x := ⟨_, rfl⟩
      rw [hcme] at HCM hcm
      clear hcs hc hcme
      by_cases hlt2 : ci < id
      · rw [if_pos hlt2] at hcm
        subst hcm
        go_wp2_with (go_at_call 92; (with_reducible refine (HCM.out _).mono ?_); rintro e w3 ⟨rfl, hb3⟩)
        exact ⟨⟨h + 1, hi, by go_num, rfl, by omega, hin, Lib.hid (fun t ht => by
          rcases Nat.lt_succ_iff_lt_or_eq.1 ht with h4 | rfl
          · rcases Nat.lt_or_ge t lo with h5 | h5
            · exact H1.out t h5
            · have := HS.out t h h4 hhz
              rw [HC.out] at this
              exact Int.lt_trans this hlt2
          · rw [HC.out]; exact hlt2), H2, nx hb hb3⟩, by simp [intOf]; omega⟩
      · rw [if_neg hlt2] at hcm
        have hcm0 : 0 ≤ cm := by rw [hcm]; split <;> omega
        have hcmd : decide (cm < 0) = false := decide_eq_false (by omega)
        clear hcm
        go_wp2_with (go_at_call 92; (with_reducible refine (HCM.out _).mono ?_); rintro e w3 ⟨rfl, hb3⟩)
        exact ⟨⟨lo, h, rfl, rfl, hh1, by omega, H1, Lib.hid (fun t h4 h5 => by
          rcases Nat.eq_or_lt_of_le h4 with rfl | h6
          · rw [HC.out]; show id ≤ ci; omega
          · have := HS.out h t h6 (by rw [HL.out]; exact h5)
            rw [HC.out] at this
            have : ci < (zs[t]?.getD cuZ).1 := this
            omega), nx hb hb3⟩, by simp [intOf]; omega⟩
    · obtain rfl : lo = hi := by omega
      obtain ⟨h, rfl⟩ : ∃ h, h = lo := ⟨_, rfl⟩
      have hp := find_is zs id h (by rw [HL.out]; exact hin) H1.out (fun t h1 h2 => H2.out t h1 (by rw [← HL.out]; exact h2))
      have HP := Lib.hid hp
      clear hp
      have hkd : decide (h < h) = false := decide_eq_false (by omega)
      by_cases hhn : h < n
      · have hhz : h < zs.length := by rw [HL.out]; exact hhn
        have hk0 : (0 : Int) ≤ (h : Int) := by omega
        have hkn : (h : Int) < (n : Int) := by omega
        rcases HR.out with h0 | ⟨b, off, rfl, hcs⟩
        · rw [h0] at hhz; simp at hhz
        obtain ⟨x0, x1, x2, x3⟩ := hcs h hhz
        have x0 := cellKeep x0 hb
        have x1 := cellKeep x1 hb
        have x2 := cellKeep x2 hb
        have x3 := cellKeep x3 hb
        have HCM := Lib.hid (fun w => findcmp_any (zs[h]?.getD cuZ) id w)
        have hcm : cmpN (zs[h]?.getD cuZ) id = if (zs[h]?.getD cuZ).1 < id then -1 else if id < (zs[h]?.getD cuZ).1 then 1 else 0 := rfl
        obtain ⟨c, hc⟩ : ∃ c, zs[h]?.getD cuZ = c := ⟨_, rfl⟩
        have HC := Lib.hid hc
        rw [hc] at x0 x1 x2 x3 HCM hcm
        obtain ⟨ci, ca, cd, cg⟩ := c
        simp only at x0 x1 x2 x3 HCM hcm
        obtain ⟨cm, hcme⟩ : ∃ x, cmpN (ci, ca, cd, cg) id = x := ⟨_, rfl⟩
        rw [hcme] at HCM hcm
        clear hcs hc hcme
        have HH := Lib.hid (show hasN zs id = (cm == 0) by
          unfold hasN
          rw [← HP.out, HC.out, hcm]
          have hge : id ≤ ci := by
            have := H2.out h (Nat.le_refl _) hhn
            rw [HC.out] at this
            exact this
          rw [if_neg (by omega)]
          by_cases e : id < ci
          · rw [if_pos e, decide_eq_false (by rintro ⟨_, e2⟩; have : ci = id := e2; omega)]
            rfl
          · rw [if_neg e, decide_eq_true ⟨hhz, show ci = id by omega⟩]
            rfl)
        obtain ⟨q, hq⟩ : ∃ q, (cm == 0) = q := ⟨_, rfl⟩
        have HQ := Lib.hid hq
        clear hcm
        go_wp2_with (go_at_call 92; (with_reducible refine (HCM.out _).mono ?_); rintro e w3 ⟨rfl, hb3⟩)
        go_ret2
        exact ⟨by rw [HH.out, HQ.out, ← HP.out]; rfl, nx hb hb3⟩
      · obtain rfl : h = n := by omega
        have HH := Lib.hid (show hasN zs id = false by
          unfold hasN
          rw [← HP.out, HL.out]
          exact decide_eq_false (fun h => by omega))
        go_wp2_with fail
        go_ret2
        exact ⟨by rw [HH.out, ← HP.out]; rfl, hb⟩
theorem find_any (ao : Option Addr) (cap : Nat) (zs : List Cu) (n : Nat) (hl : zs.length = n) (hn : n ≤ 8) (hs : SortC zs) (id : Int) (w : World) (hR : ReadsC w ao zs) :
    Calls Tryd.prog 62 #[.slice ao n cap, .int .u32 id] w fun e w' => e = .returned (.tuple #[.int .i64 (findN zs id : Nat), .bool (hasN zs id)]) ∧ Below w.heap.size w w' := by
  have HB := Lib.hid (bsearch_any ao cap zs n hl hn hs id w hR)
  obtain ⟨p, hp⟩ : ∃ p, findN zs id = p := ⟨_, rfl⟩
  obtain ⟨q, hq⟩ : ∃ p, hasN zs id = p := ⟨_, rfl⟩
  rw [hp, hq] at HB ⊢
  clear hp hq hl hn hs hR
  go_enter Tryd.func62, Tryd.ntmps62
  go_wp2_with (go_at_call 91; (with_reducible refine HB.out.mono ?_); rintro e w3 ⟨rfl, hb3⟩)
  go_ret2
  exact ⟨rfl, hb3⟩
end Go.Proofs.YtfoppbignompkaaDoor

namespace Go.Proofs.YtfoppbignompkaaDoor
open Go.RowKit

theorem run_copy4 {P : Program} (w : World) (dT sT ty elem : TypeId) (g o dLen dCap : Nat) (a : Addr) (sLen sCap : Nat) (cur : Array Value) (t : TypeId) (cs : List Value) (n : Nat)
    (hu : P.underlying dT = some (.slice elem)) (hs : (P.info? elem).map (·.size) = some 4) (hg : w.heap[g]? = some (.cells cur t (0, 0))) (hn : n = Nat.min sLen dLen) (hc : cs.length = n * 4)
    (hsrc : ∀ j v, cs[j]? = some v → w.cell? (a.add j) = some v) (hfit : o + cs.length ≤ cur.size) (h1 : ∀ v ∈ cs, v.oneCell' = true) :
    (Builtin.copy_ #[dT, sT] ty #[.slice (some ⟨g, o, none⟩) dLen dCap, .slice (some a) sLen sCap]).run P w =
      .ok (goInt n) (w.setRow g (cur.toList.take o ++ cs ++ cur.toList.drop (o + cs.length)).toArray) := by
  have hl := run_loadCells_list (P := P) w a cs hsrc
  have hst := run_storeCells_at P g o t cs 0 cur w hg (by simpa using hfit) h1
  rw [hc] at hl
  cases hq : P.info? elem with
  | none => simp [hq] at hs
  | some i =>
    have hi : i.size = 4 := by simpa [hq] using hs
    simp [Builtin.copy_, run_underlying hu, Builtin.lenOf, Builtin.firstCells, sizeOf, typeInfo, hq, hi, ← hn, hl, hst]
theorem run_clear4 {P : Program} (w : World) (t ty e : TypeId) (i : TypeInfo) (z : Value) (ht : P.underlying t = some (.slice e)) (hi : P.info? e = some i) (hz : i.zero = some z) (g o cap : Nat) (cur : Array Value) (tt : TypeId) (zs : List Value)
    (hzs : (Builtin.zeroCells z.cells 1).toList = zs) (hg : w.heap[g]? = some (.cells cur tt (0, 0))) (hfit : o + zs.length ≤ cur.size) (h1 : ∀ v ∈ zs, v.oneCell' = true) :
    (Builtin.clear_ #[t] ty #[.slice (some ⟨g, o, none⟩) 1 cap]).run P w = .ok (.tuple #[]) (w.setRow g (cur.toList.take o ++ zs ++ cur.toList.drop (o + zs.length)).toArray) := by
  have hst := run_storeCells_at P g o tt zs 0 cur w hg (by simpa using hfit) h1
  simp [Builtin.clear_, run_underlying ht, zeroValue, typeInfo, hi, hz, hzs, hst]
/-- 'copy' down a row, and what is put where it was -/
theorem ins_list {α : Type} (cur D X : List α) (k : Nat) (hX : X.length = 4) (h : k + 4 + D.length ≤ cur.length) :
    ((cur.take (k + 4) ++ D ++ cur.drop (k + 4 + D.length)).take k ++ X ++ (cur.take (k + 4) ++ D ++ cur.drop (k + 4 + D.length)).drop (k + X.length)) = cur.take k ++ X ++ D ++ cur.drop (k + 4 + D.length) := by
  rw [hX, List.append_assoc (cur.take (k + 4)), List.take_append_of_le_length (by rw [List.length_take]; omega), List.take_take, Nat.min_eq_left (by omega)]
  have e : k + 4 = (cur.take (k + 4)).length := by rw [List.length_take]; omega
  rw [show List.drop (k + 4) (cur.take (k + 4) ++ (D ++ cur.drop (k + 4 + D.length))) = D ++ cur.drop (k + 4 + D.length) from by
    conv => lhs; rw [show List.drop (k + 4) = List.drop (cur.take (k + 4)).length by rw [← e]]
    exact List.drop_left]
  rw [List.append_assoc, List.append_assoc, List.append_assoc]
theorem ins_list2 {α : Type} (R D X : List α) (k : Nat) (hX : X.length = 4) (h : k + 4 + D.length ≤ R.length) :
    ((R.take k ++ X ++ R.drop (k + X.length)).take (k + 4) ++ D ++ (R.take k ++ X ++ R.drop (k + X.length)).drop (k + 4 + D.length)) = R.take k ++ X ++ D ++ R.drop (k + 4 + D.length) := by
  rw [hX]
  have e : (R.take k ++ X).length = k + 4 := by rw [List.length_append, List.length_take, hX]; omega
  rw [List.take_append_of_le_length (by omega), List.take_of_length_le (by omega)]
  rw [show List.drop (k + 4 + D.length) (R.take k ++ X ++ R.drop (k + 4)) = R.drop (k + 4 + D.length) from by
    rw [show k + 4 + D.length = (R.take k ++ X).length + D.length by omega, ← List.drop_drop, List.drop_left, List.drop_drop]
    congr 1
    omega]
theorem size_cur : ∀ w : World, (sizeOf 36).run Tryd.prog w = .ok 4 w := by
  obtain ⟨i0, hi, hz0, hz1, hz2⟩ := info_parts info_cur
  intro w
  simp [sizeOf, typeInfo, hi, hz1]
theorem overlaps_no (w : World) (vb g o la ca lb cb : Nat) (hne : vb ≠ g) (xs : List Value) (hx : Blk w vb 36 xs) (cur : Array Value) (t : TypeId) (hg : w.heap[g]? = some (.cells cur t (0, 0))) (hk : cur.size ≠ 0) :
    (callFunc 93 #[.slice (some ⟨vb, 0, none⟩) la ca, .slice (some ⟨g, o, none⟩) lb cb]).run Tryd.prog w = .ok (.value (.bool false)) w := by
  rw [run_callFunc_extern Tryd.func93 (by kernel_rfl) (by kernel_rfl) (by kernel_rfl) (e := Extern.SlicesOverlaps.overlaps #[22, 22] #[4]) (by kernel_rfl),
    Lib.run_overlaps_apart w 22 4 36 Tryd.underlying22 4 size_cur ⟨vb, 0, none⟩ ⟨g, o, none⟩ la ca lb cb hne 36 t xs.length cur.size (by simp [World.shape?, show w.heap[vb]? = _ from hx]) (by simp [World.shape?, hg]) hk (hx.frozen 0) (hx.frozen xs.length)]
  rfl
end Go.Proofs.YtfoppbignompkaaDoor

namespace Go.Proofs.YtfoppbignompkaaDoor
open Go.RowKit

theorem cuC_len (c : Cu) : (cuC c).length = 4 := rfl
theorem flat_take (zs : List Cu) (i : Nat) : (zs.flatMap cuC).take (i * 4) = (zs.take i).flatMap cuC := by
  induction zs generalizing i with
  | nil => simp
  | cons c zs ih =>
    cases i with
    | zero => simp
    | succ i =>
      rw [List.flatMap_cons, List.take_succ_cons, List.flatMap_cons, show (i + 1) * 4 = (cuC c).length + i * 4 by rw [cuC_len]; omega, List.take_length_add_append, ih]
theorem flat_drop (zs : List Cu) (i : Nat) : (zs.flatMap cuC).drop (i * 4) = (zs.drop i).flatMap cuC := by
  induction zs generalizing i with
  | nil => simp
  | cons c zs ih =>
    cases i with
    | zero => simp
    | succ i =>
      rw [List.flatMap_cons, List.drop_succ_cons, show (i + 1) * 4 = (cuC c).length + i * 4 by rw [cuC_len]; omega, ← List.drop_drop, List.drop_left, ih]
/-- a row that is written anew is owned -/
theorem own_new {w : World} {B g n cap : Nat} {t : TypeId} {cur : List Value} {xs : List Value} (hB : B ≤ g) (hg : w.heap[g]? = some (.cells cur.toArray t (0, 0))) (hnc : n ≤ cap) (hcm : cap ≤ maxLen) (hs : cur.length = cap * 4) (hl : xs.length = n * 4) (ht : cur.take (n * 4) = xs) :
    w.ownsRow B t 4 (.slice (some ⟨g, 0, none⟩) n cap) n xs :=
  ⟨hl, .inr ⟨g, cap, cur.toArray, rfl, hB, hg, hnc, hcm, by simpa using hs, by simpa using ht⟩⟩

set_option maxRecDepth 100000 in
set_option maxHeartbeats 4000000 in
theorem insert_end (ao : Option Addr) (n cap vb B : Nat) (zs : List Cu) (x : Cu) (hl : zs.length = n) (hn : n ≤ 8) (w : World) (hO : w.ownsRow B 36 4 (.slice ao n cap) n (zs.flatMap cuC)) (hX : Blk w vb 36 (cuC x)) (hBw : B ≤ w.heap.size) :
    Calls Tryd.prog 63 #[.slice ao n cap, .int .i64 (n : Nat), .slice (some ⟨vb, 0, none⟩) 1 1] w fun e w' =>
      ∃ v', e = .returned v' ∧ w'.ownsRow B 36 4 v' (n + 1) ((zs ++ [x]).flatMap cuC) ∧ Below B w w' := by
  obtain ⟨i0, hi, hz0, hz1, hz2⟩ := info_parts info_cur
  have HX : Hid (∀ j u, (cuC x)[j]? = some u → w.cell? ((⟨vb, 0, none⟩ : Addr).add j) = some u) := Lib.hid fun j u hj => by
    rw [Addr.add_lit, Nat.zero_add]
    exact hX.cell j hj
  have HO := Lib.hid hO
  have HE := Lib.hid (show zs.flatMap cuC ++ cuC x = (zs ++ [x]).flatMap cuC by rw [List.flatMap_append]; simp)
  cases ao with
  | none =>
    obtain ⟨rfl, rfl⟩ : n = 0 ∧ cap = 0 := by
      rcases hO.2 with ⟨h, h0⟩ | ⟨g, c, cur, h, _⟩
      · injection h with _ e2 e3; exact ⟨e2, e3⟩
      · cases h
    rw [show ((0 : Nat) : Int) = 0 from rfl]
    clear hO hX
    go_enter Tryd.func63, Tryd.ntmps63
    go_wp2_with (at_builtin; refine wpList_append_own _ rfl _ _ 22 rfl B 36 i0 (.agg #[.int .u32 0, .int .i64 0, .int .i64 0, .int .i64 0]) 4 32 Tryd.underlying22 hi hz0 hz1 hz2 rfl (by decide) (.slice none 0 0) 0 _ rfl HO.out ⟨vb, 0, none⟩ 1 1 (cuC x) rfl rfl HX.out (cuC_one x) (by decide) (by decide) hBw ?_; intro v4 w4 hown4 hgrow4 _)
    go_ret
    exact ⟨_, rfl, by first | exact hown4 | (rw [← HE.out]; exact hown4), (Below.refl B w).grown hgrow4 hBw (fun q e => (HO.out.lt q e).1)⟩
  | some ad =>
    obtain ⟨g, rfl⟩ : ∃ g, ad = ⟨g, 0, none⟩ := by
      rcases hO.2 with ⟨h, h0⟩ | ⟨g, c, cur, h, _⟩
      · cases h
      · injection h with e1; injection e1 with e1; exact ⟨g, e1⟩
    have hnc : n ≤ cap := by
      rcases hO.2 with ⟨h, h0⟩ | ⟨g, c, cur, h, _, _, h1, _⟩
      · cases h
      · injection h with _ _ e3; omega
    clear hO hX
    by_cases hcn : cap = n
    · subst hcn
      go_enter Tryd.func63, Tryd.ntmps63
      go_wp2_with (at_builtin; refine wpList_append_own _ rfl _ _ 22 rfl B 36 i0 (.agg #[.int .u32 0, .int .i64 0, .int .i64 0, .int .i64 0]) 4 32 Tryd.underlying22 hi hz0 hz1 hz2 rfl (by decide) (.slice (some ⟨g, 0, none⟩) cap cap) cap _ rfl HO.out ⟨vb, 0, none⟩ 1 1 (cuC x) rfl rfl HX.out (cuC_one x) (by unfold maxLen; omega) (by omega) hBw ?_; intro v4 w4 hown4 hgrow4 _)
      go_ret
      exact ⟨_, rfl, by first | exact hown4 | (rw [← HE.out]; exact hown4), (Below.refl B w).grown hgrow4 hBw (fun q e => (HO.out.lt q e).1)⟩
    · skip
      go_enter Tryd.func63, Tryd.ntmps63
      go_wp2_with (at_builtin; refine wpList_append_own _ rfl _ _ 22 rfl B 36 i0 (.agg #[.int .u32 0, .int .i64 0, .int .i64 0, .int .i64 0]) 4 32 Tryd.underlying22 hi hz0 hz1 hz2 rfl (by decide) (.slice (some ⟨g, 0, none⟩) n cap) n _ rfl HO.out ⟨vb, 0, none⟩ 1 1 (cuC x) rfl rfl HX.out (cuC_one x) (by unfold maxLen; omega) (by omega) hBw ?_; intro v4 w4 hown4 hgrow4 _)
      go_ret
      exact ⟨_, rfl, by first | exact hown4 | (rw [← HE.out]; exact hown4), (Below.refl B w).grown hgrow4 hBw (fun q e => (HO.out.lt q e).1)⟩

set_option maxRecDepth 100000 in
set_option maxHeartbeats 8000000 in
theorem insert_room (g n cap i vb B : Nat) (zs : List Cu) (x : Cu) (hl : zs.length = n) (hn : n ≤ 8) (hin : i < n) (hroom : n + 1 ≤ cap) (w : World) (hO : w.ownsRow B 36 4 (.slice (some ⟨g, 0, none⟩) n cap) n (zs.flatMap cuC)) (hX : Blk w vb 36 (cuC x)) (hne : vb ≠ g) :
    Calls Tryd.prog 63 #[.slice (some ⟨g, 0, none⟩) n cap, .int .i64 (i : Nat), .slice (some ⟨vb, 0, none⟩) 1 1] w fun e w' =>
      ∃ v', e = .returned v' ∧ w'.ownsRow B 36 4 v' (n + 1) ((zs.take i ++ [x] ++ zs.drop i).flatMap cuC) ∧ Below B w w' := by
  obtain ⟨i0, hi, hz0, hz1, hz2⟩ := info_parts info_cur
  have hsz : (Tryd.prog.info? 36).map (·.size) = some 4 := by rw [hi]; simp [hz1]
  obtain ⟨cur, hBg, hg, hcm, hcs, ht⟩ : ∃ cur : Array Value, B ≤ g ∧ w.heap[g]? = some (.cells cur 36 (0, 0)) ∧ cap ≤ maxLen ∧ cur.size = cap * 4 ∧ cur.toList.take (n * 4) = zs.flatMap cuC := by
    rcases hO.2 with ⟨h, h0⟩ | ⟨g', c, cur, h, hb, hh, h1, h2, h3, h4⟩
    · cases h
    · injection h with e1 _ e3
      injection e1 with e1
      injection e1 with e1
      subst e1 e3
      exact ⟨cur, hb, hh, h2, h3, h4⟩
  have hdl : ((zs.drop i).flatMap cuC).length = (n - i) * 4 := by rw [flat4c_len, List.length_drop, hl]
  have hov : ∀ lb cb o, (callFunc 93 #[.slice (some ⟨vb, 0, none⟩) 1 1, .slice (some ⟨g, o, none⟩) lb cb]).run Tryd.prog w = .ok (.value (.bool false)) w := fun lb cb o => overlaps_no w vb g o 1 1 lb cb hne _ hX cur _ hg (by omega)
  have hz1' : ¬ ((i : Int) = (n : Int)) := by omega
  have hb1 : (0 : Int) ≤ (i : Int) + 1 := by omega
  have hb3 : (i : Int) ≤ (n : Int) + 1 := by omega
  have hin' : i ≤ n := by omega
  have htn : ((i : Int) + 1).toNat = i + 1 := by omega
  have hci : ¬ (cap = i) := by omega
  have hw1 : IntKind.i64.wrap ((i : Int) + 1) = (i : Int) + 1 := IntWalk.i64_in _ (by omega)
  have mixed : Tryd.prog.follows Departure.mixedOrders = true := by kernel_rfl
  have hcl : cur.toList.length = cap * 4 := by rw [Array.length_toList]; exact hcs
  have hci1 : ¬ (cap = i + 1) := by omega
  obtain ⟨D, hD⟩ : ∃ D, (zs.drop i).flatMap cuC = D := ⟨_, rfl⟩
  rw [hD] at hdl
  have hDs : ∀ j u, D[j]? = some u → w.cell? ⟨g, i * 4 + j, none⟩ = some u := fun j u hj => by
    have hjl : j < D.length := (List.getElem?_eq_some_iff.1 hj).1
    rw [hO.cellAt (i * 4 + j) (by omega), ← hj, ← hD, ← flat_drop, List.getElem?_drop]
  have hD1 : ∀ v ∈ D, v.oneCell' = true := by rw [← hD]; exact flat4c_one _
  obtain ⟨C1, hC1⟩ : ∃ C1, cur.toList.take ((i + 1) * 4) ++ D ++ cur.toList.drop ((i + 1) * 4 + D.length) = C1 := ⟨_, rfl⟩
  have hC1l : C1.length = cap * 4 := by
    rw [← hC1, List.length_append, List.length_append, List.length_take, List.length_drop]
    omega
  have hcp1 : ∀ ty dc sc, (Builtin.copy_ #[22, 22] ty #[.slice (some ⟨g, (i + 1) * 4, none⟩) (n - i) dc, .slice (some ⟨g, i * 4, none⟩) (n + 1 - i) sc]).run Tryd.prog w.drew = .ok (goInt ((n - i : Nat) : Int)) (w.drew.setRow g C1.toArray) := fun ty dc sc => by
    have h := run_copy4 (P := Tryd.prog) w.drew 22 22 ty 36 g ((i + 1) * 4) (n - i) dc ⟨g, i * 4, none⟩ (n + 1 - i) sc cur 36 D (n - i) Tryd.underlying22 hsz hg (by simp only [Nat.min_def]; split <;> omega) hdl (fun j u hj => by rw [Addr.add_lit]; exact hDs j u hj) (by omega) hD1
    rw [hC1] at h
    exact h
  obtain ⟨W1, hW1⟩ : ∃ W1, w.drew.setRow g C1.toArray = W1 := ⟨_, rfl⟩
  have hg1 : W1.heap[g]? = some (.cells C1.toArray 36 (0, 0)) := by rw [← hW1]; exact setRow_heap w.drew g cur C1.toArray _ _ hg
  have hb1' : Below B w W1 := by rw [← hW1]; exact below_setRow (Below.refl B w).drew hBg _
  have hvs : ∀ j u, (cuC x)[j]? = some u → W1.cell? ⟨vb, j, none⟩ = some u := fun j u hj => by
    rw [← hW1, cell_setRow_other w.drew g C1.toArray ⟨vb, j, none⟩ hne]
    exact hX.cell j hj
  obtain ⟨C2, hC2⟩ : ∃ C2, C1.take (i * 4) ++ cuC x ++ C1.drop (i * 4 + (cuC x).length) = C2 := ⟨_, rfl⟩
  have hcp2 : ∀ ty dc, (Builtin.copy_ #[22, 22] ty #[.slice (some ⟨g, i * 4, none⟩) (n + 1 - i) dc, .slice (some ⟨vb, 0, none⟩) 1 1]).run Tryd.prog W1 = .ok (goInt 1) (W1.setRow g C2.toArray) := fun ty dc => by
    have h := run_copy4 (P := Tryd.prog) W1 22 22 ty 36 g (i * 4) (n + 1 - i) dc ⟨vb, 0, none⟩ 1 1 C1.toArray 36 (cuC x) 1 Tryd.underlying22 hsz hg1 (by simp only [Nat.min_def]; split <;> omega) rfl (fun j u hj => by rw [Addr.add_lit, Nat.zero_add]; exact hvs j u hj) (by rw [List.size_toArray, hC1l, cuC_len]; omega) (cuC_one x)
    rw [show C1.toArray.toList = C1 from rfl, hC2] at h
    exact h
  have hfin : (W1.setRow g C2.toArray).ownsRow B 36 4 (.slice (some ⟨g, 0, none⟩) (n + 1) cap) (n + 1) ((zs.take i ++ [x] ++ zs.drop i).flatMap cuC) := by
    have h1 := ins_list cur.toList D (cuC x) (i * 4) (cuC_len x) (by omega)
    rw [show i * 4 + 4 = (i + 1) * 4 by omega, hC1, hC2] at h1
    have hx : (zs.take i ++ [x] ++ zs.drop i).flatMap cuC = cur.toList.take (i * 4) ++ cuC x ++ D := by
      rw [List.flatMap_append, List.flatMap_append, hD, ← flat_take, ← ht, List.take_take, Nat.min_eq_left (by omega)]
      simp
    have hlen : (cur.toList.take (i * 4) ++ cuC x ++ D).length = (n + 1) * 4 := by
      rw [List.length_append, List.length_append, List.length_take, cuC_len]
      omega
    refine own_new hBg (setRow_heap W1 g C1.toArray C2.toArray _ _ hg1) hroom hcm ?_ (by rw [hx]; exact hlen) ?_
    · rw [h1, List.length_append, hlen, List.length_drop]
      omega
    · rw [h1, hx, ← hlen]
      exact List.take_left
  have HFIN := Lib.hid hfin
  have HB2 := Lib.hid (below_setRow hb1' hBg C2.toArray)
  rw [hW1] at hcp1
  clear hfin hb1' hvs hC1 hC2 hDs hD1 hD hg1 hW1 hg ht hO hX
  go_enter Tryd.func63, Tryd.ntmps63
  go_wp2_with (simp only [hov])
  go_region_law_o (refine step_copy_runI rfl _ _ 22 22 rfl _ _ (by simp [Act.eval, Act.put]) (by simp [Act.eval, Act.put]) (hcp1 _ _ _) ?_)
  go_wp2_with (at_builtin; refine wpList_copy_runI _ rfl _ _ 22 22 rfl _ _ rfl rfl (hcp2 _ _) ?_)
  go_ret
  exact ⟨_, rfl, HFIN.out, HB2.out⟩
end Go.Proofs.YtfoppbignompkaaDoor

namespace Go.Proofs.YtfoppbignompkaaDoor
open Go.RowKit

set_option maxRecDepth 100000 in
set_option maxHeartbeats 8000000 in
theorem insert_grow (g n cap i vb B : Nat) (zs : List Cu) (x : Cu) (hl : zs.length = n) (hn : n ≤ 8) (hin : i < n) (hroom : ¬ n + 1 ≤ cap) (w : World) (hO : w.ownsRow B 36 4 (.slice (some ⟨g, 0, none⟩) n cap) n (zs.flatMap cuC)) (hX : Blk w vb 36 (cuC x)) (hBw : B ≤ w.heap.size) :
    Calls Tryd.prog 63 #[.slice (some ⟨g, 0, none⟩) n cap, .int .i64 (i : Nat), .slice (some ⟨vb, 0, none⟩) 1 1] w fun e w' =>
      ∃ v', e = .returned v' ∧ w'.ownsRow B 36 4 v' (n + 1) ((zs.take i ++ [x] ++ zs.drop i).flatMap cuC) ∧ Below B w w' := by
  obtain ⟨i0, hi, hz0, hzs, hzb⟩ := info_parts info_cur
  have hsz : (Tryd.prog.info? 36).map (·.size) = some 4 := by rw [hi]; simp [hzs]
  have hnc : n ≤ cap := by
    rcases hO.2 with ⟨h, h0⟩ | ⟨g', c, cur, h, _, _, h1, _⟩
    · cases h
    · injection h with _ _ e3; omega
  have hgw : g < w.heap.size := (hO.lt g rfl).2
  have hvw : vb < w.heap.size := hX.lt
  obtain ⟨N, hN⟩ : ∃ N, w.heap.size = N := ⟨_, rfl⟩
  have hdl : ((zs.drop i).flatMap cuC).length = (n - i) * 4 := by rw [flat4c_len, List.length_drop, hl]
  have hz1' : ¬ ((i : Int) = (n : Int)) := by omega
  have hz3 : (cap : Int) < (n : Int) + 1 := by omega
  have hw1 : IntKind.i64.wrap ((i : Int) + 1) = (i : Int) + 1 := IntWalk.i64_in _ (by omega)
  have hb1 : (0 : Int) ≤ (i : Int) + 1 := by omega
  have hb3 : (i : Int) ≤ (n : Int) + 1 := by omega
  have hin' : i ≤ n := by omega
  have hini : (i : Int) ≤ (n : Int) := by omega
  have htn : ((i : Int) + 1).toNat = i + 1 := by omega
  have hci : ¬ (cap = i) := by omega
  have mixed : Tryd.prog.follows Departure.mixedOrders = true := by kernel_rfl
  have hol : ((zs.take i).flatMap cuC).length = i * 4 := by rw [flat4c_len, List.length_take, hl, Nat.min_eq_left hin']
  have hold : (Builtin.firstCells i0.size i (.slice (some ⟨g, 0, none⟩) i cap)).run Tryd.prog w.drew = .ok ((zs.take i).flatMap cuC).toArray w.drew := by
    rw [hzs]
    exact run_firstCells_some w.drew 4 i ⟨g, 0, none⟩ i cap _ hol (fun j v hj => by
      have hjl : j < i * 4 := by rw [← hol]; exact (List.getElem?_eq_some_iff.1 hj).1
      rw [Addr.add_lit, Nat.zero_add]
      have h := hO.cellAt j (by omega)
      rw [← flat_take, List.getElem?_take_of_lt hjl] at hj
      exact h.trans hj)
  obtain ⟨G, hG⟩ : ∃ G, grownCap w (n + 1) cap 36 = G := ⟨_, rfl⟩
  have hGn : n + 1 ≤ G := by rw [← hG]; exact grownCap_ge w _ _ _
  have hGm : G ≤ maxLen := by rw [← hG]; exact grownCap_le_maxLen w (n + 1) cap _ (by unfold maxLen; omega)
  obtain ⟨ROW, hROW⟩ : ∃ ROW : Array Value, ((zs.take i).flatMap cuC).toArray ++ Builtin.zeroCells (Value.agg #[.int .u32 0, .int .i64 0, .int .i64 0, .int .i64 0]).cells (n + 1 - i) ++ Builtin.zeroCells (Value.agg #[.int .u32 0, .int .i64 0, .int .i64 0, .int .i64 0]).cells (G - (n + 1)) = ROW := ⟨_, rfl⟩
  have hRl : ROW.toList.length = G * 4 := by
    rw [← hROW, Array.length_toList, Array.size_append, Array.size_append, size_zeroCells, size_zeroCells, List.size_toArray, hol, show (Value.agg #[.int .u32 0, .int .i64 0, .int .i64 0, .int .i64 0]).cells.size = 4 by simp [Value.cells]]
    omega
  have hRt : ROW.toList.take (i * 4) = (zs.take i).flatMap cuC := by
    rw [← hROW, Array.toList_append, Array.toList_append, List.append_assoc, ← hol]
    exact List.take_left
  have hrz : ∀ ty, (Builtin.append_ #[22, 3] ty #[.slice (some ⟨g, 0, none⟩) i cap, .int .i64 ((n : Int) + 1 - (i : Int))]).run Tryd.prog w = .ok (.slice (some ⟨N, 0, none⟩) (n + 1) G) (w.drew.alloc (.cells ROW 36)) := fun ty => by
    have h := Lib.run_append_grow_zeros (P := Tryd.prog) w 22 3 ty 36 i0 _ .i64 .i64 Tryd.underlying22 Tryd.underlying3 hi hz0 (some ⟨g, 0, none⟩) i cap _ hold (n + 1 - i) (by omega) (by omega) (by omega) (by omega) (by rw [hzb]; omega) (by rw [hzb, show i + (n + 1 - i) = n + 1 by omega]; exact growslice_fits (by omega) (by omega))
    rw [show i + (n + 1 - i) = n + 1 by omega, hG, hROW, hN, show ((n + 1 - i : Nat) : Int) = (n : Int) + 1 - (i : Int) by omega] at h
    exact h
  obtain ⟨W1, hW1⟩ : ∃ W1, w.drew.alloc (.cells ROW 36) = W1 := ⟨_, rfl⟩
  have hgN : W1.heap[N]? = some (.cells ROW 36 (0, 0)) := by rw [← hW1, ← hN]; exact World.alloc_heap_new w.drew _
  have hBl1 : Below w.heap.size w W1 := by rw [← hW1]; exact (Below.refl _ w).drew.alloc (Nat.le_refl _) _
  obtain ⟨D, hD⟩ : ∃ D, (zs.drop i).flatMap cuC = D := ⟨_, rfl⟩
  rw [hD] at hdl
  have hDs : ∀ j u, D[j]? = some u → w.cell? ⟨g, i * 4 + j, none⟩ = some u := fun j u hj => by
    have hjl : j < D.length := (List.getElem?_eq_some_iff.1 hj).1
    rw [hO.cellAt (i * 4 + j) (by omega), ← hj, ← hD, ← flat_drop, List.getElem?_drop]
  have hD1 : ∀ v ∈ D, v.oneCell' = true := by rw [← hD]; exact flat4c_one _
  obtain ⟨C1, hC1⟩ : ∃ C1, ROW.toList.take (i * 4) ++ cuC x ++ ROW.toList.drop (i * 4 + (cuC x).length) = C1 := ⟨_, rfl⟩
  have hC1l : C1.length = G * 4 := by
    rw [← hC1, List.length_append, List.length_append, List.length_take, List.length_drop, cuC_len]
    omega
  have hcpA : ∀ ty dc, (Builtin.copy_ #[22, 22] ty #[.slice (some ⟨N, i * 4, none⟩) (n + 1 - i) dc, .slice (some ⟨vb, 0, none⟩) 1 1]).run Tryd.prog W1 = .ok (goInt 1) (W1.setRow N C1.toArray) := fun ty dc => by
    have h := run_copy4 (P := Tryd.prog) W1 22 22 ty 36 N (i * 4) (n + 1 - i) dc ⟨vb, 0, none⟩ 1 1 ROW 36 (cuC x) 1 Tryd.underlying22 hsz hgN (by simp only [Nat.min_def]; split <;> omega) rfl (fun j u hj => by rw [Addr.add_lit, Nat.zero_add]; exact cellKeep (hX.cell j hj) hBl1) (by rw [← Array.length_toList, hRl, cuC_len]; omega) (cuC_one x)
    rw [hC1] at h
    exact h
  obtain ⟨W2, hW2⟩ : ∃ W2, W1.setRow N C1.toArray = W2 := ⟨_, rfl⟩
  have hgN2 : W2.drew.heap[N]? = some (.cells C1.toArray 36 (0, 0)) := by rw [← hW2]; exact setRow_heap W1 N ROW C1.toArray _ _ hgN
  have hBl2 : Below w.heap.size w W2 := by rw [← hW2]; exact below_setRow hBl1 (by omega) _
  obtain ⟨C2, hC2⟩ : ∃ C2, C1.take ((i + 1) * 4) ++ D ++ C1.drop ((i + 1) * 4 + D.length) = C2 := ⟨_, rfl⟩
  have hcpB : ∀ ty dc sc, (Builtin.copy_ #[22, 22] ty #[.slice (some ⟨N, (i + 1) * 4, none⟩) (n - i) dc, .slice (some ⟨g, i * 4, none⟩) (n - i) sc]).run Tryd.prog W2.drew = .ok (goInt ((n - i : Nat) : Int)) (W2.drew.setRow N C2.toArray) := fun ty dc sc => by
    have h := run_copy4 (P := Tryd.prog) W2.drew 22 22 ty 36 N ((i + 1) * 4) (n - i) dc ⟨g, i * 4, none⟩ (n - i) sc C1.toArray 36 D (n - i) Tryd.underlying22 hsz hgN2 (Nat.min_self _).symm hdl (fun j u hj => by rw [Addr.add_lit]; exact cellKeep (hDs j u hj) hBl2.drew) (by rw [List.size_toArray, hC1l]; omega) hD1
    rw [show C1.toArray.toList = C1 from rfl, hC2] at h
    exact h
  have hfin : (W2.drew.setRow N C2.toArray).ownsRow B 36 4 (.slice (some ⟨N, 0, none⟩) (n + 1) G) (n + 1) ((zs.take i ++ [x] ++ zs.drop i).flatMap cuC) := by
    have h1 := ins_list2 ROW.toList D (cuC x) (i * 4) (cuC_len x) (by omega)
    rw [show i * 4 + 4 = (i + 1) * 4 by omega, hC1, hC2, hRt] at h1
    have hx : (zs.take i ++ [x] ++ zs.drop i).flatMap cuC = (zs.take i).flatMap cuC ++ cuC x ++ D := by
      rw [List.flatMap_append, List.flatMap_append, hD]
      simp
    have hlen : ((zs.take i).flatMap cuC ++ cuC x ++ D).length = (n + 1) * 4 := by
      rw [List.length_append, List.length_append, hol, cuC_len]
      omega
    refine own_new (by omega) (setRow_heap W2.drew N C1.toArray C2.toArray _ _ hgN2) hGn hGm ?_ (by rw [hx]; exact hlen) ?_
    · rw [h1, List.length_append, hlen, List.length_drop]
      omega
    · rw [h1, hx, ← hlen]
      exact List.take_left
  have HFIN := Lib.hid hfin
  have HB2 := Lib.hid (below_setRow (hBl2.mono hBw).drew (show B ≤ N by omega) C2.toArray)
  rw [hW1] at hrz
  rw [hW2] at hcpA
  have hGi : ¬ (G = i) := by omega
  have hGi1 : ¬ (G = i + 1) := by omega
  have hwk : IntKind.i64.wrap ((n : Int) + 1 - (i : Int)) = (n : Int) + 1 - (i : Int) := IntWalk.i64_in _ (by omega)
  clear hfin hC1 hC2 hDs hD1 hD hgN hgN2 hBl1 hBl2 hW1 hW2 hROW hRl hRt hG hold hO hX hN
  go_enter Tryd.func63, Tryd.ntmps63
  go_wp2_with (first
    | (at_builtin; refine Lib.wpList_append_run _ rfl _ _ _ _ rfl _ _ rfl rfl _ _ (hrz _) ?_)
    | (at_builtin; refine wpList_copy_runI _ rfl _ _ 22 22 rfl _ _ rfl rfl (hcpA _ _) ?_))
  go_region_law_o (refine step_copy_runI rfl _ _ 22 22 rfl _ _ (by simp [Act.eval, Act.put]) (by simp [Act.eval, Act.put]) (hcpB _ _ _) ?_)
  go_wp2_with fail
  go_ret
  exact ⟨_, rfl, HFIN.out, HB2.out⟩

/-- the three ways in one -/
theorem insert_any (ao : Option Addr) (n cap i vb B : Nat) (zs : List Cu) (x : Cu) (hl : zs.length = n) (hn : n ≤ 8) (hin : i ≤ n) (w : World) (hO : w.ownsRow B 36 4 (.slice ao n cap) n (zs.flatMap cuC)) (hX : Blk w vb 36 (cuC x)) (hne : ∀ g, (Value.slice ao n cap).ownBlock = some g → vb ≠ g) (hBw : B ≤ w.heap.size) :
    Calls Tryd.prog 63 #[.slice ao n cap, .int .i64 (i : Nat), .slice (some ⟨vb, 0, none⟩) 1 1] w fun e w' =>
      ∃ v', e = .returned v' ∧ w'.ownsRow B 36 4 v' (n + 1) ((zs.take i ++ [x] ++ zs.drop i).flatMap cuC) ∧ Below B w w' := by
  rcases Nat.lt_or_ge i n with h | h
  · obtain ⟨g, c, e, _, _⟩ := (HRow.of_own hO).form1 (by omega)
    injection e with e1 e2 e3
    subst e1 e3
    by_cases hroom : n + 1 ≤ cap
    · exact insert_room g n cap i vb B zs x hl hn h hroom w hO hX (hne g rfl)
    · exact insert_grow g n cap i vb B zs x hl hn h hroom w hO hX hBw
  · obtain rfl : i = n := by omega
    rw [List.take_of_length_le (by omega), List.drop_of_length_le (by omega), List.append_nil]
    exact insert_end ao i cap vb B zs x hl hn w hO hX hBw
end Go.Proofs.YtfoppbignompkaaDoor

namespace Go.Proofs.YtfoppbignompkaaDoor
open Go.RowKit

/-- 'append' as one step of a region that draws, where its run is known by an equation -/
theorem step_append_runI {P : Program} {ops : Array Oper} {o : Oper} {a : Act} {w : World} {K : Act → World → Prop} {Q : Exit → Act → World → Prop} {E : Prop}
    (hg : o.guard = none) (d x : Operand) (dT sT : TypeId) (hop : o.op = Op.call { callee := Callee.builtin Builtin.append, args := #[d, x], argTypes := #[dT, sT] })
    (v u : Value) (hd : a.eval d = v) (hx : a.eval x = u) {v' : Value} {w' : World} (hr : (Builtin.append_ #[dT, sT] o.type #[v, u]).run P w = .ok v' w') (hK : K (a.put o.dst v') w') :
    if Region.wanted o (yielded ops a.tmps) = true then Oper.wp P o a w K Q else E := by
  have hw : Region.wanted o (yielded ops a.tmps) = true := by simp [Region.wanted, hg]
  rw [if_pos hw]
  unfold Oper.wp
  simp [execOp, hop, resolve, invoke, builtin, hd, hx, hr, Result.andThen]
  exact hK
theorem wpList_clear_runI {P : Program} (w : World) {ops : Array Oper} {rest : List Oper} {o : Oper} {a : Act} {Q : Exit → Act → World → Prop} (hgd : o.guard = none) (s : Operand) (t : TypeId)
    (ho : o.op = .call { callee := .builtin .clear, args := #[s], argTypes := #[t] }) (v : Value) (hs : a.eval s = v) {v' : Value} {w' : World}
    (hr : (Builtin.clear_ #[t] o.type #[v]).run P w = .ok v' w') (h : wpList P ops Q rest (a.put o.dst v') w') : wpList P ops Q (o :: rest) a w := by
  refine wpList_plain hgd fun _ hK => ?_
  unfold Oper.wp execOp
  simp only [ho, resolve, invoke, builtin, Sem.run_bind, Sem.run_pure, Result.andThen_ok, List.map_toArray, List.map_cons, List.map_nil, hs, hr]
  exact hK _ _ h
theorem del_list {α : Type} (cur R Z : List α) (k m : Nat) (hk : k + 4 + m = R.length) (hc : cur.take R.length = R) :
    ((cur.take k ++ R.drop (k + 4) ++ cur.drop (k + m)).take (k + m) ++ Z ++ (cur.take k ++ R.drop (k + 4) ++ cur.drop (k + m)).drop (k + m + Z.length)).take (k + m) = R.take k ++ R.drop (k + 4) := by
  have e1 : cur.take k = R.take k := by rw [← hc, List.take_take, Nat.min_eq_left (by omega)]
  have e2 : (R.take k ++ R.drop (k + 4)).length = k + m := by rw [List.length_append, List.length_take, List.length_drop]; omega
  rw [e1]
  rw [show (R.take k ++ R.drop (k + 4) ++ cur.drop (k + m)).take (k + m) = R.take k ++ R.drop (k + 4) from by rw [← e2]; exact List.take_left]
  rw [List.append_assoc, ← e2]
  exact List.take_left

set_option maxRecDepth 100000 in
set_option maxHeartbeats 8000000 in
theorem delete_any (g n cap i B : Nat) (zs : List Cu) (hl : zs.length = n) (hn : n ≤ 8) (hin : i < n) (w : World) (hO : w.ownsRow B 36 4 (.slice (some ⟨g, 0, none⟩) n cap) n (zs.flatMap cuC)) :
    Calls Tryd.prog 64 #[.slice (some ⟨g, 0, none⟩) n cap, .int .i64 (i : Nat), .int .i64 ((i : Int) + 1)] w fun e w' =>
      ∃ v', e = .returned v' ∧ w'.ownsRow B 36 4 v' (n - 1) ((zs.take i ++ zs.drop (i + 1)).flatMap cuC) ∧ Below B w w' := by
  obtain ⟨i0, hi, hz0, hz1, hz2⟩ := info_parts info_cur
  obtain ⟨cur, hBg, hg, hnc, hcm, hcs, ht⟩ : ∃ cur : Array Value, B ≤ g ∧ w.heap[g]? = some (.cells cur 36 (0, 0)) ∧ n ≤ cap ∧ cap ≤ maxLen ∧ cur.size = cap * 4 ∧ cur.toList.take (n * 4) = zs.flatMap cuC := by
    rcases hO.2 with ⟨h, h0⟩ | ⟨g', c, cur, h, hb, hh, h1, h2, h3, h4⟩
    · cases h
    · injection h with e1 _ e3
      injection e1 with e1
      injection e1 with e1
      subst e1 e3
      exact ⟨cur, hb, hh, h1, h2, h3, h4⟩
  have hRl : (zs.flatMap cuC).length = n * 4 := by rw [flat4c_len, hl]
  have hcl' : cur.toList.length = cap * 4 := by rw [Array.length_toList]; exact hcs
  obtain ⟨m, hm⟩ : ∃ m, n - (i + 1) = m := ⟨_, rfl⟩
  have hn1 : i + m = n - 1 := by omega
  obtain ⟨D, hD⟩ : ∃ D, (zs.flatMap cuC).drop ((i + 1) * 4) = D := ⟨_, rfl⟩
  have hdl : D.length = m * 4 := by rw [← hD, List.length_drop, hRl]; omega
  have hDs : ∀ j u, D[j]? = some u → w.cell? ⟨g, (i + 1) * 4 + j, none⟩ = some u := fun j u hj => by
    have hjl : j < D.length := (List.getElem?_eq_some_iff.1 hj).1
    rw [hO.cellAt ((i + 1) * 4 + j) (by omega), ← hj, ← hD, List.getElem?_drop]
  have hD1 : ∀ v ∈ D, v.oneCell' = true := by rw [← hD]; exact fun v hv => flat4c_one _ v (List.mem_of_mem_drop hv)
  obtain ⟨C1, hC1⟩ : ∃ C1, cur.toList.take (i * 4) ++ D ++ cur.toList.drop (i * 4 + D.length) = C1 := ⟨_, rfl⟩
  have hC1l : C1.length = cap * 4 := by
    rw [← hC1, List.length_append, List.length_append, List.length_take, List.length_drop]
    omega
  obtain ⟨W1, hW1⟩ : ∃ W1, w.drew.setRow g C1.toArray = W1 := ⟨_, rfl⟩
  have hg1 : W1.heap[g]? = some (.cells C1.toArray 36 (0, 0)) := by rw [← hW1]; exact setRow_heap w.drew g cur C1.toArray _ _ hg
  have happ : ∀ (ad : Addr) ty c, (∀ j u, D[j]? = some u → w.cell? (ad.add j) = some u) → (Builtin.append_ #[22, 22] ty #[.slice (some ⟨g, 0, none⟩) i cap, .slice (some ad) m c]).run Tryd.prog w.drew = .ok (.slice (some ⟨g, 0, none⟩) (n - 1) cap) W1 := fun ad ty c hs => by
    have h := run_append_room (P := Tryd.prog) (w := w.drew) (ty := ty) 22 36 i0 Tryd.underlying22 hi g i cap cur hg ad m c D (by rw [hz1]; exact hdl) hs hD1 (by omega) (by rw [hz1, hcs]; omega)
    rw [hz1, hC1, hW1, hn1] at h
    exact h
  obtain ⟨Z, hZ⟩ : ∃ Z, (Builtin.zeroCells (Value.agg #[.int .u32 0, .int .i64 0, .int .i64 0, .int .i64 0]).cells 1).toList = Z := ⟨_, rfl⟩
  have hZe : Z = [.int .u32 0, .int .i64 0, .int .i64 0, .int .i64 0] := by rw [← hZ]; kernel_rfl
  have hZl : Z.length = 4 := by rw [hZe]; rfl
  obtain ⟨C2, hC2⟩ : ∃ C2, C1.take ((n - 1) * 4) ++ Z ++ C1.drop ((n - 1) * 4 + Z.length) = C2 := ⟨_, rfl⟩
  have hcl : ∀ ty c, (Builtin.clear_ #[22] ty #[.slice (some ⟨g, (n - 1) * 4, none⟩) 1 c]).run Tryd.prog W1 = .ok (.tuple #[]) (W1.setRow g C2.toArray) := fun ty c => by
    have h := run_clear4 (P := Tryd.prog) W1 22 ty 36 i0 _ Tryd.underlying22 hi hz0 g ((n - 1) * 4) c C1.toArray 36 Z hZ hg1 (by rw [List.size_toArray, hC1l]; omega) (by rw [hZe]; exact cuC_one (0, 0, 0, 0))
    rw [show C1.toArray.toList = C1 from rfl, hC2] at h
    exact h
  have hfin : (W1.setRow g C2.toArray).ownsRow B 36 4 (.slice (some ⟨g, 0, none⟩) (n - 1) cap) (n - 1) ((zs.take i ++ zs.drop (i + 1)).flatMap cuC) := by
    have h1 := del_list cur.toList (zs.flatMap cuC) Z (i * 4) (m * 4) (by omega) (by rw [hRl]; exact ht)
    rw [show i * 4 + 4 = (i + 1) * 4 by omega, hD, show i * 4 + m * 4 = (n - 1) * 4 by omega] at h1
    rw [show i * 4 + D.length = (n - 1) * 4 by omega] at hC1
    rw [hC1, hC2] at h1
    have hx : (zs.take i ++ zs.drop (i + 1)).flatMap cuC = (zs.flatMap cuC).take (i * 4) ++ D := by
      rw [List.flatMap_append, ← flat_take, ← flat_drop, hD]
    refine own_new hBg (setRow_heap W1 g C1.toArray C2.toArray _ _ hg1) (by omega) hcm ?_ ?_ ?_
    · rw [← hC2, List.length_append, List.length_append, List.length_take, List.length_drop]
      omega
    · rw [hx, List.length_append, List.length_take]
      omega
    · rw [h1, hx]
  have HFIN := Lib.hid hfin
  have HB2 := Lib.hid (below_setRow (show Below B w W1 by rw [← hW1]; exact below_setRow (Below.refl B w).drew hBg _) hBg C2.toArray)
  have mixed : Tryd.prog.follows Departure.mixedOrders = true := by kernel_rfl
  have hij : ¬ ((i : Int) = (i : Int) + 1) := by omega
  have hw1 : IntKind.i64.wrap ((i : Int) + 1) = (i : Int) + 1 := IntWalk.i64_in _ (by omega)
  have hb1 : (0 : Int) ≤ (i : Int) + 1 := by omega
  have hb2 : (i : Int) + 1 ≤ (n : Int) := by omega
  have hb3 : (n : Int) ≤ (cap : Int) := by omega
  have hb4 : (i : Int) ≤ (i : Int) + 1 := by omega
  have htn : ((i : Int) + 1).toNat = i + 1 := by omega
  have hic : i ≤ cap := by omega
  have hnn : n - (n - 1) = 1 := by omega
  have hci : ¬ (cap = i) := by omega
  have hcn1 : ¬ (cap = n - 1) := by omega
  have hn1i : ((n - 1 : Nat) : Int) ≤ (n : Int) := by omega
  by_cases hce : cap = i + 1
  · subst hce
    have hm0 : m = 0 := by omega
    subst hm0
    have hD0 : D = [] := List.length_eq_zero_iff.1 (by omega)
    have hap := fun ty c => happ ⟨g, 0, none⟩ ty c (fun j u hj => by rw [hD0] at hj; cases hj)
    clear hfin hC1 hC2 hDs hD1 hD hD0 hg1 hW1 hg hO ht hZ hZe happ
    go_enter Tryd.func64, Tryd.ntmps64
    go_wp2_with fail
    go_region_law_o (refine step_append_runI (by rfl) _ _ 22 22 (by rfl) (.slice (some ⟨g, 0, none⟩) i (i + 1)) (.slice (some ⟨g, 0, none⟩) 0 (i + 1 - (i + 1))) (by simp [Act.eval, Act.put]) (by simp [Act.eval, Act.put]) (hap 22 (i + 1 - (i + 1))) ?_)
    go_wp2_with (at_builtin; refine wpList_clear_runI _ rfl _ 22 rfl _ rfl (hcl _ _) ?_)
    go_ret
    exact ⟨_, rfl, HFIN.out, HB2.out⟩
  · have hap := fun ty c => happ ⟨g, (i + 1) * 4, none⟩ ty c (fun j u hj => by rw [Addr.add_lit]; exact hDs j u hj)
    clear hfin hC1 hC2 hDs hD1 hD hg1 hW1 hg hO ht hZ hZe happ
    go_enter Tryd.func64, Tryd.ntmps64
    go_wp2_with fail
    go_region_law_o (refine step_append_runI (by rfl) _ _ 22 22 (by rfl) (.slice (some ⟨g, 0, none⟩) i cap) (.slice (some ⟨g, (i + 1) * 4, none⟩) m (cap - (i + 1))) (by simp [Act.eval, Act.put]) (by simp [Act.eval, Act.put]) (hap 22 (cap - (i + 1))) ?_)
    go_wp2_with (at_builtin; refine wpList_clear_runI _ rfl _ 22 rfl _ rfl (hcl _ _) ?_)
    go_ret
    exact ⟨_, rfl, HFIN.out, HB2.out⟩
end Go.Proofs.YtfoppbignompkaaDoor

namespace Go.Proofs.YtfoppbignompkaaDoor
open Go.RowKit

/-- a list with a cursor put in -/
def setL (zs : List Cu) (c : Cu) : List Cu := zs.take (findN zs c.1) ++ [c] ++ zs.drop (if hasN zs c.1 = true then findN zs c.1 + 1 else findN zs c.1)
def setV (zs : List Cu) (c : Cu) : Int × List Cu := if wrongN zs ≠ 0 then (wrongN zs, []) else if lowC c = true then (200, []) else if hasN zs c.1 = false ∧ zs.length = 8 then (201, []) else (0, setL zs c)
def unsetV (zs : List Cu) (id : Int) : Int × List Cu := if wrongN zs ≠ 0 then (wrongN zs, []) else if hasN zs id = false then (200, []) else (0, zs.take (findN zs id) ++ zs.drop (findN zs id + 1))
theorem has_lt {zs : List Cu} {id : Int} (h : hasN zs id = true) : findN zs id < zs.length := (of_decide_eq_true h).1
theorem setL_has {zs : List Cu} {c : Cu} (h : hasN zs c.1 = true) : setL zs c = zs.set (findN zs c.1) c := by
  unfold setL
  rw [if_pos h, List.set_eq_take_append_cons_drop, if_pos (has_lt h)]
  simp
theorem setL_not {zs : List Cu} {c : Cu} (h : hasN zs c.1 = false) : setL zs c = zs.take (findN zs c.1) ++ [c] ++ zs.drop (findN zs c.1) := by
  unfold setL
  rw [if_neg (by rw [h]; simp)]
theorem setL_len (zs : List Cu) (c : Cu) : (setL zs c).length = if hasN zs c.1 = true then zs.length else zs.length + 1 := by
  have hl := find_le zs c.1
  by_cases h : hasN zs c.1 = true
  · rw [if_pos h, setL_has h, List.length_set]
  · have h' : hasN zs c.1 = false := by cases hh : hasN zs c.1; rfl; exact absurd hh h
    rw [if_neg h, setL_not h']
    simp only [List.length_append, List.length_take, List.length_drop, List.length_cons, List.length_nil]
    omega
theorem setV_len (zs : List Cu) (c : Cu) : (setV zs c).2.length ≤ 8 := by
  unfold setV
  by_cases her : wrongN zs ≠ 0
  · rw [if_pos her]; exact Nat.zero_le _
  · have h8 := (wrongN_zero (zs := zs) (by omega)).1
    rw [if_neg her]
    split
    · exact Nat.zero_le _
    · split
      · exact Nat.zero_le _
      · rename_i h1 h2
        show (setL zs c).length ≤ 8
        rw [setL_len]
        split
        · exact h8
        · rename_i h3
          have : hasN zs c.1 = false := by cases hh : hasN zs c.1; rfl; exact absurd hh h3
          have : zs.length ≠ 8 := fun e => h2 ⟨this, e⟩
          omega
theorem unsetV_len (zs : List Cu) (id : Int) : (unsetV zs id).2.length ≤ 8 := by
  unfold unsetV
  by_cases her : wrongN zs ≠ 0
  · rw [if_pos her]; exact Nat.zero_le _
  · have h8 := (wrongN_zero (zs := zs) (by omega)).1
    rw [if_neg her]
    split
    · exact Nat.zero_le _
    · show (zs.take (findN zs id) ++ zs.drop (findN zs id + 1)).length ≤ 8
      rw [List.length_append, List.length_take, List.length_drop]
      omega
theorem flat_set4 (L : List Cu) (p : Nat) (hp : p < L.length) (c : Cu) :
    ((((L.flatMap cuC).set (p * 4) (.int .u32 c.1)).set (p * 4 + 1) (.int .i64 c.2.1)).set (p * 4 + 2) (.int .i64 c.2.2.1)).set (p * 4 + 3) (.int .i64 c.2.2.2) = (L.set p c).flatMap cuC := by
  obtain ⟨i, a, d, g⟩ := c
  obtain ⟨z, hz⟩ : ∃ z, L[p]?.getD cuZ = z := ⟨_, rfl⟩
  obtain ⟨zi, za, zd, zg⟩ := z
  have h0 := flat4c_set L p 0 (i, za, zd, zg) (.int .u32 i) hp (by omega) (by rw [hz]; rfl)
  rw [Nat.add_zero] at h0
  rw [h0, flat4c_set _ p 1 (i, a, zd, zg) (.int .i64 a) (by rw [List.length_set]; exact hp) (by omega) (by rw [List.getElem?_set_self hp]; rfl), List.set_set,
    flat4c_set _ p 2 (i, a, d, zg) (.int .i64 d) (by rw [List.length_set]; exact hp) (by omega) (by rw [List.getElem?_set_self hp]; rfl), List.set_set,
    flat4c_set _ p 3 (i, a, d, g) (.int .i64 g) (by rw [List.length_set]; exact hp) (by omega) (by rw [List.getElem?_set_self hp]; rfl), List.set_set]

theorem own_some {w : World} {base e n g c : Nat} {xs : List Value} (h : w.ownsRow base e 4 (.slice (some ⟨g, 0, none⟩) n c) n xs) (j : Nat) (hj : j < n * 4) : ∃ u, w.cell? ⟨g, j, none⟩ = some u :=
  ⟨_, (h.cellAt j hj).trans (List.getElem?_eq_getElem (by have := h.1; omega))⟩

theorem Blk.newC (w : World) (i a d g : Int) : Blk (w.alloc (.cells #[.int .u32 i, .int .i64 a, .int .i64 d, .int .i64 g] 36)) w.heap.size 36 (cuC (i, a, d, g)) := Blk.new w 36 [.int .u32 i, .int .i64 a, .int .i64 d, .int .i64 g]
set_option maxRecDepth 100000 in
set_option maxHeartbeats 8000000 in
theorem set_any (ao : Option Addr) (cap : Nat) (zs : List Cu) (n : Nat) (hl : zs.length = n) (hn : n ≤ 140737488351232) (hnil : ao = none → n = 0) (c : Cu) (w : World) (hR : ReadsC w ao zs) :
    Calls Tryd.prog 36 #[.slice ao n cap, .agg #[.int .u32 c.1, .int .i64 c.2.1, .int .i64 c.2.2.1, .int .i64 c.2.2.2]] w fun e w' =>
      ∃ v, e = .returned (.tuple #[v, .int .i64 (setV zs c).1]) ∧ w'.ownsRow w.heap.size 36 4 v (setV zs c).2.length ((setV zs c).2.flatMap cuC) ∧ Below w.heap.size w w' := by
  have HW := Lib.hid (fun w hR => cwrong_any ao cap zs n hl hn w hR)
  have HR := Lib.hid hR
  have HLO := Lib.hid (fun w => low_cu c w)
  obtain ⟨er, her⟩ : ∃ er, wrongN zs = er := ⟨_, rfl⟩
  rw [her] at HW
  by_cases h0 : er = 0
  · subst h0
    obtain ⟨lo, hlo⟩ : ∃ lo, lowC c = lo := ⟨_, rfl⟩
    rw [hlo] at HLO
    cases lo
    · have hn8 := (wrongN_zero her).1
      rw [hl] at hn8
      have HF := Lib.hid (fun w hR => find_any ao cap zs n hl hn8 (sorted_of her) c.1 w hR)
      have HCL := Lib.hid (fun w hR => clone_any ao cap zs n hl (by omega) hnil w hR)
      have hp := find_le zs c.1
      rw [hl] at hp
      obtain ⟨q, hq⟩ : ∃ q, hasN zs c.1 = q := ⟨_, rfl⟩
      have HV := Lib.hid (show setV zs c = if hasN zs c.1 = false ∧ zs.length = 8 then (201, []) else (0, setL zs c) by unfold setV; rw [if_neg (by rw [her]; simp), if_neg (by rw [hlo]; simp)])
      rw [hq, hl] at HV
      rw [hq] at HF
      cases q
      · have HSL := Lib.hid (setL_not hq)
        have HIN := Lib.hid (fun (ao : Option Addr) (cap vb : Nat) (w' : World) hO hX hne hBw => insert_any ao n cap (findN zs c.1) vb w.heap.size zs c hl hn8 hp w' hO hX hne hBw)
        have HLEN := Lib.hid (show (setL zs c).length = n + 1 by rw [setL_len, if_neg (by rw [hq]; simp), hl])
        obtain ⟨p, hpe⟩ : ∃ p, findN zs c.1 = p := ⟨_, rfl⟩
        rw [hpe] at HF HIN hp HSL
        obtain ⟨i, a, d, g⟩ := c
        simp only at HLO HF HIN
        by_cases hn8' : n = 8
        · have HV2 := Lib.hid (show setV zs (i, a, d, g) = (201, []) by rw [HV.out, if_pos ⟨rfl, hn8'⟩])
          have hn8i : (n : Int) = 8 := by omega
          clear hl hnil hR her hlo hq hpe hn8'
          have K0 := Blk.new w 36 [.int .u32 i, .int .i64 a, .int .i64 d, .int .i64 g]
          have hb0 : Below w.heap.size w _ := al (Below.refl _ _) (.cells #[.int .u32 i, .int .i64 a, .int .i64 d, .int .i64 g] 36)
          obtain ⟨W, hW⟩ : ∃ W, w.alloc (.cells #[.int .u32 i, .int .i64 a, .int .i64 d, .int .i64 g] 36) = W := ⟨_, rfl⟩
          replace K0 : Blk W w.heap.size 36 [.int .u32 i, .int .i64 a, .int .i64 d, .int .i64 g] := hW ▸ K0
          replace hb0 : Below w.heap.size w W := hW ▸ hb0
          go_enter Tryd.func36, Tryd.ntmps36
          go_wp2_with (first
              | (go_at_call 40; (with_reducible refine (HW.out _ (HR.out.below hb0)).mono ?_); rintro e w1 ⟨rfl, hb1⟩; have K1 := Lib.hid (K0.below hb1); have a0 := K1.out.cell 0 rfl; have a1 := K1.out.cell 1 rfl; have a2 := K1.out.cell 2 rfl; have a3 := K1.out.cell 3 rfl; have hB1 := Lib.hid (nx hb0 hb1))
              | (go_at_call 45; (with_reducible refine (HLO.out _).mono ?_); rintro e w2 ⟨rfl, hb2⟩; have K2 := Lib.hid (K1.out.below hb2); have b0 := K2.out.cell 0 rfl; have b1 := K2.out.cell 1 rfl; have b2 := K2.out.cell 2 rfl; have b3 := K2.out.cell 3 rfl; have hB2 := Lib.hid (nx hB1.out hb2))
              | (go_at_call 62; (with_reducible refine (HF.out _ (HR.out.below hB2.out)).mono ?_); rintro e w3 ⟨rfl, hb3⟩; have K3 := Lib.hid (K2.out.below hb3); have hB3 := Lib.hid (nx hB2.out hb3))
              | (go_at_call 41; (with_reducible refine (HCL.out _ (HR.out.below hB3.out)).mono ?_); rintro e w4 ⟨v4, rfl, ho4, hb4⟩; have hB4 := Lib.hid (nx hB3.out hb4); have K4 := Lib.hid (K3.out.below hb4); have hO4 := Lib.hid (owns_base ho4 hB3.out.size); clear ho4))
          go_ret2
          exact ⟨.slice none 0 0, by rw [HV2.out]; rfl, by rw [HV2.out]; exact World.ownsRow_nil _ _ _ _, hB4.out⟩
        · have HV2 := Lib.hid (show setV zs (i, a, d, g) = (0, setL zs (i, a, d, g)) by rw [HV.out, if_neg (by omega)])
          have hn8i : ((n : Int) == 8) = false := beq_eq_false_iff_ne.2 (by omega)
          clear hl hnil hR her hlo hq hpe hn8'
          have K0 := Blk.new w 36 [.int .u32 i, .int .i64 a, .int .i64 d, .int .i64 g]
          have hb0 : Below w.heap.size w _ := al (Below.refl _ _) (.cells #[.int .u32 i, .int .i64 a, .int .i64 d, .int .i64 g] 36)
          obtain ⟨W, hW⟩ : ∃ W, w.alloc (.cells #[.int .u32 i, .int .i64 a, .int .i64 d, .int .i64 g] 36) = W := ⟨_, rfl⟩
          replace K0 : Blk W w.heap.size 36 [.int .u32 i, .int .i64 a, .int .i64 d, .int .i64 g] := hW ▸ K0
          replace hb0 : Below w.heap.size w W := hW ▸ hb0
          go_enter Tryd.func36, Tryd.ntmps36
          go_wp2_with (first
              | (go_at_call 40; (with_reducible refine (HW.out _ (HR.out.below hb0)).mono ?_); rintro e w1 ⟨rfl, hb1⟩; have K1 := Lib.hid (K0.below hb1); have a0 := K1.out.cell 0 rfl; have a1 := K1.out.cell 1 rfl; have a2 := K1.out.cell 2 rfl; have a3 := K1.out.cell 3 rfl; have hB1 := Lib.hid (nx hb0 hb1))
              | (go_at_call 45; (with_reducible refine (HLO.out _).mono ?_); rintro e w2 ⟨rfl, hb2⟩; have K2 := Lib.hid (K1.out.below hb2); have b0 := K2.out.cell 0 rfl; have b1 := K2.out.cell 1 rfl; have b2 := K2.out.cell 2 rfl; have b3 := K2.out.cell 3 rfl; have hB2 := Lib.hid (nx hB1.out hb2))
              | (go_at_call 62; (with_reducible refine (HF.out _ (HR.out.below hB2.out)).mono ?_); rintro e w3 ⟨rfl, hb3⟩; have K3 := Lib.hid (K2.out.below hb3); have hB3 := Lib.hid (nx hB2.out hb3))
              | (go_at_call 41; (with_reducible refine (HCL.out _ (HR.out.below hB3.out)).mono ?_); rintro e w4 ⟨v4, rfl, ho4, hb4⟩; have hB4 := Lib.hid (nx hB3.out hb4); have K4 := Lib.hid (K3.out.below hb4); have hO4 := Lib.hid (owns_base ho4 hB3.out.size); clear ho4; obtain ⟨a4, c4, rfl⟩ := (HRow.of_own hO4.out).form; have k0 := K4.out.cell 0 rfl; have k1 := K4.out.cell 1 rfl; have k2 := K4.out.cell 2 rfl; have k3 := K4.out.cell 3 rfl)
              | (go_at_call 63; (with_reducible refine (HIN.out a4 c4 w4.heap.size (w4.alloc (.cells #[.int .u32 i, .int .i64 a, .int .i64 d, .int .i64 g] 36)) (hO4.out.alloc _) (Blk.newC w4 i a d g) (fun q e => by have := (hO4.out.lt q e).2; omega) (by rw [World.size_alloc]; exact Nat.le_succ_of_le hB4.out.size)).mono ?_); rintro e w5 ⟨v5, rfl, ho5, hb5⟩; have hB5 := (al hB4.out (.cells #[.int .u32 i, .int .i64 a, .int .i64 d, .int .i64 g] 36)).trans hb5; have hO5 := Lib.hid ho5; clear ho5 hb5))
          go_ret2
          refine ⟨_, by rw [HV2.out]; rfl, ?_, hB5⟩
          rw [HV2.out]
          show w5.ownsRow _ _ _ _ (setL zs (i, a, d, g)).length ((setL zs (i, a, d, g)).flatMap cuC)
          rw [HLEN.out, HSL.out]
          exact hO5.out
      · have HSL := Lib.hid (setL_has hq)
        have hpl := has_lt hq
        have hpl' := hpl
        rw [hl] at hpl'
        have HLEN := Lib.hid (show (setL zs c).length = n by rw [setL_len, if_pos hq, hl])
        have HS4 := Lib.hid (flat_set4 zs (findN zs c.1) hpl c)
        obtain ⟨p, hpe⟩ : ∃ p, findN zs c.1 = p := ⟨_, rfl⟩
        rw [hpe] at HF hp HSL HS4 hpl'
        obtain ⟨i, a, d, g⟩ := c
        simp only at HLO HF HS4
        have HV2 := Lib.hid (show setV zs (i, a, d, g) = (0, setL zs (i, a, d, g)) by rw [HV.out, if_neg (by simp)])
        have hpi : (p : Int) < (n : Int) := by omega
        have hp0 : (0 : Int) ≤ (p : Int) := by omega
        have HZL := Lib.hid hl
        clear hl hnil hR her hlo hq hpe hpl
        have K0 := Blk.new w 36 [.int .u32 i, .int .i64 a, .int .i64 d, .int .i64 g]
        have hb0 : Below w.heap.size w _ := al (Below.refl _ _) (.cells #[.int .u32 i, .int .i64 a, .int .i64 d, .int .i64 g] 36)
        obtain ⟨W, hW⟩ : ∃ W, w.alloc (.cells #[.int .u32 i, .int .i64 a, .int .i64 d, .int .i64 g] 36) = W := ⟨_, rfl⟩
        replace K0 : Blk W w.heap.size 36 [.int .u32 i, .int .i64 a, .int .i64 d, .int .i64 g] := hW ▸ K0
        replace hb0 : Below w.heap.size w W := hW ▸ hb0
        go_enter Tryd.func36, Tryd.ntmps36
        go_wp2_with (first
            | (go_at_call 40; (with_reducible refine (HW.out _ (HR.out.below hb0)).mono ?_); rintro e w1 ⟨rfl, hb1⟩; have K1 := Lib.hid (K0.below hb1); have a0 := K1.out.cell 0 rfl; have a1 := K1.out.cell 1 rfl; have a2 := K1.out.cell 2 rfl; have a3 := K1.out.cell 3 rfl; have hB1 := Lib.hid (nx hb0 hb1))
            | (go_at_call 45; (with_reducible refine (HLO.out _).mono ?_); rintro e w2 ⟨rfl, hb2⟩; have K2 := Lib.hid (K1.out.below hb2); have b0 := K2.out.cell 0 rfl; have b1 := K2.out.cell 1 rfl; have b2 := K2.out.cell 2 rfl; have b3 := K2.out.cell 3 rfl; have hB2 := Lib.hid (nx hB1.out hb2))
            | (go_at_call 62; (with_reducible refine (HF.out _ (HR.out.below hB2.out)).mono ?_); rintro e w3 ⟨rfl, hb3⟩; have K3 := Lib.hid (K2.out.below hb3); have hB3 := Lib.hid (nx hB2.out hb3))
            | (go_at_call 41; (with_reducible refine (HCL.out _ (HR.out.below hB3.out)).mono ?_); rintro e w4 ⟨v4, rfl, ho4, hb4⟩; have hB4 := Lib.hid (nx hB3.out hb4); have K4 := Lib.hid (K3.out.below hb4); have hO4 := Lib.hid (owns_base ho4 hB3.out.size); clear ho4; obtain ⟨g4, c4, rfl, hg4, hg4'⟩ := (HRow.of_own hO4.out).form1 (by omega); have k0 := K4.out.cell 0 rfl; have k1 := K4.out.cell 1 rfl; have k2 := K4.out.cell 2 rfl; have k3 := K4.out.cell 3 rfl; have f0 := hO4.out.frozenAt (p * 4); have f1 := hO4.out.frozenAt (p * 4 + 1); have f2 := hO4.out.frozenAt (p * 4 + 2); have f3 := hO4.out.frozenAt (p * 4 + 3); obtain ⟨u0, e0⟩ := own_some hO4.out (p * 4) (by omega); obtain ⟨u1, e1⟩ := own_some hO4.out (p * 4 + 1) (by omega); obtain ⟨u2, e2⟩ := own_some hO4.out (p * 4 + 2) (by omega); obtain ⟨u3, e3⟩ := own_some hO4.out (p * 4 + 3) (by omega); have hO4H := Lib.hid hO4.out))
        obtain ⟨r1, s1⟩ := hO4.out.stored (p * 4) (.int .u32 i)
        obtain ⟨r2, s2⟩ := r1.stored (p * 4 + 1) (.int .i64 a)
        obtain ⟨r3, s3⟩ := r2.stored (p * 4 + 2) (.int .i64 d)
        obtain ⟨r4, s4⟩ := r3.stored (p * 4 + 3) (.int .i64 g)
        rw [HS4.out, ← HSL.out] at r4
        have hbF := (((hB4.out.setCell (p := ⟨g4, p * 4, none⟩) hg4 (.int .u32 i)).setCell (p := ⟨g4, p * 4 + 1, none⟩) hg4 (.int .i64 a)).setCell (p := ⟨g4, p * 4 + 2, none⟩) hg4 (.int .i64 d)).setCell (p := ⟨g4, p * 4 + 3, none⟩) hg4 (.int .i64 g)
        go_ret2
        refine ⟨_, by rw [HV2.out]; rfl, ?_, hbF⟩
        rw [HV2.out]
        show World.ownsRow _ _ _ _ _ (setL zs (i, a, d, g)).length ((setL zs (i, a, d, g)).flatMap cuC)
        rw [HLEN.out]
        exact r4
    · have HV2 := Lib.hid (show setV zs c = (200, []) by unfold setV; rw [if_neg (by rw [her]; simp), if_pos hlo])
      obtain ⟨i, a, d, g⟩ := c
      simp only at HLO
      clear hl hnil hR her hlo
      have K0 := Blk.new w 36 [.int .u32 i, .int .i64 a, .int .i64 d, .int .i64 g]
      have hb0 : Below w.heap.size w _ := al (Below.refl _ _) (.cells #[.int .u32 i, .int .i64 a, .int .i64 d, .int .i64 g] 36)
      obtain ⟨W, hW⟩ : ∃ W, w.alloc (.cells #[.int .u32 i, .int .i64 a, .int .i64 d, .int .i64 g] 36) = W := ⟨_, rfl⟩
      replace K0 : Blk W w.heap.size 36 [.int .u32 i, .int .i64 a, .int .i64 d, .int .i64 g] := hW ▸ K0
      replace hb0 : Below w.heap.size w W := hW ▸ hb0
      go_enter Tryd.func36, Tryd.ntmps36
      go_wp2_with (first
          | (go_at_call 40; (with_reducible refine (HW.out _ (HR.out.below hb0)).mono ?_); rintro e w1 ⟨rfl, hb1⟩; have K1 := Lib.hid (K0.below hb1); have a0 := K1.out.cell 0 rfl; have a1 := K1.out.cell 1 rfl; have a2 := K1.out.cell 2 rfl; have a3 := K1.out.cell 3 rfl; have hB1 := Lib.hid (nx hb0 hb1))
          | (go_at_call 45; (with_reducible refine (HLO.out _).mono ?_); rintro e w2 ⟨rfl, hb2⟩; have K2 := Lib.hid (K1.out.below hb2); have b0 := K2.out.cell 0 rfl; have b1 := K2.out.cell 1 rfl; have b2 := K2.out.cell 2 rfl; have b3 := K2.out.cell 3 rfl; have hB2 := Lib.hid (nx hB1.out hb2))
        )
      go_ret2
      exact ⟨.slice none 0 0, by rw [HV2.out]; rfl, by rw [HV2.out]; exact World.ownsRow_nil _ _ _ _, hB2.out⟩
  · have HV2 := Lib.hid (show setV zs c = (er, []) by unfold setV; rw [if_pos (by rw [her]; exact h0), her])
    have hne : (er != 0) = true := bne_iff_ne.2 h0
    obtain ⟨i, a, d, g⟩ := c
    simp only at HLO
    clear hl hnil hR her h0
    have K0 := Blk.new w 36 [.int .u32 i, .int .i64 a, .int .i64 d, .int .i64 g]
    have hb0 : Below w.heap.size w _ := al (Below.refl _ _) (.cells #[.int .u32 i, .int .i64 a, .int .i64 d, .int .i64 g] 36)
    obtain ⟨W, hW⟩ : ∃ W, w.alloc (.cells #[.int .u32 i, .int .i64 a, .int .i64 d, .int .i64 g] 36) = W := ⟨_, rfl⟩
    replace K0 : Blk W w.heap.size 36 [.int .u32 i, .int .i64 a, .int .i64 d, .int .i64 g] := hW ▸ K0
    replace hb0 : Below w.heap.size w W := hW ▸ hb0
    go_enter Tryd.func36, Tryd.ntmps36
    go_wp2_with (first
        | (go_at_call 40; (with_reducible refine (HW.out _ (HR.out.below hb0)).mono ?_); rintro e w1 ⟨rfl, hb1⟩; have K1 := Lib.hid (K0.below hb1); have a0 := K1.out.cell 0 rfl; have a1 := K1.out.cell 1 rfl; have a2 := K1.out.cell 2 rfl; have a3 := K1.out.cell 3 rfl; have hB1 := Lib.hid (nx hb0 hb1))
        | (go_at_call 45; (with_reducible refine (HLO.out _).mono ?_); rintro e w2 ⟨rfl, hb2⟩; have K2 := Lib.hid (K1.out.below hb2); have b0 := K2.out.cell 0 rfl; have b1 := K2.out.cell 1 rfl; have b2 := K2.out.cell 2 rfl; have b3 := K2.out.cell 3 rfl; have hB2 := Lib.hid (nx hB1.out hb2))
      )
    go_ret2
    exact ⟨.slice none 0 0, by rw [HV2.out]; rfl, by rw [HV2.out]; exact World.ownsRow_nil _ _ _ _, hB1.out⟩

set_option maxRecDepth 100000 in
set_option maxHeartbeats 8000000 in
theorem unset_any (ao : Option Addr) (cap : Nat) (zs : List Cu) (n : Nat) (hl : zs.length = n) (hn : n ≤ 140737488351232) (hnil : ao = none → n = 0) (id : Int) (w : World) (hR : ReadsC w ao zs) :
    Calls Tryd.prog 38 #[.slice ao n cap, .int .u32 id] w fun e w' =>
      ∃ v, e = .returned (.tuple #[v, .int .i64 (unsetV zs id).1]) ∧ w'.ownsRow w.heap.size 36 4 v (unsetV zs id).2.length ((unsetV zs id).2.flatMap cuC) ∧ Below w.heap.size w w' := by
  have HW := Lib.hid (fun w hR => cwrong_any ao cap zs n hl hn w hR)
  have HR := Lib.hid hR
  obtain ⟨er, her⟩ : ∃ er, wrongN zs = er := ⟨_, rfl⟩
  rw [her] at HW
  by_cases h0 : er = 0
  · subst h0
    have hn8 := (wrongN_zero her).1
    rw [hl] at hn8
    have HF := Lib.hid (fun w hR => find_any ao cap zs n hl hn8 (sorted_of her) id w hR)
    have HCL := Lib.hid (fun w hR => clone_any ao cap zs n hl (by omega) hnil w hR)
    obtain ⟨q, hq⟩ : ∃ q, hasN zs id = q := ⟨_, rfl⟩
    rw [hq] at HF
    cases q
    · have HV2 := Lib.hid (show unsetV zs id = (200, []) by unfold unsetV; rw [if_neg (by rw [her]; simp), if_pos hq])
      obtain ⟨p, hpe⟩ : ∃ p, findN zs id = p := ⟨_, rfl⟩
      rw [hpe] at HF
      clear hl hnil hR her hq hpe
      go_enter Tryd.func38, Tryd.ntmps38
      go_wp2_with (first
        | (go_at_call 40; (with_reducible refine (HW.out _ HR.out).mono ?_); rintro e w1 ⟨rfl, hb1⟩)
        | (go_at_call 62; (with_reducible refine (HF.out _ (HR.out.below hb1)).mono ?_); rintro e w2 ⟨rfl, hb2⟩; have hB2 := nx hb1 hb2))
      go_ret2
      exact ⟨.slice none 0 0, by rw [HV2.out]; rfl, by rw [HV2.out]; exact World.ownsRow_nil _ _ _ _, hB2⟩
    · have HV2 := Lib.hid (show unsetV zs id = (0, zs.take (findN zs id) ++ zs.drop (findN zs id + 1)) by unfold unsetV; rw [if_neg (by rw [her]; simp), if_neg (by rw [hq]; simp)])
      have hpl := has_lt hq
      rw [hl] at hpl
      have HDL := Lib.hid (fun (g cap : Nat) (w' : World) hO => delete_any g n cap (findN zs id) w.heap.size zs hl hn8 hpl w' hO)
      have HLEN := Lib.hid (show (zs.take (findN zs id) ++ zs.drop (findN zs id + 1)).length = n - 1 by rw [List.length_append, List.length_take, List.length_drop, hl]; omega)
      obtain ⟨p, hpe⟩ : ∃ p, findN zs id = p := ⟨_, rfl⟩
      rw [hpe] at HF HV2 HDL hpl HLEN
      have hpb : p ≤ 8 := by omega
      clear hl hnil hR her hq hpe
      go_enter Tryd.func38, Tryd.ntmps38
      go_wp2_with (first
        | (go_at_call 40; (with_reducible refine (HW.out _ HR.out).mono ?_); rintro e w1 ⟨rfl, hb1⟩)
        | (go_at_call 62; (with_reducible refine (HF.out _ (HR.out.below hb1)).mono ?_); rintro e w2 ⟨rfl, hb2⟩; have hB2 := nx hb1 hb2)
        | (go_at_call 41; (with_reducible refine (HCL.out _ (HR.out.below hB2)).mono ?_); rintro e w3 ⟨v3, rfl, ho3, hb3⟩; have hB3 := Lib.hid (nx hB2 hb3); have hO3 := Lib.hid (owns_base ho3 hB2.size); obtain ⟨g3, c3, rfl, hg3, hg3'⟩ := (HRow.of_own ho3).form1 (by omega); clear ho3)
        | (go_at_call 64; (with_reducible refine (HDL.out g3 c3 w3 hO3.out).mono ?_); rintro e w4 ⟨v4, rfl, ho4, hb4⟩; have hB4 := hB3.out.trans hb4; have hO4 := Lib.hid ho4; clear ho4))
      go_ret2
      refine ⟨_, by rw [HV2.out]; rfl, ?_, hB4⟩
      rw [HV2.out]
      show w4.ownsRow _ _ _ _ (zs.take p ++ zs.drop (p + 1)).length ((zs.take p ++ zs.drop (p + 1)).flatMap cuC)
      rw [HLEN.out]
      exact hO4.out
  · have HV2 := Lib.hid (show unsetV zs id = (er, []) by unfold unsetV; rw [if_pos (by rw [her]; exact h0), her])
    have hne : (er != 0) = true := bne_iff_ne.2 h0
    clear hl hnil hR her h0
    go_enter Tryd.func38, Tryd.ntmps38
    go_wp2_with (first
      | (go_at_call 40; (with_reducible refine (HW.out _ HR.out).mono ?_); rintro e w1 ⟨rfl, hb1⟩))
    go_ret2
    exact ⟨.slice none 0 0, by rw [HV2.out]; rfl, by rw [HV2.out]; exact World.ownsRow_nil _ _ _ _, hb1⟩
end Go.Proofs.YtfoppbignompkaaDoor

namespace Go.Proofs.YtfoppbignompkaaDoor
open Go.RowKit

theorem same_self (i a d g : Int) (w : World) : (Op.equalIn 10000 36 (.agg #[.int .u32 i, .int .i64 a, .int .i64 d, .int .i64 g]) (.agg #[.int .u32 i, .int .i64 a, .int .i64 d, .int .i64 g])).run Tryd.prog w = .ok true w := by
  rw [eq_cur]
  simp
set_option maxRecDepth 100000 in
set_option maxHeartbeats 4000000 in
theorem same_any (ao bo : Option Addr) (n ca cb : Nat) (zs : List Cu) (hl : zs.length = n) (hn : n ≤ 140737488351232) (w : World) (hA : ReadsC w ao zs) (hB : ReadsC w bo zs) :
    Calls Tryd.prog 16 #[.slice ao n ca, .slice bo n cb] w fun r w' => r = .returned (.bool true) ∧ Below w.heap.size w w' := by
  have HA := Lib.hid hA
  have HB := Lib.hid hB
  have HL := Lib.hid hl
  have gc := guard_cur
  clear hA hB hl
  go_enter Tryd.func16, Tryd.ntmps16
  go_wp2_with fail
  go_loopw [5] (fun i wr => ∃ k : Nat, k ≤ n ∧ i = .int .i64 (k : Nat) ∧ Below w.heap.size w wr) (fun i _ => n - (intOf i).toNat)
  case atStart => exact ⟨0, Nat.zero_le _, rfl, Below.refl _ _⟩
  case round =>
    obtain ⟨k, hk, rfl, hb⟩ := hrel
    by_cases hlt : k < n
    · have hkz : k < zs.length := by rw [HL.out]; exact hlt
      rcases (HA.out.below hb) with h0 | ⟨g, o, rfl, hc⟩
      · rw [h0] at hkz; simp at hkz
      · rcases (HB.out.below hb) with h0 | ⟨g', o', rfl, hc'⟩
        · rw [h0] at hkz; simp at hkz
        · obtain ⟨x0, x1, x2, x3⟩ := hc k hkz
          obtain ⟨y0, y1, y2, y3⟩ := hc' k hkz
          obtain ⟨c, hcc⟩ : ∃ c, zs[k]?.getD cuZ = c := ⟨_, rfl⟩
          rw [hcc] at x0 x1 x2 x3 y0 y1 y2 y3
          obtain ⟨i, a, d, q⟩ := c
          simp only at x0 x1 x2 x3 y0 y1 y2 y3
          have hq := fun (w : World) => same_self i a d q w
          have hki : (k : Int) < (n : Int) := by omega
          have hk0 : (0 : Int) ≤ (k : Int) := by omega
          clear hc hc' hcc hkz
          go_wp2_with fail
          go_quiet (fail)
          all_goals go_wp2_with fail
          exact ⟨⟨k + 1, by omega, by go_num, below_drewN' hb _⟩, by simp [intOf]; omega⟩
    · go_wp2_with fail
      go_ret
      exact ⟨rfl, hb⟩

/-- what an argument that is a slice of cursors gives -/
def SrcC (w : World) (ao : Option Addr) (cap : Nat) (zs : List Cu) : Prop :=
  (ao = none ∧ zs = [] ∧ cap = 0) ∨ ∃ ad, ao = some ad ∧ ∀ j u, (zs.flatMap cuC)[j]? = some u → w.cell? (ad.add j) = some u
theorem cells_readsC {w : World} {ad : Addr} {zs : List Cu} (hc : ∀ j u, (zs.flatMap cuC)[j]? = some u → w.cell? (ad.add j) = some u) : ReadsC w (some ad) zs := by
  cases zs with
  | nil => exact .inl rfl
  | cons z zs =>
    obtain ⟨b, off, spot⟩ := ad
    have h0 := hc 0 (.int .u32 z.1) (by simp [cuC])
    have hspot : spot = none := by simpa [Addr.add] using World.cell?_spot h0
    subst hspot
    refine .inr ⟨b, off, rfl, fun j hj => ?_⟩
    have key : ∀ i, i < 4 → w.cell? ⟨b, off + j * 4 + i, none⟩ = (cuC ((z :: zs)[j]?.getD cuZ))[i]? := fun i hi => by
      have h := flat4c_at (z :: zs) j i hj hi
      obtain ⟨u, hu⟩ : ∃ u, (cuC ((z :: zs)[j]?.getD cuZ))[i]? = some u := ⟨_, List.getElem?_eq_getElem (by simpa [cuC] using hi)⟩
      have := hc (j * 4 + i) u (h.trans hu)
      rw [Addr.add_lit, ← Nat.add_assoc] at this
      rw [this, hu]
    exact ⟨key 0 (by omega), key 1 (by omega), key 2 (by omega), key 3 (by omega)⟩
theorem SrcC.reads {w : World} {ao : Option Addr} {cap : Nat} {zs : List Cu} (h : SrcC w ao cap zs) : ReadsC w ao zs := by
  rcases h with ⟨_, rfl, _⟩ | ⟨ad, rfl, hc⟩
  · exact .inl rfl
  · exact cells_readsC hc
/-- the marks behind a spare list -/
def skC (k : Nat) : Cu := (((900 + k : Nat) : Int), 7, 0, 0)
def sksC (zs : List Cu) (k : Nat) : List Cu := zs ++ (List.range k).map skC
theorem sksC_len (zs : List Cu) (k : Nat) : (sksC zs k).length = zs.length + k := by simp [sksC]
theorem sksC_succ (zs : List Cu) (k : Nat) : (sksC zs k).flatMap cuC ++ cuC (skC k) = (sksC zs (k + 1)).flatMap cuC := by
  simp [sksC, List.range_succ]
theorem flat4c_one' (L : List Cu) : ∀ u ∈ L.flatMap cuC, u.oneCell' = true := by
  intro u hu
  obtain ⟨c, _, hc⟩ := List.mem_flatMap.1 hu
  exact cuC_one c u hc

set_option maxRecDepth 100000 in
set_option maxHeartbeats 4000000 in
theorem spareC_any (ao : Option Addr) (cap n : Nat) (zs : List Cu) (hl : zs.length = n) (hn : n ≤ 4398046510976) (w : World) (hA : SrcC w ao cap zs) :
    Calls Tryd.prog 13 #[.slice ao n cap] w fun r w' => ∃ g c, n + 12 ≤ c ∧ r = .returned (.slice (some ⟨g, 0, none⟩) n c) ∧ w'.ownsRow w.heap.size 36 4 (.slice (some ⟨g, 0, none⟩) (n + 12) c) (n + 12) ((sksC zs 12).flatMap cuC) ∧ Below w.heap.size w w' := by
  obtain ⟨i0, hi, hz0, hz1, hz2⟩ := info_parts info_cur
  have HA := Lib.hid (show (ao = none ∧ n = 0 ∧ cap = 0) ∨ ∃ ad, ao = some ad ∧ ∀ j u, (zs.flatMap cuC)[j]? = some u → w.cell? (ad.add j) = some u by
    rcases hA with ⟨h1, h2, h3⟩ | h
    · exact .inl ⟨h1, by rw [← hl, h2]; rfl, h3⟩
    · exact .inr h)
  have HL := Lib.hid hl
  clear hA hl
  go_enter Tryd.func13, Tryd.ntmps13
  go_wp2_with (at_builtin; refine wpList_append_src rfl _ _ 22 rfl w.heap.size 36 i0 (.agg #[.int .u32 0, .int .i64 0, .int .i64 0, .int .i64 0]) 4 32 Tryd.underlying22 hi hz0 hz1 hz2 rfl (by decide) (.slice none 0 0) 0 [] rfl (World.ownsRow_nil _ _ _ _) ao n cap (zs.flatMap cuC) rfl (by rw [flat4c_len, HL.out]) HA.out (flat4c_one' zs) (by unfold maxLen; omega) (by omega) (Nat.le_refl _) ?_; intro v2 w2 hown2 hgrow2 _)
  have hb2 : Below w.heap.size w w2 := (Below.refl _ _).grown hgrow2 (Nat.le_refl _) (fun q e => by cases e)
  have hx2 : w2.ownsRow w.heap.size 36 4 v2 (n + 0) ((sksC zs 0).flatMap cuC) := by
    rw [Nat.zero_add, List.nil_append] at hown2
    simpa [sksC] using hown2
  have HX2 := Lib.hid hx2
  clear hown2 hgrow2 hx2
  go_loopw [3, 4] (fun v i wr => ∃ k : Nat, k ≤ 12 ∧ i = .int .i64 (k : Nat) ∧ Hid (wr.ownsRow w.heap.size 36 4 v (n + k) ((sksC zs k).flatMap cuC)) ∧ Below w.heap.size w wr) (fun _ i _ => 12 - (intOf i).toNat)
  case atStart => exact ⟨0, by omega, rfl, HX2, hb2⟩
  case round =>
    clear HX2 hb2
    obtain ⟨k, hk, rfl, hx, hb⟩ := hrel
    by_cases hlt : k < 12
    · have hki : (k : Int) < 12 := by omega
      have hk0 : (0 : Int) ≤ (k : Int) := by omega
      have hcv : ((900 + (k : Int)) % 4294967296) = 900 + (k : Int) := by omega
      have HS := Lib.hid (sksC_succ zs k)
      go_wp2_with (at_builtin; refine wpList_append_own _ rfl _ _ 22 rfl w.heap.size 36 i0 (.agg #[.int .u32 0, .int .i64 0, .int .i64 0, .int .i64 0]) 4 32 Tryd.underlying22 hi hz0 hz1 hz2 rfl (by decide) u3 (n + k) _ rfl (hx.out.alloc _) ⟨wr.heap.size, 0, none⟩ 1 1 [.int .u32 (900 + (k : Int)), .int .i64 7, .int .i64 0, .int .i64 0] rfl (by simp) (cells_new _ _ _) (by simp [Value.oneCell']) (by unfold maxLen; omega) (by omega) (by rw [World.size_alloc]; have := hb.size; omega) ?_; intro v4 w4 hown4 hgrow4 _)
      exact ⟨⟨k + 1, by omega, by go_num, Lib.hid (by rw [← HS.out, ← Nat.add_assoc]; exact hown4), (al hb _).grown hgrow4 (by rw [World.size_alloc]; have := hb.size; omega) (fun q e => (hx.out.lt q e).1)⟩, by simp [intOf]; omega⟩
    · obtain rfl : k = 12 := by omega
      obtain ⟨g, c, hv⟩ : ∃ g c, u3 = .slice (some ⟨g, 0, none⟩) (n + 12) c := ownsRow_succ hx.out
      subst hv
      have hxo := hx.out
      have hnc : n + 12 ≤ c := by
        rcases hxo.2 with ⟨h, _⟩ | ⟨g', c', cur, h, _, _, h1, _⟩
        · cases h
        · injection h with _ _ e3; omega
      go_wp2_with fail
      go_ret
      exact ⟨g, c, hnc, rfl, hxo, hb⟩

theorem sksC_lt {zs : List Cu} {k m : Nat} (h : k < zs.length) : (sksC zs m)[k]?.getD cuZ = zs[k]?.getD cuZ := by
  unfold sksC
  rw [List.getElem?_append_left h]
theorem sksC_ge {zs : List Cu} {k m : Nat} (h : zs.length ≤ k) (h2 : k < zs.length + m) : (sksC zs m)[k]?.getD cuZ = skC (k - zs.length) := by
  unfold sksC
  rw [List.getElem?_append_right h, List.getElem?_map, List.getElem?_range (by omega)]
  rfl
/-- the row behind a spare list: what is asked of it -/
def SpareC (w : World) (g n : Nat) (zs : List Cu) : Prop := zs.length = n ∧ ∀ k, k < n + 12 → ∀ j, j < 4 → w.cell? ⟨g, k * 4 + j, none⟩ = (cuC ((sksC zs 12)[k]?.getD cuZ))[j]?
theorem SpareC.of_own {w : World} {base e g n c : Nat} {zs : List Cu} (hl : zs.length = n) (h : w.ownsRow base e 4 (.slice (some ⟨g, 0, none⟩) (n + 12) c) (n + 12) ((sksC zs 12).flatMap cuC)) : SpareC w g n zs :=
  ⟨hl, fun k hk j hj => by rw [h.cellAt (k * 4 + j) (by omega), flat4c_at _ k j (by rw [sksC_len]; omega) hj]⟩
theorem SpareC.below {w w' : World} {g n : Nat} {zs : List Cu} (h : SpareC w g n zs) (hb : Below w.heap.size w w') : SpareC w' g n zs :=
  ⟨h.1, fun k hk j hj => by
    obtain ⟨u, hu⟩ : ∃ u, (cuC ((sksC zs 12)[k]?.getD cuZ))[j]? = some u := ⟨_, List.getElem?_eq_getElem (by simpa [cuC] using hj)⟩
    have := h.2 k hk j hj
    rw [hu] at this ⊢
    exact cellKeep this hb⟩
theorem SpareC.reads {w : World} {g n : Nat} {zs : List Cu} (h : SpareC w g n zs) : ReadsC w (some ⟨g, 0, none⟩) zs := by
  obtain ⟨hl, hc⟩ := h
  refine .inr ⟨g, 0, rfl, fun j hj => ?_⟩
  have key : ∀ i, i < 4 → w.cell? ⟨g, 0 + j * 4 + i, none⟩ = (cuC (zs[j]?.getD cuZ))[i]? := fun i hi => by
    rw [Nat.zero_add, hc j (by omega) i hi, sksC_lt hj]
  exact ⟨key 0 (by omega), key 1 (by omega), key 2 (by omega), key 3 (by omega)⟩

end Go.Proofs.YtfoppbignompkaaDoor

namespace Go.Proofs.YtfoppbignompkaaDoor
open Go.RowKit

set_option maxRecDepth 100000 in
set_option maxHeartbeats 8000000 in
theorem keptC_any (ao : Option Addr) (cap n g c : Nat) (zs : List Cu) (hn : n ≤ 4398046510976) (hc : n + 12 ≤ c) (w : World) (hA : ReadsC w ao zs) (hR : SpareC w g n zs) :
    Calls Tryd.prog 17 #[.slice (some ⟨g, 0, none⟩) n c, .slice ao n cap] w fun r w' => r = .returned (.bool true) ∧ Below w.heap.size w w' := by
  have HL := Lib.hid hR.1
  have HR := Lib.hid hR
  have HA := Lib.hid hA
  have gc := guard_cur
  have hs0 : (0 : Int) ≤ (n : Int) + 12 := by omega
  have hs1 : (n : Int) + 12 ≤ (c : Int) := by omega
  clear hR hA
  go_enter Tryd.func17, Tryd.ntmps17
  go_wp2_with fail
  go_loopw [6] (fun i wr => ∃ k : Nat, k ≤ n + 12 ∧ i = .int .i64 (k : Nat) ∧ Below w.heap.size w wr) (fun i _ => n + 12 - (intOf i).toNat)
  case atStart => exact ⟨0, Nat.zero_le _, rfl, Below.refl _ _⟩
  case round =>
    obtain ⟨k, hk, rfl, hb⟩ := hrel
    by_cases hlt : k < n + 12
    · have hR := (HR.out.below hb).2 k hlt
      have x0 := hR 0 (by omega)
      have x1 := hR 1 (by omega)
      have x2 := hR 2 (by omega)
      have x3 := hR 3 (by omega)
      have hki : (k : Int) < (n : Int) + 12 := by omega
      have hk0 : (0 : Int) ≤ (k : Int) := by omega
      clear hR
      by_cases hkn : k < n
      · have hkz : k < zs.length := by rw [HL.out]; exact hkn
        have hd : decide (k < n) = true := decide_eq_true hkn
        have hd2 : decide (n ≤ k) = false := decide_eq_false (by omega)
        rw [sksC_lt hkz] at x0 x1 x2 x3
        rcases (HA.out.below hb) with h0 | ⟨g', o', rfl, hc'⟩
        · rw [h0] at hkz; simp at hkz
        · obtain ⟨y0, y1, y2, y3⟩ := hc' k hkz
          obtain ⟨c, hcc⟩ : ∃ c, zs[k]?.getD cuZ = c := ⟨_, rfl⟩
          rw [hcc] at x0 x1 x2 x3 y0 y1 y2 y3
          obtain ⟨i, a, d, q⟩ := c
          simp only [cuC] at x0 x1 x2 x3 y0 y1 y2 y3
          replace x0 : wr.cell? ⟨g, k * 4, none⟩ = some (.int .u32 i) := x0
          replace x1 : wr.cell? ⟨g, k * 4 + 1, none⟩ = some (.int .i64 a) := x1
          replace x2 : wr.cell? ⟨g, k * 4 + 2, none⟩ = some (.int .i64 d) := x2
          replace x3 : wr.cell? ⟨g, k * 4 + 3, none⟩ = some (.int .i64 q) := x3
          have hq := fun (w : World) => same_self i a d q w
          clear hc' hcc hkz
          go_wp2_with fail
          have k0 := Later.cell x0
          have k1 := Later.cell x1
          have k2 := Later.cell x2
          have k3 := Later.cell x3
          have k4 := Later.cell y0
          have k5 := Later.cell y1
          have k6 := Later.cell y2
          have k7 := Later.cell y3
          clear x0 x1 x2 x3 y0 y1 y2 y3
          refine wp_region_later (by kernel_rfl) (by kernel_rfl) ?_
          repeat (go_big_quiet_step (fail))
          refine wpQuiet_nil ?_
          intro _ hw'
          obtain ⟨pq, hw''⟩ := hw'
          subst hw''
          go_wp2_with fail
          exact ⟨⟨k + 1, by omega, by go_num, nx hb pq.hb⟩, by simp [intOf]; omega⟩
      · have hd : decide (k < n) = false := decide_eq_false hkn
        have hd2 : decide (n ≤ k) = true := decide_eq_true (by omega)
        rw [sksC_ge (by rw [HL.out]; omega) (by rw [HL.out]; exact hlt), HL.out] at x0 x1 x2 x3
        obtain ⟨V, hV⟩ : ∃ V : Int, ((900 + (k - n) : Nat) : Int) = V := ⟨_, rfl⟩
        replace x0 : wr.cell? ⟨g, k * 4, none⟩ = some (.int .u32 V) := hV ▸ x0
        replace x1 : wr.cell? ⟨g, k * 4 + 1, none⟩ = some (.int .i64 7) := x1
        replace x2 : wr.cell? ⟨g, k * 4 + 2, none⟩ = some (.int .i64 0) := x2
        replace x3 : wr.cell? ⟨g, k * 4 + 3, none⟩ = some (.int .i64 0) := x3
        have hq := fun (w : World) => same_self V 7 0 0 w
        have hcv : (900 + (k : Int) - (n : Int)) % 4294967296 = V := by omega
        clear hV
        go_wp2_with fail
        have k0 := Later.cell x0
        have k1 := Later.cell x1
        have k2 := Later.cell x2
        have k3 := Later.cell x3
        clear x0 x1 x2 x3
        refine wp_region_later (by kernel_rfl) (by kernel_rfl) ?_
        repeat (go_big_quiet_step (fail))
        refine wpQuiet_nil ?_
        intro _ hw'
        obtain ⟨pq, hw''⟩ := hw'
        subst hw''
        go_wp2_with fail
        exact ⟨⟨k + 1, by omega, by go_num, nx hb pq.hb⟩, by simp [intOf]; omega⟩
    · obtain rfl : k = n + 12 := by omega
      go_wp2_with fail
      go_ret
      exact ⟨rfl, hb⟩
end Go.Proofs.YtfoppbignompkaaDoor

namespace Go.Proofs.YtfoppbignompkaaDoor
open Go.RowKit

/-- the mark of a list, and that of what is put behind it -/
def aCu (i : Nat) : Cu := (0, ((1000 + i : Nat) : Int), 0, 0)
def bCu (i : Nat) : Cu := (0, ((2000 + i : Nat) : Int), 0, 0)
def repC (c : Cu) (k : Nat) : List Value := (List.replicate k c).flatMap cuC
theorem repC_len (c : Cu) (k : Nat) : (repC c k).length = k * 4 := by unfold repC; rw [flat4c_len, List.length_replicate]
theorem repC_succ (c : Cu) (k : Nat) : repC c (k + 1) = repC c k ++ cuC c := by
  unfold repC
  rw [List.replicate_succ', List.flatMap_append]
  simp
theorem repC_get (c : Cu) (m k : Nat) (h : k < m) : (repC c m)[k * 4 + 1]? = some (.int .i64 c.2.1) := by
  unfold repC
  rw [flat4c_at _ k 1 (by rw [List.length_replicate]; exact h) (by omega)]
  rw [List.getElem?_replicate, if_pos h]
  rfl
/-- the first k marked -/
def mixK (c : Cu) (k : Nat) (xs : List Value) : List Value := repC c k ++ xs.drop (k * 4)
theorem mixK_zero (c : Cu) (xs : List Value) : mixK c 0 xs = xs := by simp [mixK, repC]
theorem mixK_full (c : Cu) (n : Nat) (xs : List Value) (h : xs.length = n * 4) : mixK c n xs = repC c n := by
  unfold mixK
  rw [List.drop_of_length_le (by omega), List.append_nil]
theorem mixK_set (c : Cu) (k : Nat) (xs : List Value) (h : k * 4 + 4 ≤ xs.length) :
    ((((mixK c k xs).set (k * 4) (.int .u32 c.1)).set (k * 4 + 1) (.int .i64 c.2.1)).set (k * 4 + 2) (.int .i64 c.2.2.1)).set (k * 4 + 3) (.int .i64 c.2.2.2) = mixK c (k + 1) xs := by
  unfold mixK
  have e0 : k * 4 = (repC c k).length + 0 := by rw [repC_len]; omega
  have e1 : k * 4 + 1 = (repC c k).length + 1 := by rw [repC_len]
  have e2 : k * 4 + 2 = (repC c k).length + 2 := by rw [repC_len]
  have e3 : k * 4 + 3 = (repC c k).length + 3 := by rw [repC_len]
  obtain ⟨y0, y1, y2, y3, D, hd, hD⟩ : ∃ y0 y1 y2 y3 D, xs.drop (k * 4) = y0 :: y1 :: y2 :: y3 :: D ∧ D = xs.drop ((k + 1) * 4) := by
    refine ⟨xs[k * 4], xs[k * 4 + 1], xs[k * 4 + 2], xs[k * 4 + 3], _, ?_, rfl⟩
    rw [List.drop_eq_getElem_cons (by omega), List.drop_eq_getElem_cons (by omega), List.drop_eq_getElem_cons (by omega), List.drop_eq_getElem_cons (by omega)]
    rw [show k * 4 + 1 + 1 + 1 + 1 = (k + 1) * 4 by omega]
  rw [hd, ← hD, repC_succ, List.append_assoc, e1, e2, e3]
  obtain ⟨p, hp⟩ : ∃ p, repC c k = p := ⟨_, rfl⟩
  rw [hp] at e0 ⊢
  rw [e0]
  rw [List.set_append_right _ _ (Nat.le_add_right _ _), List.set_append_right _ _ (Nat.le_add_right _ _), List.set_append_right _ _ (Nat.le_add_right _ _), List.set_append_right _ _ (Nat.le_add_right _ _)]
  simp only [Nat.add_sub_cancel_left]
  rfl
/-- a list of n marked ones and q behind them -/
def mkG (i n q : Nat) : List Value := repC (aCu i) n ++ repC (bCu i) q
theorem mkG_zero (i n : Nat) : mkG i n 0 = repC (aCu i) n := by simp [mkG, repC]
theorem mkG_len (i n q : Nat) : (mkG i n q).length = (n + q) * 4 := by unfold mkG; rw [List.length_append, repC_len, repC_len]; omega
theorem mkG_succ (i n q : Nat) : mkG i n (q + 1) = mkG i n q ++ cuC (bCu i) := by unfold mkG; rw [repC_succ, List.append_assoc]
theorem mkG_lt (i n q k : Nat) (h : k < n) : (mkG i n q)[k * 4 + 1]? = some (.int .i64 ((1000 + i : Nat) : Int)) := by
  unfold mkG
  rw [List.getElem?_append_left (by rw [repC_len]; omega), repC_get _ _ _ h]
  rfl
theorem mkG_ge (i n q k : Nat) (h : n ≤ k) (h2 : k < n + q) : (mkG i n q)[k * 4 + 1]? = some (.int .i64 ((2000 + i : Nat) : Int)) := by
  unfold mkG
  rw [List.getElem?_append_right (by rw [repC_len]; omega), repC_len, show k * 4 + 1 - n * 4 = (k - n) * 4 + 1 by omega, repC_get _ _ _ (by omega)]
  rfl
def updC {α : Type} (f : Nat → α) (i : Nat) (x : α) : Nat → α := fun j => if j = i then x else f j
theorem updC_same {α : Type} (f : Nat → α) (i : Nat) (x : α) : updC f i x i = x := if_pos rfl
theorem updC_other {α : Type} (f : Nat → α) (i j : Nat) (x : α) (h : j ≠ i) : updC f i x j = f j := if_neg h
theorem updC_updC {α : Type} (f : Nat → α) (i : Nat) (x y : α) : updC (updC f i x) i y = updC f i y := by
  funext j
  by_cases h : j = i
  · subst h; rw [updC_same, updC_same]
  · rw [updC_other _ _ _ _ h, updC_other _ _ _ _ h, updC_other _ _ _ _ h]
/-- x ahead of i, 0 from there on -/
def uptoF (x : Nat → Nat) (i : Nat) : Nat → Nat := fun j => if j < i then x j else 0
theorem uptoF_start (x : Nat → Nat) (i : Nat) : updC (uptoF x i) i 0 = uptoF x i := by
  funext j
  by_cases h : j = i
  · subst h; rw [updC_same]; simp [uptoF]
  · rw [updC_other _ _ _ _ h]
theorem uptoF_next (x : Nat → Nat) (i : Nat) : updC (uptoF x i) i (x i) = uptoF x (i + 1) := by
  funext j
  by_cases h : j = i
  · subst h; rw [updC_same]; simp [uptoF]
  · rw [updC_other _ _ _ _ h]
    unfold uptoF
    by_cases h2 : j < i
    · rw [if_pos h2, if_pos (by omega)]
    · rw [if_neg h2, if_neg (by omega)]
theorem uptoF_lt (x : Nat → Nat) (i j : Nat) (h : j < i) : uptoF x i j = x j := if_pos h

/-- the lists' blocks lie apart -/
def ApC (M : Nat) (v : Nat → Value) : Prop := ∀ i j g, i ≠ j → i < M → j < M → (v i).ownBlock = some g → (v j).ownBlock ≠ some g

/-- the lists, marked up to m -/
structure MaC (M B L : Nat) (n : Nat → Nat) (v : Nat → Value) (xs : Nat → List Value) (m : Nat → Nat) (W0 W : World) : Prop where
  row : ∀ j, j < M → HRow W B 36 4 (v j) (n j) (mixK (aCu j) (m j) (xs j))
  cel : ∀ j, j < M → W.cell? ⟨L, j, none⟩ = some (v j)
  bel : Below B W0 W
  siz : W0.heap.size ≤ W.heap.size

theorem MaC.below {M B L : Nat} {n : Nat → Nat} {v : Nat → Value} {xs : Nat → List Value} {m : Nat → Nat} {W0 W W' : World} (h : MaC M B L n v xs m W0 W) (hb : Below W.heap.size W W') (hB : B ≤ W.heap.size) : MaC M B L n v xs m W0 W' :=
  ⟨fun j hj => (h.row j hj).below hb (Nat.le_refl _), fun j hj => cellKeep (h.cel j hj) hb, h.bel.trans (hb.mono hB), Nat.le_trans h.siz hb.size⟩

theorem MaC.step {M B L : Nat} {n : Nat → Nat} {v : Nat → Value} {xs : Nat → List Value} {m : Nat → Nat} {W0 W : World} (h : MaC M B L n v xs m W0 W) (hA : ApC M v) (hx : ∀ j, j < M → (xs j).length = n j * 4) (hL : ∀ j, j < M → (v j).ownBlock ≠ some L)
    {i k g c : Nat} (hi : i < M) (hk : k < n i) (hm : m i = k) (hv : v i = .slice (some ⟨g, 0, none⟩) (n i) c) (V : Int) (hV : V = ((1000 + i : Nat) : Int)) :
    MaC M B L n v xs (updC m i (k + 1)) W0 ((((W.setCell ⟨g, k * 4, none⟩ (.int .u32 0)).setCell ⟨g, k * 4 + 1, none⟩ (.int .i64 V)).setCell ⟨g, k * 4 + 2, none⟩ (.int .i64 0)).setCell ⟨g, k * 4 + 3, none⟩ (.int .i64 0)) := by
  subst hV
  have hr := h.row i hi
  rw [hv] at hr
  obtain ⟨hr1, g1⟩ := hr.stored (k * 4) (.int .u32 (aCu i).1)
  obtain ⟨hr2, g2⟩ := hr1.stored (k * 4 + 1) (.int .i64 (aCu i).2.1)
  obtain ⟨hr3, g3⟩ := hr2.stored (k * 4 + 2) (.int .i64 (aCu i).2.2.1)
  obtain ⟨hr4, g4⟩ := hr3.stored (k * 4 + 3) (.int .i64 (aCu i).2.2.2)
  have hgB : B ≤ g := (hr.lt g rfl).1
  refine ⟨fun j hj => ?_, fun j hj => ?_, ?_, Nat.le_trans h.siz (Nat.le_trans g1.size (Nat.le_trans g2.size (Nat.le_trans g3.size g4.size)))⟩
  · by_cases e : j = i
    · subst e
      rw [updC_same, hv, ← mixK_set (aCu j) k (xs j) (by rw [hx j hj]; omega), ← hm]
      rw [hm] at hr4 ⊢
      exact hr4
    · rw [updC_other _ _ _ _ e]
      have hne : (v j).ownBlock = none ∨ (v j).ownBlock ≠ some g := by
        rcases hb : (v j).ownBlock with _ | q
        · exact .inl rfl
        · refine .inr fun e' => ?_
          have := hA i j g (fun e'' => e e''.symm) hi hj (by rw [hv]; rfl)
          rw [hb] at this
          exact this e'
      exact ((((h.row j hj).kept g1 hne).kept g2 hne).kept g3 hne).kept g4 hne
  · have hne : (⟨L, j, none⟩ : Addr).block ≠ g := by
      intro e
      have := hL i hi
      rw [hv] at this
      exact this (congrArg some e.symm)
    have hne' : some (⟨L, j, none⟩ : Addr).block ≠ some g := fun e => hne (Option.some.inj e)
    exact g4.cell (g3.cell (g2.cell (g1.cell (h.cel j hj) hne') hne') hne') hne'
  · exact (((h.bel.setCell (p := ⟨g, k * 4, none⟩) hgB _).setCell (p := ⟨g, k * 4 + 1, none⟩) hgB _).setCell (p := ⟨g, k * 4 + 2, none⟩) hgB _).setCell (p := ⟨g, k * 4 + 3, none⟩) hgB _

/-- the lists p that grow out of v -/
structure FpC (M B L H : Nat) (n : Nat → Nat) (v p : Nat → Value) (q : Nat → Nat) (W0 W : World) : Prop where
  P : ∀ j, j < M → HRow W B 36 4 (p j) (n j + q j) (mkG j (n j) (q j))
  A : ∀ j, j < M → ∀ g, (v j).ownBlock = some g → ∀ k, k < n j → W.cell? ⟨g, k * 4 + 1, none⟩ = some (.int .i64 ((1000 + j : Nat) : Int))
  C : ∀ j, j < M → W.cell? ⟨L, j, none⟩ = some (v j)
  pin : ∀ j, j < M → (p j).ownBlock = (v j).ownBlock ∨ ∀ g, (p j).ownBlock = some g → H ≤ g
  pq : ApC M p
  siz : H ≤ W.heap.size
  bel : Below B W0 W

theorem FpC.below {M B L H : Nat} {n : Nat → Nat} {v p : Nat → Value} {q : Nat → Nat} {W0 W W' : World} (h : FpC M B L H n v p q W0 W) (hb : Below W.heap.size W W') (hB : B ≤ W.heap.size) : FpC M B L H n v p q W0 W' :=
  ⟨fun j hj => (h.P j hj).below hb (Nat.le_refl _), fun j hj g hg k hk => cellKeep (h.A j hj g hg k hk) hb, fun j hj => cellKeep (h.C j hj) hb, h.pin, h.pq, Nat.le_trans h.siz hb.size, h.bel.trans (hb.mono hB)⟩

/-- something else grows, that is none of ours -/
theorem FpC.other {M B L H : Nat} {n : Nat → Nat} {v p : Nat → Value} {q : Nat → Nat} {W0 W W' : World} {row : Option Nat} (h : FpC M B L H n v p q W0 W) (hg : W.grownBy W' row) (hB : B ≤ W.heap.size) (hrow : ∀ g, row = some g → H ≤ g ∧ B ≤ g ∧ ∀ j, j < M → (p j).ownBlock ≠ some g)
    (hvH : ∀ j, j < M → ∀ g, (v j).ownBlock = some g → g < H) (hLH : L < H) : FpC M B L H n v p q W0 W' := by
  refine ⟨fun j hj => (h.P j hj).kept hg ?_, fun j hj g hv k hk => hg.cell (h.A j hj g hv k hk) ?_, fun j hj => hg.cell (h.C j hj) ?_, h.pin, h.pq, Nat.le_trans h.siz hg.size, h.bel.grown hg hB (fun g e => (hrow g e).2.1)⟩
  · rcases hb : (p j).ownBlock with _ | g
    · exact .inl rfl
    · exact .inr fun e => (hrow g e.symm).2.2 j hj hb
  · intro e
    have := (hrow g e.symm).1
    have := hvH j hj g hv
    omega
  · intro e
    have := (hrow L e.symm).1
    omega

theorem FpC.step {M B L H : Nat} {n : Nat → Nat} {v p : Nat → Value} {q : Nat → Nat} {W0 W W2 : World} {p' : Value} {i : Nat} (h : FpC M B L H n v p q W0 W) (hi : i < M) (hB : B ≤ W.heap.size)
    (hA : ApC M v) (hvH : ∀ j, j < M → ∀ g, (v j).ownBlock = some g → g < H) (hLH : L < H) (hL : ∀ j, j < M → (v j).ownBlock ≠ some L)
    (own2 : HRow W2 B 36 4 p' (n i + q i + 1) (mkG i (n i) (q i) ++ cuC (bCu i))) (hg : W.grownBy W2 (p i).ownBlock)
    (hw : p'.ownBlock = (p i).ownBlock ∨ (p'.ownBlock = some W.heap.size ∧ W.grownBy W2 none)) :
    FpC M B L H n v (updC p i p') (updC q i (q i + 1)) W0 W2 := by
  have hsz := h.siz
  have hlt := (h.P i hi).lt
  have hother : ∀ j g, j < M → j ≠ i → (p j).ownBlock = some g → (p i).ownBlock ≠ some g := fun j g hj hne e => h.pq j i g hne hj hi e
  refine ⟨fun j hj => ?_, fun j hj g hv k hk => ?_, fun j hj => ?_, fun j hj => ?_, ?_, Nat.le_trans hsz hg.size, h.bel.grown hg hB (fun g e => (hlt g e).1)⟩
  · by_cases e : j = i
    · subst e
      rw [updC_same, updC_same, ← Nat.add_assoc, mkG_succ]
      exact own2
    · rw [updC_other _ _ _ _ e, updC_other _ _ _ _ e]
      refine (h.P j hj).kept hg ?_
      rcases hb : (p j).ownBlock with _ | g
      · exact .inl rfl
      · exact .inr fun e' => hother j g hj e hb e'.symm
  · by_cases hp : (p i).ownBlock = some g
    · have hji : j = i := by
        rcases h.pin i hi with hs | hs
        · by_cases e : j = i
          · exact e
          · exact absurd (hs ▸ hp) (hA j i g e hj hi hv)
        · have := hs g hp
          have := hvH j hj g hv
          omega
      subst hji
      rcases hw with hs | ⟨_, hg0⟩
      · have hp' : p'.ownBlock = some g := hs.trans hp
        obtain ⟨g2, c2, e2, _, _⟩ := own2.form1 (by omega)
        subst e2
        obtain rfl : g2 = g := by simpa [Value.ownBlock] using hp'
        rw [own2.cellAt (k * 4 + 1) (by omega), List.getElem?_append_left (by rw [mkG_len]; omega), mkG_lt _ _ _ _ hk]
      · exact hg0.cell (h.A j hj g hv k hk) (by simp)
    · exact hg.cell (h.A j hj g hv k hk) (fun e => hp e.symm)
  · refine hg.cell (h.C j hj) ?_
    intro e
    rcases h.pin i hi with hs | hs
    · exact hL i hi (hs ▸ e.symm)
    · have := hs L e.symm
      omega
  · by_cases e : j = i
    · subst e
      rw [updC_same]
      rcases hw with hs | ⟨hs, _⟩
      · rw [hs]; exact h.pin j hj
      · exact .inr fun g e => by rw [hs] at e; have := Option.some.inj e; omega
    · rw [updC_other _ _ _ _ e]; exact h.pin j hj
  · intro a b g hab ha hb hpa
    by_cases e1 : a = i
    · subst e1
      rw [updC_same] at hpa
      rw [updC_other _ _ _ _ (fun e => hab e.symm)]
      rcases hw with hs | ⟨hs, _⟩
      · rw [hs] at hpa
        exact h.pq a b g hab ha hb hpa
      · intro hq
        have := ((h.P b hb).lt g hq).2
        rw [hs] at hpa
        have := Option.some.inj hpa
        omega
    · rw [updC_other _ _ _ _ e1] at hpa
      by_cases e2 : b = i
      · subst e2
        rw [updC_same]
        rcases hw with hs | ⟨hs, _⟩
        · rw [hs]
          exact h.pq a b g hab ha hb hpa
        · intro hq
          have := ((h.P a ha).lt g hpa).2
          rw [hs] at hq
          have := Option.some.inj hq
          omega
      · rw [updC_other _ _ _ _ e2]
        exact h.pq a b g hab ha hb hpa
theorem setC_other {W : World} {g k L i : Nat} {x y : Value} (hne : g ≠ L) (h : W.cell? ⟨L, i, none⟩ = some y) : (W.setCell ⟨g, k, none⟩ x).cell? ⟨L, i, none⟩ = some y :=
  (grownBy_set W g k x).cell h (fun e => hne (by cases e; rfl))
theorem noneC_or {x y : Option Nat} (h : ∀ g, x = some g → y ≠ some g) : x = none ∨ x ≠ y := by
  rcases hx : x with _ | g
  · exact .inl rfl
  · exact .inr fun e => h g hx e.symm
theorem info_lists : (Tryd.prog.info? 22).map (fun i => (i.zero, i.size, i.bytes)) = some (some (.slice none 0 0), 1, 24) := by kernel_rfl
end Go.Proofs.YtfoppbignompkaaDoor

namespace Go.Proofs.YtfoppbignompkaaDoor
open Go.RowKit

theorem bCu_cells (i : Nat) : cuC (bCu i) = [.int .u32 0, .int .i64 (2000 + (i : Int)), .int .i64 0, .int .i64 0] := by
  show [Value.int .u32 0, .int .i64 ((2000 + i : Nat) : Int), .int .i64 0, .int .i64 0] = _
  rw [Int.natCast_add]
  rfl
set_option maxRecDepth 100000 in
set_option maxHeartbeats 8000000 in
theorem apartC_any (M : Nat) (hM : M ≤ 4) (n : Nat → Nat) (hn : ∀ j, j < M → n j ≤ 1048576) (v : Nat → Value) (xs : Nat → List Value) (L B : Nat) (w : World) (hB : B ≤ w.heap.size) (hLs : L < w.heap.size)
    (hrow : ∀ j, j < M → HRow w B 36 4 (v j) (n j) (xs j)) (hcel : ∀ j, j < M → w.cell? ⟨L, j, none⟩ = some (v j)) (hA : ApC M v) (hL : ∀ j, j < M → (v j).ownBlock ≠ some L) :
    Calls Tryd.prog 18 #[.slice (some ⟨L, 0, none⟩) M M] w fun e w' => e = .returned (.bool true) ∧ Below B w w' := by
  obtain ⟨i0, hi, hz0, hz1, hz2⟩ := info_parts info_cur
  obtain ⟨i1, hj, hw0, hw1, hw2⟩ := info_parts info_lists
  have HNB := Lib.hid hn
  have HX : Hid (∀ j, j < M → (xs j).length = n j * 4) := Lib.hid fun j hj => (hrow j hj).1
  have M0 : Hid (MaC M B L n v xs (fun _ => 0) w w) := Lib.hid ⟨fun j hj => by rw [mixK_zero]; exact hrow j hj, hcel, Below.refl _ _, Nat.le_refl _⟩
  have HVF : Hid (∀ j, j < M → ∃ ao c, v j = .slice ao (n j) c) := Lib.hid fun j hj => (hrow j hj).form
  have HVG : Hid (∀ j, j < M → 0 < n j → ∃ g c, v j = .slice (some ⟨g, 0, none⟩) (n j) c) := Lib.hid fun j hj hn => by obtain ⟨g, c, e, _⟩ := (hrow j hj).form1 hn; exact ⟨g, c, e⟩
  have HA := Lib.hid hA
  have HL := Lib.hid hL
  have HB := Lib.hid hB
  have HLs := Lib.hid hLs
  clear hrow hcel hA hL hLs hB hn
  go_enter Tryd.func18, Tryd.ntmps18
  go_wp2_with fail
  go_loopw [4] (fun i wr => ∃ i' : Nat, i = .int .i64 (i' : Nat) ∧ i' ≤ M ∧ Hid (MaC M B L n v xs (uptoF n i') w wr)) (fun i _ => M - (intOf i).toNat)
  case atStart => exact ⟨0, rfl, by omega, Lib.hid (by rw [show uptoF n 0 = fun _ => 0 from rfl]; exact M0.out)⟩
  case round =>
    obtain ⟨i, rfl, hi2, hM⟩ := hrel
    by_cases h2 : i < M
    · have h2i : (i : Int) < (M : Int) := by omega
      have h2z : (0 : Int) ≤ (i : Int) := by omega
      have hi4 : i < 4 := by omega
      have hMo := hM.out
      rw [← uptoF_start] at hMo
      have hM := Lib.hid hMo
      have hnb := HNB.out i h2
      obtain ⟨N, hN⟩ : ∃ N, n i = N := ⟨_, rfl⟩
      have HN := Lib.hid hN
      rw [hN] at hnb
      clear hMo hN
      obtain ⟨wo, rfl⟩ : ∃ wo : World, wo = wr := ⟨_, rfl⟩
      go_wp2_with fail
      go_loopw [5] (fun k wr => ∃ k' : Nat, k = .int .i64 (k' : Nat) ∧ k' ≤ N ∧ Hid (MaC M B L n v xs (updC (uptoF n i) i k') w wr)) (fun k _ => N - (intOf k).toNat)
      case atStart => exact ⟨0, rfl, Nat.zero_le _, hM⟩
      case round =>
        clear hM
        obtain ⟨k, rfl, hk, hM⟩ := hrel
        have d0 := hM.out.cel i h2
        obtain ⟨ao, c, hv⟩ := (hM.out.row i h2).form
        rw [hv, HN.out] at d0
        by_cases hkn : k < N
        · have hki : (k : Int) < (N : Int) := by omega
          have hkz : (0 : Int) ≤ (k : Int) := by omega
          obtain ⟨g, c', hv', hBg, hgW⟩ := (hM.out.row i h2).form1 (by rw [HN.out]; omega)
          obtain ⟨rfl, rfl⟩ : ao = some ⟨g, 0, none⟩ ∧ c = c' := by rw [hv] at hv'; injection hv' with e1 e2 e3; exact ⟨e1, e3⟩
          have hr := hM.out.row i h2
          rw [hv] at hr
          have f0 := hr.frozenAt (k * 4)
          have f1 := hr.frozenAt (k * 4 + 1)
          have f2 := hr.frozenAt (k * 4 + 2)
          have f3 := hr.frozenAt (k * 4 + 3)
          have hex : ∀ j, j < 4 → ∃ u, wr.cell? ⟨g, k * 4 + j, none⟩ = some u := fun j hj => ⟨_, (hr.cellAt (k * 4 + j) (by rw [HN.out]; omega)).trans (List.getElem?_eq_getElem (by have := hr.1; rw [HN.out] at this; omega))⟩
          obtain ⟨u0, e0⟩ := hex 0 (by omega)
          obtain ⟨u1, e1⟩ := hex 1 (by omega)
          obtain ⟨u2, e2⟩ := hex 2 (by omega)
          obtain ⟨u3, e3⟩ := hex 3 (by omega)
          rw [Nat.add_zero] at e0
          have HV := Lib.hid hv
          clear hv hv' hr hex
          go_wp2_with fail
          refine ⟨⟨k + 1, by go_num, by omega, Lib.hid ?_⟩, by simp [intOf]; omega⟩
          have := hM.out.step HA.out HX.out HL.out h2 (show k < n i by rw [HN.out]; exact hkn) (updC_same _ _ _) HV.out (1000 + (i : Int)) (by omega)
          rw [updC_updC] at this
          exact this
        · obtain rfl : k = N := by omega
          have hkd : decide (k < k) = false := decide_eq_false (by omega)
          have hMo := hM.out
          rw [← HN.out, uptoF_next] at hMo
          have hM := Lib.hid hMo
          clear hMo
          go_wp2_with fail
          exact ⟨⟨i + 1, by go_num, by omega, hM⟩, by simp [intOf]; omega⟩
    · obtain rfl : i = M := by omega
      have hsz := hM.out.siz
      have hLH : L < wr.heap.size := Nat.lt_of_lt_of_le HLs.out hsz
      have hBH : B ≤ wr.heap.size := Nat.le_trans HB.out hsz
      have hvH : Hid (∀ j, j < i → ∀ g, (v j).ownBlock = some g → g < wr.heap.size) := Lib.hid fun j hj g hg => ((hM.out.row j hj).lt g hg).2
      have F0 : Hid (FpC i B L wr.heap.size n v v (uptoF (fun _ => 30) 0) w wr) := by
        have hr : ∀ j, j < i → HRow wr B 36 4 (v j) (n j) (repC (aCu j) (n j)) := fun j hj => by
          have := hM.out.row j hj
          rw [uptoF_lt _ _ _ hj, mixK_full _ _ _ (HX.out j hj)] at this
          exact this
        refine Lib.hid ⟨fun j hj => ?_, fun j hj g hg k hk => ?_, hM.out.cel, fun j hj => .inl rfl, HA.out, Nat.le_refl _, hM.out.bel⟩
        · rw [show uptoF (fun _ => 30) 0 j = 0 from if_neg (Nat.not_lt_zero _), mkG_zero]
          exact hr j hj
        · obtain ⟨g', c', e', _, _⟩ := (hr j hj).form1 (by omega)
          have h := hr j hj
          rw [e'] at h hg
          obtain rfl : g' = g := by simpa [Value.ownBlock] using hg
          rw [h.cellAt (k * 4 + 1) (by omega), repC_get _ _ _ hk]
          rfl
      obtain ⟨H, hH⟩ : ∃ H, wr.heap.size = H := ⟨_, rfl⟩
      rw [hH] at hLH hBH hvH F0
      have HLH := Lib.hid hLH
      have HBH := Lib.hid hBH
      obtain ⟨M, rfl⟩ : ∃ M, M = i := ⟨_, rfl⟩
      have hkd : decide (M < M) = false := decide_eq_false (by omega)
      clear M0 hM hH hsz hLH hBH hi2
      go_wp2_with fail
      go_loopw [3, 6] (fun gr i W => ∃ (i' : Nat) (p : Nat → Value), i = .int .i64 (i' : Nat) ∧ i' ≤ M ∧ Hid (FpC M B L H n v p (uptoF (fun _ => 30) i') w W) ∧ Hid (∀ j, i' ≤ j → p j = v j) ∧ Hid (W.ownsRow H 22 1 gr i' ((List.range i').map p))) (fun _ i _ => M - (intOf i).toNat)
      case atStart => exact ⟨0, v, rfl, by omega, F0, Lib.hid fun _ _ => rfl, Lib.hid (World.ownsRow_nil _ _ _ _)⟩
      case round =>
        clear F0 hkd
        obtain ⟨i, p0, rfl, hi2, hF, hpv, hG⟩ := hrel
        by_cases h2 : i < M
        · have h2i : (i : Int) < (M : Int) := by omega
          have h2z : (0 : Int) ≤ (i : Int) := by omega
          have hi4 : i < 4 := by omega
          have d0 := hF.out.C i h2
          have hP := hF.out.P i h2
          rw [hpv.out i (Nat.le_refl _), show uptoF (fun _ => 30) i i = 0 from if_neg (Nat.lt_irrefl _), Nat.add_zero] at hP
          obtain ⟨ao, c, hv⟩ := hP.form
          rw [hv] at d0
          have HV := Lib.hid (hv.symm.trans (hpv.out i (Nat.le_refl _)).symm)
          have hFo := hF.out
          rw [← uptoF_start] at hFo
          have hF := Lib.hid hFo
          have hnb := HNB.out i h2
          clear hFo hP hv
          obtain ⟨wo, rfl⟩ : ∃ wo : World, wo = wr := ⟨_, rfl⟩
          go_wp2_with fail
          go_loopw [7, 8] (fun g k W => ∃ (k' : Nat) (p : Nat → Value), k = .int .i64 (k' : Nat) ∧ k' ≤ 30 ∧ Hid (g = p i) ∧ Hid (FpC M B L H n v p (updC (uptoF (fun _ => 30) i) i k') w W) ∧ Hid (∀ j, j ≠ i → p j = p0 j) ∧ Hid (W.ownsRow H 22 1 u3 i ((List.range i).map p0))) (fun _ k _ => 30 - (intOf k).toNat)
          case atStart => exact ⟨0, p0, rfl, by omega, HV, hF, Lib.hid fun _ _ => rfl, hG⟩
          case round =>
            clear hF hG HV d0
            obtain ⟨k, p, rfl, hk, hgp, hF, hpp, hG⟩ := hrel
            have hP := hF.out.P i h2
            rw [← hgp.out, updC_same] at hP
            obtain ⟨a7, c7, rfl⟩ := hP.form
            have hHs := hF.out.siz
            have hBs : B ≤ wr.heap.size := Nat.le_trans HBH.out hHs
            by_cases hk7 : k < 30
            · have hki : (k : Int) < 30 := by omega
              have hrowb := Lib.hid (hP.below ((Below.refl _ _).alloc (Nat.le_refl _) (.cells #[.int .u32 0, .int .i64 (2000 + (i : Int)), .int .i64 0, .int .i64 0] 36)) (Nat.le_refl _))
              clear hP
              go_wp2_with (at_builtin; refine wpList_append_held rfl _ _ 22 rfl B 36 i0 (.agg #[.int .u32 0, .int .i64 0, .int .i64 0, .int .i64 0]) 4 32 Tryd.underlying22 hi hz0 hz1 hz2 rfl _ _ _ rfl hrowb.out ⟨wr.heap.size, 0, none⟩ 1 1 [.int .u32 0, .int .i64 (2000 + (i : Int)), .int .i64 0, .int .i64 0] rfl (by simp) (cells_new _ _ _) (by simp [Value.oneCell']) (by unfold maxLen; omega) (by omega) (by rw [World.size_alloc]; omega) (by omega) ?_; intro v4 w4 hown4 hgrow4 hwh4)
              refine ⟨⟨k + 1, updC p i v4, by go_num, by omega, Lib.hid (updC_same _ _ _).symm, Lib.hid ?_, Lib.hid fun j hj => by rw [updC_other _ _ _ _ hj]; exact hpp.out j hj, Lib.hid ?_⟩, by simp [intOf]; omega⟩
              · have hFb := hF.out.below ((Below.refl _ _).alloc (Nat.le_refl _) (.cells #[.int .u32 0, .int .i64 (2000 + (i : Int)), .int .i64 0, .int .i64 0] 36)) hBs
                have hq : updC (uptoF (fun _ => 30) i) i k i = k := updC_same _ _ _
                have := hFb.step h2 (by rw [World.size_alloc]; omega) HA.out hvH.out HLH.out HL.out (p' := v4) (by rw [hq, bCu_cells]; exact hown4) (by rw [← hgp.out]; exact hgrow4) (by rw [← hgp.out]; exact hwh4)
                rw [updC_updC, hq] at this
                exact this
              · have hGb := hG.out.alloc (.cells #[.int .u32 0, .int .i64 (2000 + (i : Int)), .int .i64 0, .int .i64 0] 36)
                exact hGb.kept hgrow4 (noneC_or ((HRow.of_own hGb).apart hrowb.out (by decide)))
            · obtain rfl : k = 30 := by omega
              have hFo := hF.out
              rw [show updC (uptoF (fun _ => 30) i) i 30 = uptoF (fun _ => 30) (i + 1) from uptoF_next (fun _ => 30) i] at hFo
              have hF := Lib.hid hFo
              have hPH := Lib.hid hP
              clear hFo hP
              go_wp2_with (at_builtin; refine wpList_append_own _ rfl _ _ 31 rfl H 22 i1 (.slice none 0 0) 1 24 Tryd.underlying31 hj hw0 hw1 hw2 rfl (by decide) u3 i _ rfl (hG.out.alloc _) ⟨wr.heap.size, 0, none⟩ 1 1 [.slice a7 (n i + 30) c7] rfl (by simp) (cells_new _ _ _) (by simp [Value.oneCell']) (by unfold maxLen; omega) (by omega) (by rw [World.size_alloc]; omega) ?_; intro v4 w4 hown4 hgrow4 _)
              refine ⟨⟨i + 1, p, by go_num, by omega, Lib.hid ?_, Lib.hid fun j hj => (hpp.out j (by omega)).trans (hpv.out j (by omega)), Lib.hid ?_⟩, by simp [intOf]; omega⟩
              · refine (hF.out.below ((Below.refl _ _).alloc (Nat.le_refl _) (.cells #[.slice a7 (n i + 30) c7] 22)) hBs).other hgrow4 (by rw [World.size_alloc]; omega) (fun g e => ⟨(hG.out.lt g e).1, Nat.le_trans HBH.out (hG.out.lt g e).1, fun j hj => ?_⟩) hvH.out HLH.out
                exact (HRow.of_own hG.out).apart (hF.out.P j hj) (by decide) g e
              · rw [List.range_succ, List.map_append, List.map_singleton, ← hgp.out]
                rw [show List.map p (List.range i) = List.map p0 (List.range i) from List.map_congr_left fun j hj => hpp.out j (by have := List.mem_range.1 hj; omega)]
                exact hown4
        · obtain rfl : i = M := by omega
          have HGC : Hid (∀ j, j < i → ∃ gp cp, wr.cell? ⟨(u3.ownBlock).getD 0, j, none⟩ = some (.slice (some ⟨gp, 0, none⟩) (n j + 30) cp) ∧ (∀ k, k < n j → wr.cell? ⟨gp, k * 4 + 1, none⟩ = some (.int .i64 ((1000 + j : Nat) : Int))) ∧ ∀ k, n j ≤ k → k < n j + 30 → wr.cell? ⟨gp, k * 4 + 1, none⟩ = some (.int .i64 ((2000 + j : Nat) : Int))) := Lib.hid fun j hj => by
            obtain ⟨i', rfl⟩ : ∃ i', i = i' + 1 := ⟨i - 1, by omega⟩
            obtain ⟨gG, cG, e5⟩ := ownsRow_succ hG.out
            have hc := hG.out
            rw [e5] at hc
            have h1 := hc.cellAt j (by omega)
            rw [List.getElem?_map, List.getElem?_range hj] at h1
            have hp := hF.out.P j hj
            rw [uptoF_lt _ _ _ hj] at hp
            obtain ⟨gp, cp, ep, _, _⟩ := hp.form1 (by omega)
            rw [e5]
            rw [ep] at hp
            refine ⟨gp, cp, h1.trans (by rw [← ep]; rfl), fun k hk => ?_, fun k hk hk2 => ?_⟩
            · rw [hp.cellAt (k * 4 + 1) (by omega), mkG_lt _ _ _ _ hk]
            · rw [hp.cellAt (k * 4 + 1) (by omega), mkG_ge _ _ _ _ hk hk2]
          obtain ⟨aG, cG, e5⟩ : ∃ a cap, u3 = .slice a i cap := (HRow.of_own hG.out).form
          have HG5 : Hid (0 < i → aG = some ⟨(u3.ownBlock).getD 0, 0, none⟩) := Lib.hid fun h0 => by
            obtain ⟨g5, c5, e6, _, _⟩ := (HRow.of_own hG.out).form1 h0
            rw [e5] at e6
            injection e6 with e7
            rw [e5, e7]
            rfl
          obtain ⟨gG, hgG⟩ : ∃ gG, (u3.ownBlock).getD 0 = gG := ⟨_, rfl⟩
          rw [hgG] at HGC HG5
          clear hgG
          subst e5
          have hBs : B ≤ wr.heap.size := Nat.le_trans HBH.out hF.out.siz
          clear hG h2
          obtain ⟨W9, hW9⟩ : ∃ W9, wr = W9 := ⟨_, rfl⟩
          rw [hW9] at hF HGC hBs ⊢
          clear hW9
          obtain ⟨M, rfl⟩ : ∃ M, M = i := ⟨_, rfl⟩
          have hkd : decide (M < M) = false := decide_eq_false (by omega)
          clear hi2
          go_wp2_with fail
          clear hkd
          go_loopw [9] (fun i W => ∃ (i' : Nat), i = .int .i64 (i' : Nat) ∧ i' ≤ M ∧ Below W9.heap.size W9 W) (fun i _ => M - (intOf i).toNat)
          case atStart => exact ⟨0, rfl, by omega, Below.refl _ _⟩
          case round =>
            obtain ⟨i, rfl, hi2, hb⟩ := hrel
            by_cases h2 : i < M
            · have h2i : (i : Int) < (M : Int) := by omega
              have h2z : (0 : Int) ≤ (i : Int) := by omega
              have hi4 : i < 4 := by omega
              obtain rfl := HG5.out (by omega)
              obtain ⟨gp, cp, hc, hcs, hct⟩ := HGC.out i h2
              have HCS := Lib.hid hcs
              have HCT := Lib.hid hct
              have hl := hF.out.C i h2
              obtain ⟨ao, c, hv⟩ := HVF.out i h2
              rw [hv] at hl
              have HVI := Lib.hid (HVG.out i h2)
              have HV := Lib.hid hv
              have HA0 := Lib.hid (hF.out.A i h2)
              have hnb := HNB.out i h2
              obtain ⟨N, hN⟩ : ∃ N, n i = N := ⟨_, rfl⟩
              rw [hN] at hc HCS HCT hl HVI HV HA0 hnb
              clear hcs hct hv hN
              obtain ⟨N3, hN3⟩ : ∃ N3, N + 30 = N3 := ⟨_, rfl⟩
              rw [hN3] at hc HCT
              have hN3b : N3 ≤ 1048606 := by omega
              have HN3 := Lib.hid hN3
              have d0 := cellKeep hc hb
              clear hN3
              obtain ⟨wo, rfl⟩ : ∃ wo : World, wo = wr := ⟨_, rfl⟩
              go_wp2_with fail
              go_loopw [10] (fun k W => ∃ (k' : Nat), k = .int .i64 (k' : Nat) ∧ k' ≤ N3 ∧ Below W9.heap.size W9 W) (fun k _ => N3 - (intOf k).toNat)
              case atStart => exact ⟨0, rfl, Nat.zero_le _, hb⟩
              case round =>
                clear d0 hb
                obtain ⟨k, rfl, hk, hb⟩ := hrel
                have d0 := cellKeep hc hb
                by_cases hkN : k < N3
                · have hki : (k : Int) < (N3 : Int) := by omega
                  have hkz : (0 : Int) ≤ (k : Int) := by omega
                  have d2 := cellKeep hl hb
                  by_cases hkn : k < N
                  · have hkj : (k : Int) < (N : Int) := by omega
                    have hkd : decide (N ≤ k) = false := decide_eq_false (by omega)
                    have d1 := cellKeep (HCS.out k hkn) hb
                    obtain ⟨g, hg⟩ : ∃ g, ao = some ⟨g, 0, none⟩ := by
                      obtain ⟨g, c', e⟩ := HVI.out (by omega)
                      rw [HV.out] at e
                      injection e with e1
                      exact ⟨g, e1⟩
                    subst hg
                    have d3 := cellKeep (HA0.out g (by rw [HV.out]; rfl) k hkn) hb
                    rw [Int.natCast_add, show ((1000 : Nat) : Int) = 1000 from rfl] at d1 d3
                    go_wp2_with fail
                    exact ⟨⟨k + 1, by go_num, by omega, hb⟩, by simp [intOf]; omega⟩
                  · have hkd : decide (k < N) = false := decide_eq_false hkn
                    have hkd2 : decide ((k : Int) < (N : Int)) = false := decide_eq_false (by omega)
                    have hkd3 : (N : Int) ≤ (k : Int) := by omega
                    have d1 := cellKeep (HCT.out k (by omega) hkN) hb
                    rw [Int.natCast_add, show ((2000 : Nat) : Int) = 2000 from rfl] at d1
                    go_wp2_with fail
                    exact ⟨⟨k + 1, by go_num, by omega, hb⟩, by simp [intOf]; omega⟩
                · obtain rfl : k = N3 := by omega
                  have hkd : decide (k < k) = false := decide_eq_false (by omega)
                  go_wp2_with fail
                  exact ⟨⟨i + 1, by go_num, by omega, hb⟩, by simp [intOf]; omega⟩
            · obtain rfl : i = M := by omega
              have hkd : decide (i < i) = false := decide_eq_false (by omega)
              go_wp2_with fail
              go_ret
              exact ⟨rfl, hF.out.bel.trans (hb.mono hBs)⟩
end Go.Proofs.YtfoppbignompkaaDoor

namespace Go.Proofs.YtfoppbignompkaaDoor
open Go.RowKit

theorem refgoes_any (p A O I : Int) (hp : 0 ≤ p) (hp2 : p ≤ 9223372036854775807) (hA : 0 ≤ A) (hO : 0 ≤ O) (hI : 0 ≤ I) (hAO : A + O ≤ 9223372036854775807) (hAI : A + I ≤ 9223372036854775807) (w : World) :
    Calls Tryd.prog 44 #[.int .i64 p, .agg #[.int .i64 A, .int .i64 O, .int .i64 I]] w fun e w' => e = .returned (.tuple #[.int .i64 (goesV p A O I).1, .bool (goesV p A O I).2]) ∧ Below w.heap.size w w' := by
  obtain ⟨d0, d1, d2⟩ := box3 w 24 (.int .i64 A) (.int .i64 O) (.int .i64 I)
  by_cases h1 : p < A
  · rw [goesV_1 h1]
    go_enter Tryd.func44, Tryd.ntmps44
    go_wp2_with fail
    go_ret2
    exact ⟨rfl, al (Below.refl _ _) _⟩
  · have h1d : decide (p < A) = false := decide_eq_false h1
    by_cases h2 : A + O < p
    · rw [goesV_2 h1 h2]
      have h2d : decide (A + O < p) = true := decide_eq_true h2
      have hw1 : IntKind.i64.wrap (9223372036854775807 - I) = 9223372036854775807 - I := IntWalk.i64_in _ (by omega)
      have hb0 : Below w.heap.size w (w.alloc (.cells #[.int .i64 A, .int .i64 O, .int .i64 I] 24)) := al (Below.refl _ _) _
      go_enter Tryd.func44, Tryd.ntmps44
      go_wp2_with fail
      go_quiet (fail)
      go_wp2_with fail
      go_ret2
      exact ⟨rfl, below_drewN' hb0 _⟩
    · rw [goesV_3 h1 h2]
      have h2d : decide (A + O < p) = false := decide_eq_false h2
      go_enter Tryd.func44, Tryd.ntmps44
      go_wp2_with fail
      go_ret2
      exact ⟨rfl, al (Below.refl _ _) _⟩
set_option maxRecDepth 100000 in
set_option maxHeartbeats 8000000 in
theorem refwrong_any (ao : Option Addr) (cap : Nat) (zs : List Cu) (n : Nat) (hl : zs.length = n) (hn : n ≤ 140737488351232) (w : World) (hR : ReadsC w ao zs) :
    Calls Tryd.prog 43 #[.slice ao n cap] w fun e w' => e = .returned (.int .i64 (wrongN zs)) ∧ Below w.heap.size w w' := by
  have HR := Lib.hid hR
  have HL := Lib.hid hl
  clear hR hl
  by_cases h8 : 8 < n
  · rw [wrongN_long (by rw [HL.out]; exact h8)]
    have h8i : (8 : Int) < (n : Int) := by omega
    go_enter Tryd.func43, Tryd.ntmps43
    go_wp2_with fail
    go_ret
    exact ⟨rfl, Below.refl _ _⟩
  · have h8i : decide (8 < (n : Int)) = false := decide_eq_false (by omega)
    have h8n : decide (8 < n) = false := decide_eq_false (by omega)
    have hn8 : n ≤ 8 := by omega
    clear h8 hn
    go_enter Tryd.func43, Tryd.ntmps43
    go_wp2_with fail
    go_loopw [3] (fun i wr => ∃ k : Nat, i = .int .i64 (k : Nat) ∧ k ≤ n ∧ Hid (∀ j, j < k → badC zs j = false) ∧ Below w.heap.size w wr) (fun i _ => n - (intOf i).toNat)
    case atStart => exact ⟨0, rfl, Nat.zero_le _, Lib.hid (fun j hj => by omega), Below.refl _ _⟩
    case round =>
      obtain ⟨k, rfl, hk, hok, hb⟩ := hrel
      by_cases hlt : k < n
      · have hki : (k : Int) < (n : Int) := by omega
        have hk0 : (0 : Int) ≤ (k : Int) := by omega
        have hkz : k < zs.length := by rw [HL.out]; exact hlt
        rcases HR.out with h0 | ⟨b, off, rfl, hcs⟩
        · rw [h0] at hkz; simp at hkz
        have HCS := Lib.hid hcs
        obtain ⟨x0, x1, x2, x3⟩ := hcs k hkz
        have x0 := cellKeep x0 hb
        have x1 := cellKeep x1 hb
        have x2 := cellKeep x2 hb
        have x3 := cellKeep x3 hb
        have hbad : badC zs k = (lowC (zs[k]?.getD cuZ) || (decide (0 < k) && decide ((zs[k]?.getD cuZ).1 ≤ (zs[k - 1]?.getD cuZ).1))) := rfl
        obtain ⟨c, hc⟩ : ∃ c, zs[k]?.getD cuZ = c := ⟨_, rfl⟩
        rw [hc] at x0 x1 x2 x3 hbad
        obtain ⟨i, a, d, g⟩ := c
        simp only at x0 x1 x2 x3 hbad
        have k0 := Later.cell x0
        have k1 := Later.cell x1
        have k2 := Later.cell x2
        have k3 := Later.cell x3
        clear hcs x0 x1 x2 x3 hc
        by_cases ha : a < 0
        · have HW := Lib.hid (wrongN_bad (zs := zs) (by rw [HL.out]; exact hn8) hkz (by rw [hbad, show lowC (i, a, d, g) = true from decide_eq_true (.inl ha)]; rfl))
          have had : decide (a < 0) = true := decide_eq_true ha
          clear hbad hkz HCS
          go_wp2_with fail
          refine wp_region_later (by kernel_rfl) (by kernel_rfl) ?_
          repeat (go_big_quiet_step (fail))
          refine wpQuiet_nil ?_
          intro _ hw'
          obtain ⟨pq, hw''⟩ := hw'
          subst hw''
          go_wp2_with fail
          go_ret
          exact ⟨by rw [HW.out]; rfl, nx hb pq.hb⟩
        · have had : decide (a < 0) = false := decide_eq_false ha
          by_cases hd : d < 0
          · have HW := Lib.hid (wrongN_bad (zs := zs) (by rw [HL.out]; exact hn8) hkz (by rw [hbad, show lowC (i, a, d, g) = true from decide_eq_true (.inr (.inl hd))]; rfl))
            have hdd : decide (d < 0) = true := decide_eq_true hd
            clear hbad hkz HCS
            go_wp2_with fail
            refine wp_region_later (by kernel_rfl) (by kernel_rfl) ?_
            repeat (go_big_quiet_step (fail))
            refine wpQuiet_nil ?_
            intro _ hw'
            obtain ⟨pq, hw''⟩ := hw'
            subst hw''
            go_wp2_with fail
            go_ret
            exact ⟨by rw [HW.out]; rfl, nx hb pq.hb⟩
          · have hdd : decide (d < 0) = false := decide_eq_false hd
            by_cases hg : g < 0
            · have HW := Lib.hid (wrongN_bad (zs := zs) (by rw [HL.out]; exact hn8) hkz (by rw [hbad, show lowC (i, a, d, g) = true from decide_eq_true (.inr (.inr hg))]; rfl))
              have hgd : decide (g < 0) = true := decide_eq_true hg
              clear hbad hkz HCS
              go_wp2_with fail
              refine wp_region_later (by kernel_rfl) (by kernel_rfl) ?_
              repeat (go_big_quiet_step (fail))
              refine wpQuiet_nil ?_
              intro _ hw'
              obtain ⟨pq, hw''⟩ := hw'
              subst hw''
              go_wp2_with fail
              go_ret
              exact ⟨by rw [HW.out]; rfl, nx hb pq.hb⟩
            · have hgd : decide (g < 0) = false := decide_eq_false hg
              rw [show lowC (i, a, d, g) = false from decide_eq_false (show ¬ (a < 0 ∨ d < 0 ∨ g < 0) by omega), Bool.false_or] at hbad
              by_cases hk1 : 0 < k
              · obtain ⟨j, hj⟩ : ∃ j : Nat, j = k - 1 := ⟨_, rfl⟩
                have hj1 : (k : Int) - 1 = (j : Int) := by omega
                have hwj : IntKind.i64.wrap (j : Int) = (j : Int) := IntWalk.i64_in _ (by omega)
                have hj0 : (0 : Int) ≤ (j : Int) := by omega
                have hjn : (j : Int) < (n : Int) := by omega
                have hkp : (0 : Int) < (k : Int) := by omega
                obtain ⟨y0, -⟩ := HCS.out j (by rw [HL.out]; omega)
                rw [← hj] at hbad
                obtain ⟨pi, hpi⟩ : ∃ x, (zs[j]?.getD cuZ).1 = x := ⟨_, rfl⟩
                rw [hpi] at y0 hbad
                have k4 := Later.cell (cellKeep y0 hb)
                clear hj hpi y0
                by_cases hle : i ≤ pi
                · have HW := Lib.hid (wrongN_bad (zs := zs) (by rw [HL.out]; exact hn8) hkz (by rw [hbad]; simp [hk1, hle]))
                  clear hbad hkz HCS
                  go_wp2_with fail
                  refine wp_region_later (by kernel_rfl) (by kernel_rfl) ?_
                  repeat (go_big_quiet_step (fail))
                  refine wpQuiet_nil ?_
                  intro _ hw'
                  obtain ⟨pq, hw''⟩ := hw'
                  subst hw''
                  go_wp2_with fail
                  go_ret
                  exact ⟨by rw [HW.out]; rfl, nx hb pq.hb⟩
                · have HNB := Lib.hid (show badC zs k = false by rw [hbad]; simp [hle])
                  have hle2 : decide (i ≤ pi) = false := decide_eq_false hle
                  clear hbad hkz HCS
                  go_wp2_with fail
                  refine wp_region_later (by kernel_rfl) (by kernel_rfl) ?_
                  repeat (go_big_quiet_step (fail))
                  refine wpQuiet_nil ?_
                  intro _ hw'
                  obtain ⟨pq, hw''⟩ := hw'
                  subst hw''
                  go_wp2_with fail
                  exact ⟨⟨k + 1, by go_num, hlt, Lib.hid (fun j hj => by rcases Nat.lt_succ_iff_lt_or_eq.1 hj with h | rfl; exact hok.out j h; exact HNB.out), nx hb pq.hb⟩, by simp [intOf]; omega⟩
              · have HNB := Lib.hid (show badC zs k = false by rw [hbad]; simp [hk1])
                have hkp : decide ((0 : Int) < (k : Int)) = false := decide_eq_false (by omega)
                have hkp2 : decide (0 < k) = false := decide_eq_false hk1
                clear hbad hkz HCS
                go_wp2_with fail
                refine wp_region_later (by kernel_rfl) (by kernel_rfl) ?_
                repeat (go_big_quiet_step (fail))
                refine wpQuiet_nil ?_
                intro _ hw'
                obtain ⟨pq, hw''⟩ := hw'
                subst hw''
                go_wp2_with fail
                exact ⟨⟨k + 1, by go_num, hlt, Lib.hid (fun j hj => by rcases Nat.lt_succ_iff_lt_or_eq.1 hj with h | rfl; exact hok.out j h; exact HNB.out), nx hb pq.hb⟩, by simp [intOf]; omega⟩
      · obtain rfl : k = n := by omega
        have HW := Lib.hid (wrongN_ok (zs := zs) (by rw [HL.out]; omega) (fun j hj => hok.out j (by rw [← HL.out]; exact hj)))
        have hkd : decide (k < k) = false := decide_eq_false (by omega)
        go_wp2_with fail
        go_ret
        exact ⟨by rw [HW.out]; rfl, hb⟩

set_option maxRecDepth 10000 in
set_option maxHeartbeats 4000000 in
theorem refshift_bad (ao : Option Addr) (cap : Nat) (zs : List Cu) (n : Nat) (hl : zs.length = n) (hn : n ≤ 140737488351232) (A O I : Int) (er : Int) (her : wrongN zs = er) (hz : er ≠ 0) (w : World) (hR : ReadsC w ao zs) :
    Calls Tryd.prog 15 #[.slice ao n cap, .agg #[.int .i64 A, .int .i64 O, .int .i64 I]] w fun e w' => e = .returned (.tuple #[.slice none 0 0, .int .i64 er]) ∧ Below w.heap.size w w' := by
  have HW := Lib.hid (fun w hR => refwrong_any ao cap zs n hl hn w hR)
  have HR := Lib.hid hR
  rw [her] at HW
  have hne : (er != 0) = true := bne_iff_ne.2 hz
  clear hl hR her hz
  obtain ⟨d0, d1, d2⟩ := box3 w 24 (.int .i64 A) (.int .i64 O) (.int .i64 I)
  have hbk := Blk.new w 24 [.int .i64 A, .int .i64 O, .int .i64 I]
  have hb0 : Below w.heap.size w (w.alloc (.cells #[.int .i64 A, .int .i64 O, .int .i64 I] 24)) := al (Below.refl _ _) _
  obtain ⟨W, hW⟩ : ∃ W, w.alloc (.cells #[.int .i64 A, .int .i64 O, .int .i64 I] 24) = W := ⟨_, rfl⟩
  replace hbk : Blk W w.heap.size 24 [.int .i64 A, .int .i64 O, .int .i64 I] := hW ▸ hbk
  rw [hW] at d0 d1 d2 hb0
  go_enter Tryd.func15, Tryd.ntmps15
  go_wp2_with (go_at_call 43; (with_reducible refine (HW.out _ (HR.out.below hb0)).mono ?_); rintro e w1 ⟨rfl, hb1⟩)
  go_ret2
  exact ⟨rfl, nx hb0 hb1⟩
set_option maxRecDepth 10000 in
set_option maxHeartbeats 4000000 in
theorem refshift_arg (ao : Option Addr) (cap : Nat) (zs : List Cu) (n : Nat) (hl : zs.length = n) (hn : n ≤ 140737488351232) (A O I : Int) (hA : -9223372036854775808 ≤ A ∧ A ≤ 9223372036854775807) (hO : -9223372036854775808 ≤ O ∧ O ≤ 9223372036854775807) (hI : -9223372036854775808 ≤ I ∧ I ≤ 9223372036854775807)
    (her : wrongN zs = 0) (hx : A < 0 ∨ O < 0 ∨ I < 0 ∨ 9223372036854775807 < A + O ∨ 9223372036854775807 < A + I) (w : World) (hR : ReadsC w ao zs) :
    Calls Tryd.prog 15 #[.slice ao n cap, .agg #[.int .i64 A, .int .i64 O, .int .i64 I]] w fun e w' => e = .returned (.tuple #[.slice none 0 0, .int .i64 2]) ∧ Below w.heap.size w w' := by
  have HW := Lib.hid (fun w hR => refwrong_any ao cap zs n hl hn w hR)
  have HR := Lib.hid hR
  rw [her] at HW
  clear hl hR her
  obtain ⟨d0, d1, d2⟩ := box3 w 24 (.int .i64 A) (.int .i64 O) (.int .i64 I)
  have hbk := Blk.new w 24 [.int .i64 A, .int .i64 O, .int .i64 I]
  have hb0 : Below w.heap.size w (w.alloc (.cells #[.int .i64 A, .int .i64 O, .int .i64 I] 24)) := al (Below.refl _ _) _
  obtain ⟨W, hW⟩ : ∃ W, w.alloc (.cells #[.int .i64 A, .int .i64 O, .int .i64 I] 24) = W := ⟨_, rfl⟩
  replace hbk : Blk W w.heap.size 24 [.int .i64 A, .int .i64 O, .int .i64 I] := hW ▸ hbk
  rw [hW] at d0 d1 d2 hb0
  obtain ⟨hA1, hA2⟩ := hA
  obtain ⟨hO1, hO2⟩ := hO
  obtain ⟨hI1, hI2⟩ := hI
  go_enter Tryd.func15, Tryd.ntmps15
  go_wp2_with (go_at_call 43; (with_reducible refine (HW.out _ (HR.out.below hb0)).mono ?_); rintro e w1 ⟨rfl, hb1⟩; have e0 := cellKeep d0 hb1; have e1 := cellKeep d1 hb1; have e2 := cellKeep d2 hb1)
  all_goals first
    | (exfalso; omega)
    | (go_ret2; exact ⟨rfl, nx hb0 hb1⟩)
end Go.Proofs.YtfoppbignompkaaDoor

namespace Go.Proofs.YtfoppbignompkaaDoor
open Go.RowKit

/-- what a walk over a list has laid out before place `k` -/
def outG (zs : List Cu) (p s : Nat) (M : List Cu) (k : Nat) : List Cu := if k ≤ p then zs.take k else zs.take p ++ M ++ (zs.take k).drop s
theorem take_atC (zs : List Cu) (k : Nat) (h : k < zs.length) : zs.take (k + 1) = zs.take k ++ [zs[k]?.getD cuZ] := by
  rw [List.take_succ_eq_append_getElem h, List.getElem?_eq_getElem h]
  rfl
theorem outG_lt (zs : List Cu) (p s : Nat) (M : List Cu) (k : Nat) (h : k < p) (hk : k < zs.length) : outG zs p s M (k + 1) = outG zs p s M k ++ [zs[k]?.getD cuZ] := by
  unfold outG
  rw [if_pos (by omega), if_pos (by omega), take_atC zs k hk]
theorem outG_eq (zs : List Cu) (p : Nat) (M : List Cu) (hk : p < zs.length) : outG zs p (p + 1) M (p + 1) = outG zs p (p + 1) M p ++ M := by
  unfold outG
  rw [if_neg (by omega), if_pos (by omega), List.drop_of_length_le (by rw [List.length_take]; omega), List.append_nil]
theorem outG_eq' (zs : List Cu) (p : Nat) (M : List Cu) (hk : p < zs.length) : outG zs p p M (p + 1) = outG zs p p M p ++ M ++ [zs[p]?.getD cuZ] := by
  unfold outG
  rw [if_neg (by omega), if_pos (by omega), take_atC zs p hk, List.drop_append_of_le_length (by rw [List.length_take]; omega), List.drop_of_length_le (by rw [List.length_take]; omega), List.nil_append]
theorem outG_gt (zs : List Cu) (p s : Nat) (M : List Cu) (k : Nat) (h : p < k) (hs : s ≤ k) (hk : k < zs.length) : outG zs p s M (k + 1) = outG zs p s M k ++ [zs[k]?.getD cuZ] := by
  unfold outG
  rw [if_neg (by omega), if_neg (by omega), take_atC zs k hk, List.drop_append_of_le_length (by rw [List.length_take]; omega)]
  simp only [List.append_assoc]
theorem outG_len (zs : List Cu) (p s : Nat) (M : List Cu) (k : Nat) : (outG zs p s M k).length ≤ k + k + M.length := by
  unfold outG
  split
  · rw [List.length_take]; omega
  · rw [List.length_append, List.length_append, List.length_take, List.length_drop, List.length_take]; omega
theorem outG_end (zs : List Cu) (p s : Nat) (M : List Cu) (h : p < zs.length) : outG zs p s M zs.length = zs.take p ++ M ++ zs.drop s := by
  unfold outG
  rw [if_neg (by omega), List.take_length]
theorem outG_end' (zs : List Cu) (s : Nat) (M : List Cu) : outG zs zs.length s M zs.length = zs := by
  unfold outG
  rw [if_pos (Nat.le_refl _), List.take_length]
theorem outG_none (zs : List Cu) (p : Nat) (k : Nat) : outG zs p p [] k = zs.take k := by
  unfold outG
  split
  · rfl
  · rw [List.append_nil]
    have : zs.take p = (zs.take k).take p := by rw [List.take_take, Nat.min_eq_left (by omega)]
    rw [this, List.take_append_drop]
theorem one_flat (L : List Cu) (i a d g : Int) : L.flatMap cuC ++ [.int .u32 i, .int .i64 a, .int .i64 d, .int .i64 g] = (L ++ [(i, a, d, g)]).flatMap cuC := by
  rw [List.flatMap_append]
  rfl

set_option maxRecDepth 100000 in
set_option maxHeartbeats 8000000 in
theorem refunset_ok (ao : Option Addr) (cap : Nat) (zs : List Cu) (n : Nat) (hl : zs.length = n) (id : Int) (her : wrongN zs = 0) (w : World) (hR : ReadsC w ao zs) :
    Calls Tryd.prog 39 #[.slice ao n cap, .int .u32 id] w fun e w' =>
      ∃ v, e = .returned (.tuple #[v, .int .i64 (unsetV zs id).1]) ∧ w'.ownsRow w.heap.size 36 4 v (unsetV zs id).2.length ((unsetV zs id).2.flatMap cuC) ∧ Below w.heap.size w w' := by
  obtain ⟨i0, hi, hz0, hz1, hz2⟩ := info_parts info_cur
  have hn8 := (wrongN_zero her).1
  have HW := Lib.hid (fun w hR => refwrong_any ao cap zs n hl (by omega) w hR)
  have HR := Lib.hid hR
  have HV := Lib.hid (show unsetV zs id = if hasN zs id = false then (200, []) else (0, zs.take (findN zs id) ++ zs.drop (findN zs id + 1)) by unfold unsetV; rw [if_neg (by omega)])
  have HFL := Lib.hid (find_lt zs id)
  have HFG := Lib.hid (find_ge (sorted_of her) id)
  have HSO := Lib.hid (sorted_of her)
  have hpn := find_le zs id
  have HHAS := Lib.hid (show hasN zs id = decide (findN zs id < zs.length ∧ (zs[findN zs id]?.getD cuZ).1 = id) from rfl)
  obtain ⟨p, hp⟩ : ∃ p, findN zs id = p := ⟨_, rfl⟩
  rw [hp] at HV HFL HFG hpn HHAS
  obtain ⟨q, hq⟩ : ∃ q, hasN zs id = q := ⟨_, rfl⟩
  rw [hq] at HV HHAS
  obtain ⟨s, hs⟩ : ∃ s, (if q = true then p + 1 else p) = s := ⟨_, rfl⟩
  have HS := Lib.hid hs
  have hsp : p ≤ s ∧ s ≤ p + 1 := by rw [← hs]; split <;> omega
  rw [hl] at hn8 hpn
  have HL := Lib.hid hl
  rw [her] at HW
  clear hR her hl hp hq hs
  go_enter Tryd.func39, Tryd.ntmps39
  go_wp2_with (go_at_call 43; (with_reducible refine (HW.out _ HR.out).mono ?_); rintro e w1 ⟨rfl, hb1⟩)
  have HR1 := Lib.hid (HR.out.below hb1)
  have hs01 := hb1.size
  clear HW HR
  go_loopw [7, 8] (fun v i wr => ∃ k : Nat, i = .int .i64 (k : Nat) ∧ k ≤ n ∧ Hid (wr.ownsRow w1.heap.size 36 4 v (outG zs p s [] k).length ((outG zs p s [] k).flatMap cuC)) ∧ Below w1.heap.size w1 wr) (fun _ i _ => n - (intOf i).toNat)
  case atStart => exact ⟨0, rfl, Nat.zero_le _, Lib.hid (by rw [show outG zs p s [] 0 = [] from rfl]; exact World.ownsRow_nil _ _ _ _), Below.refl _ _⟩
  case round =>
    obtain ⟨k, rfl, hk, hO, hb⟩ := hrel
    by_cases hlt : k < n
    · have hki : (k : Int) < (n : Int) := by omega
      have hk0 : (0 : Int) ≤ (k : Int) := by omega
      have hkz : k < zs.length := by rw [HL.out]; exact hlt
      have hlen := outG_len zs p s [] k
      simp only [List.length_nil, Nat.add_zero] at hlen
      rcases HR1.out with h0 | ⟨b, off, rfl, hcs⟩
      · rw [h0] at hkz; simp at hkz
      obtain ⟨x0, x1, x2, x3⟩ := hcs k hkz
      have x0 := cellKeep x0 hb
      have x1 := cellKeep x1 hb
      have x2 := cellKeep x2 hb
      have x3 := cellKeep x3 hb
      have HLT := Lib.hid (fun h => outG_lt zs p s [] k h hkz)
      have HGT := Lib.hid (fun h h' => outG_gt zs p s [] k h h' hkz)
      have HEQ := Lib.hid (fun (h : k = p) (h' : s = p + 1) => show outG zs p s [] (k + 1) = outG zs p s [] k by rw [h', h, outG_eq zs p [] (h ▸ hkz), List.append_nil])
      have HEQ' := Lib.hid (fun (h : k = p) (h' : s = p) => show outG zs p s [] (k + 1) = outG zs p s [] k ++ [zs[k]?.getD cuZ] by rw [h', h, outG_eq' zs p [] (h ▸ hkz), List.append_nil])
      have hlo := HFL.out k
      have hhi := fun h => HFG.out k h hkz
      have HID := Lib.hid (fun (h : k = p) => show ((zs[k]?.getD cuZ).1 = id ↔ q = true) by
        subst h
        have := HHAS.out
        rw [this, decide_eq_true_iff]
        exact ⟨fun h => ⟨hkz, h⟩, fun h => h.2⟩)
      have HSK := Lib.hid (fun (h : p < k) => show (zs[p]?.getD cuZ).1 < (zs[k]?.getD cuZ).1 from HSO.out p k h hkz)
      have HP0 := Lib.hid (fun (h : p < k) => HFG.out p (Nat.le_refl _) (Nat.lt_trans h hkz))
      obtain ⟨L, hL⟩ : ∃ L, outG zs p s [] k = L := ⟨_, rfl⟩
      obtain ⟨m, hm⟩ : ∃ m, L.length = m := ⟨_, rfl⟩
      rw [hL] at hlen hO HLT HGT HEQ HEQ'
      rw [hm] at hlen hO
      have HOWN := Lib.hid hO.out
      obtain ⟨c, hc⟩ : ∃ c, zs[k]?.getD cuZ = c := ⟨_, rfl⟩
      rw [hc] at x0 x1 x2 x3 hlo hhi HLT HGT HEQ' HID HSK
      obtain ⟨i, a, d, g⟩ := c
      simp only at x0 x1 x2 x3 hlo hhi HID HSK
      have HM := Lib.hid hm
      have hszV := hb.size
      have hbV := hb
      by_cases hne : i = id
      · have hkp : k = p := by
          rcases Nat.lt_trichotomy k p with h | h | h
          · have := hlo h; omega
          · exact h
          · have h1 := HSK.out h; have h2 := HP0.out h; omega
        have hqt : q = true := (HID.out hkp).1 hne
        have hsv : s = p + 1 := by rw [← HS.out, if_pos hqt]
        have HE := Lib.hid (HEQ.out hkp hsv)
        have hnb : (i != id) = false := by rw [hne]; simp
        clear hcs hkz hlo hhi HLT HGT HEQ HEQ' HID HSK HP0 hL hm hc hne hkp hsv hqt
        go_wp2_with fail
        exact ⟨⟨k + 1, by go_num, hlt, Lib.hid (by rw [HE.out, HM.out]; exact HOWN.out), hb⟩, by simp [intOf]; omega⟩
      · have HE := Lib.hid (show outG zs p s [] (k + 1) = L ++ [(i, a, d, g)] by
          rcases Nat.lt_trichotomy k p with h | h | h
          · exact HLT.out h
          · refine HEQ'.out h ?_
            rw [← HS.out, if_neg (fun hq => hne ((HID.out h).2 hq))]
          · exact HGT.out h (by omega))
        have hnb : (i != id) = true := bne_iff_ne.2 hne
        clear hcs hkz hlo hhi HLT HGT HEQ HEQ' HID HSK HP0 hL hm hc hne
        go_wp2_with (first | (at_builtin; refine wpList_append_lies _ rfl _ _ _ rfl w1.heap.size 36 i0 (.agg #[.int .u32 0, .int .i64 0, .int .i64 0, .int .i64 0]) 4 32 Tryd.underlying22 hi hz0 hz1 hz2 rfl (by decide) u7 _ _ (by rfl) (HOWN.out.alloc (.cells #[.int .u32 i, .int .i64 a, .int .i64 d, .int .i64 g] 36)) ⟨wr.heap.size, 0, none⟩ 1 1 [.int .u32 i, .int .i64 a, .int .i64 d, .int .i64 g] (by rfl) (by simp) (cells_new wr _ _) (cuC_one (i, a, d, g)) (by decide) (by unfold maxLen; omega) (by omega) (by rw [World.size_alloc]; exact Nat.le_succ_of_le hszV) _ rfl ?_; intro g5 cap5 w5 r1 r2 _ _; have hb5 : Below w1.heap.size w1 w5 := (al hbV (.cells #[.int .u32 i, .int .i64 a, .int .i64 d, .int .i64 g] 36)).grown r2 (by rw [World.size_alloc]; exact Nat.le_succ_of_le hszV) (fun q e => (HOWN.out.lt q e).1); have R1 := Lib.hid r1; clear r1 r2))
        exact ⟨⟨k + 1, by go_num, hlt, Lib.hid (by rw [HE.out, List.length_append, List.length_singleton, HM.out, ← one_flat]; exact R1.out), hb5⟩, by simp [intOf]; omega⟩
    · obtain rfl : k = n := by omega
      have hkd : decide (k < k) = false := decide_eq_false (by omega)
      have hbW := nx hb1 hb
      obtain ⟨L, hL⟩ : ∃ L, outG zs p s [] k = L := ⟨_, rfl⟩
      obtain ⟨m, hm⟩ : ∃ m, L.length = m := ⟨_, rfl⟩
      rw [hL, hm] at hO
      have HO := Lib.hid (owns_base hO.out hs01)
      obtain ⟨ov, cv, rfl⟩ := (HRow.of_own HO.out).form
      cases q
      · have HVE := Lib.hid (show unsetV zs id = (200, []) by rw [HV.out, if_pos rfl])
        have hmk : m = k := by
          rw [← hm, ← hL, show s = p from by rw [← HS.out]; rfl, outG_none, List.take_of_length_le (by rw [HL.out]; exact Nat.le_refl _), HL.out]
        clear hO hL hm
        subst hmk
        go_wp2_with fail
        go_ret2
        exact ⟨.slice none 0 0, by rw [HVE.out]; rfl, by rw [HVE.out]; exact World.ownsRow_nil _ _ _ _, hbW⟩
      · have hpk : p < zs.length := (of_decide_eq_true HHAS.out.symm).1
        have hsv : s = p + 1 := by rw [← HS.out, if_pos rfl]
        have HVE := Lib.hid (show unsetV zs id = (0, L) by
          rw [HV.out, if_neg (by simp), ← hL, ← hsv, ← HL.out, outG_end zs p s [] hpk, List.append_nil])
        have hmk : ((m : Int) == (k : Int)) = false := by
          have h1 : m = k - 1 := by
            rw [← hm, ← hL, ← HL.out, outG_end zs p s [] hpk, hsv, List.append_nil, List.length_append, List.length_take, List.length_drop]
            omega
          rw [HL.out] at hpk
          exact beq_eq_false_iff_ne.2 (by omega)
        have hmk2 : decide ((m : Int) = (k : Int)) = false := decide_eq_false (by simpa using hmk)
        have HM := Lib.hid hm
        clear hO hL hm
        go_wp2_with fail
        go_ret2
        exact ⟨_, by rw [HVE.out]; rfl, by rw [HVE.out, HM.out]; exact HO.out, hbW⟩
end Go.Proofs.YtfoppbignompkaaDoor

namespace Go.Proofs.YtfoppbignompkaaDoor
open Go.RowKit

theorem refset_bad (ao : Option Addr) (cap : Nat) (zs : List Cu) (n : Nat) (hl : zs.length = n) (hn : n ≤ 140737488351232) (c : Cu) (her : wrongN zs ≠ 0) (w : World) (hR : ReadsC w ao zs) :
    Calls Tryd.prog 37 #[.slice ao n cap, .agg #[.int .u32 c.1, .int .i64 c.2.1, .int .i64 c.2.2.1, .int .i64 c.2.2.2]] w fun e w' =>
      ∃ v, e = .returned (.tuple #[v, .int .i64 (setV zs c).1]) ∧ w'.ownsRow w.heap.size 36 4 v (setV zs c).2.length ((setV zs c).2.flatMap cuC) ∧ Below w.heap.size w w' := by
  have HW := Lib.hid (fun w hR => refwrong_any ao cap zs n hl hn w hR)
  have HR := Lib.hid hR
  have HV2 := Lib.hid (show setV zs c = (wrongN zs, []) by unfold setV; rw [if_pos her])
  obtain ⟨er, hee⟩ : ∃ er, wrongN zs = er := ⟨_, rfl⟩
  rw [hee] at HW HV2 her
  have hne : (er != 0) = true := bne_iff_ne.2 her
  obtain ⟨ci, ca, cd, cg⟩ := c
  clear hl hR her hee
  have K0 := Blk.new w 36 [.int .u32 ci, .int .i64 ca, .int .i64 cd, .int .i64 cg]
  have hb0 : Below w.heap.size w _ := al (Below.refl _ _) (.cells #[.int .u32 ci, .int .i64 ca, .int .i64 cd, .int .i64 cg] 36)
  obtain ⟨W, hW⟩ : ∃ W, w.alloc (.cells #[.int .u32 ci, .int .i64 ca, .int .i64 cd, .int .i64 cg] 36) = W := ⟨_, rfl⟩
  replace K0 : Blk W w.heap.size 36 [.int .u32 ci, .int .i64 ca, .int .i64 cd, .int .i64 cg] := hW ▸ K0
  replace hb0 : Below w.heap.size w W := hW ▸ hb0
  go_enter Tryd.func37, Tryd.ntmps37
  go_wp2_with (first
    | (go_at_call 43; (with_reducible refine (HW.out _ (HR.out.below hb0)).mono ?_); rintro e w1 ⟨rfl, hb1⟩; have K1 := Lib.hid (K0.below hb1); have a0 := K1.out.cell 0 rfl; have a1 := K1.out.cell 1 rfl; have a2 := K1.out.cell 2 rfl; have a3 := K1.out.cell 3 rfl; have hB1 := Lib.hid (nx hb0 hb1)))
  go_ret2
  exact ⟨.slice none 0 0, by rw [HV2.out]; rfl, by rw [HV2.out]; exact World.ownsRow_nil _ _ _ _, hB1.out⟩
theorem refset_low (ao : Option Addr) (cap : Nat) (zs : List Cu) (n : Nat) (hl : zs.length = n) (hn : n ≤ 140737488351232) (c : Cu) (her : wrongN zs = 0) (hlo : lowC c = true) (w : World) (hR : ReadsC w ao zs) :
    Calls Tryd.prog 37 #[.slice ao n cap, .agg #[.int .u32 c.1, .int .i64 c.2.1, .int .i64 c.2.2.1, .int .i64 c.2.2.2]] w fun e w' =>
      ∃ v, e = .returned (.tuple #[v, .int .i64 (setV zs c).1]) ∧ w'.ownsRow w.heap.size 36 4 v (setV zs c).2.length ((setV zs c).2.flatMap cuC) ∧ Below w.heap.size w w' := by
  have HW := Lib.hid (fun w hR => refwrong_any ao cap zs n hl hn w hR)
  have HR := Lib.hid hR
  have HV2 := Lib.hid (show setV zs c = (200, []) by unfold setV; rw [if_neg (by rw [her]; simp), if_pos hlo])
  rw [her] at HW
  obtain ⟨ci, ca, cd, cg⟩ := c
  have hlo : ca < 0 ∨ cd < 0 ∨ cg < 0 := of_decide_eq_true hlo
  clear hl hR her
  by_cases ha : ca < 0
  · have had : decide (ca < 0) = true := decide_eq_true ha
    clear hlo
    have K0 := Blk.new w 36 [.int .u32 ci, .int .i64 ca, .int .i64 cd, .int .i64 cg]
    have hb0 : Below w.heap.size w _ := al (Below.refl _ _) (.cells #[.int .u32 ci, .int .i64 ca, .int .i64 cd, .int .i64 cg] 36)
    obtain ⟨W, hW⟩ : ∃ W, w.alloc (.cells #[.int .u32 ci, .int .i64 ca, .int .i64 cd, .int .i64 cg] 36) = W := ⟨_, rfl⟩
    replace K0 : Blk W w.heap.size 36 [.int .u32 ci, .int .i64 ca, .int .i64 cd, .int .i64 cg] := hW ▸ K0
    replace hb0 : Below w.heap.size w W := hW ▸ hb0
    go_enter Tryd.func37, Tryd.ntmps37
    go_wp2_with (first
      | (go_at_call 43; (with_reducible refine (HW.out _ (HR.out.below hb0)).mono ?_); rintro e w1 ⟨rfl, hb1⟩; have K1 := Lib.hid (K0.below hb1); have a0 := K1.out.cell 0 rfl; have a1 := K1.out.cell 1 rfl; have a2 := K1.out.cell 2 rfl; have a3 := K1.out.cell 3 rfl; have hB1 := Lib.hid (nx hb0 hb1)))
    go_ret2
    exact ⟨.slice none 0 0, by rw [HV2.out]; rfl, by rw [HV2.out]; exact World.ownsRow_nil _ _ _ _, hB1.out⟩
  · have had : decide (ca < 0) = false := decide_eq_false ha
    by_cases hd : cd < 0
    · have hdd : decide (cd < 0) = true := decide_eq_true hd
      clear hlo
      have K0 := Blk.new w 36 [.int .u32 ci, .int .i64 ca, .int .i64 cd, .int .i64 cg]
      have hb0 : Below w.heap.size w _ := al (Below.refl _ _) (.cells #[.int .u32 ci, .int .i64 ca, .int .i64 cd, .int .i64 cg] 36)
      obtain ⟨W, hW⟩ : ∃ W, w.alloc (.cells #[.int .u32 ci, .int .i64 ca, .int .i64 cd, .int .i64 cg] 36) = W := ⟨_, rfl⟩
      replace K0 : Blk W w.heap.size 36 [.int .u32 ci, .int .i64 ca, .int .i64 cd, .int .i64 cg] := hW ▸ K0
      replace hb0 : Below w.heap.size w W := hW ▸ hb0
      go_enter Tryd.func37, Tryd.ntmps37
      go_wp2_with (first
        | (go_at_call 43; (with_reducible refine (HW.out _ (HR.out.below hb0)).mono ?_); rintro e w1 ⟨rfl, hb1⟩; have K1 := Lib.hid (K0.below hb1); have a0 := K1.out.cell 0 rfl; have a1 := K1.out.cell 1 rfl; have a2 := K1.out.cell 2 rfl; have a3 := K1.out.cell 3 rfl; have hB1 := Lib.hid (nx hb0 hb1)))
      go_ret2
      exact ⟨.slice none 0 0, by rw [HV2.out]; rfl, by rw [HV2.out]; exact World.ownsRow_nil _ _ _ _, hB1.out⟩
    · have hdd : decide (cd < 0) = false := decide_eq_false hd
      have hg : cg < 0 := by omega
      have hgd : decide (cg < 0) = true := decide_eq_true hg
      clear hlo
      have K0 := Blk.new w 36 [.int .u32 ci, .int .i64 ca, .int .i64 cd, .int .i64 cg]
      have hb0 : Below w.heap.size w _ := al (Below.refl _ _) (.cells #[.int .u32 ci, .int .i64 ca, .int .i64 cd, .int .i64 cg] 36)
      obtain ⟨W, hW⟩ : ∃ W, w.alloc (.cells #[.int .u32 ci, .int .i64 ca, .int .i64 cd, .int .i64 cg] 36) = W := ⟨_, rfl⟩
      replace K0 : Blk W w.heap.size 36 [.int .u32 ci, .int .i64 ca, .int .i64 cd, .int .i64 cg] := hW ▸ K0
      replace hb0 : Below w.heap.size w W := hW ▸ hb0
      go_enter Tryd.func37, Tryd.ntmps37
      go_wp2_with (first
        | (go_at_call 43; (with_reducible refine (HW.out _ (HR.out.below hb0)).mono ?_); rintro e w1 ⟨rfl, hb1⟩; have K1 := Lib.hid (K0.below hb1); have a0 := K1.out.cell 0 rfl; have a1 := K1.out.cell 1 rfl; have a2 := K1.out.cell 2 rfl; have a3 := K1.out.cell 3 rfl; have hB1 := Lib.hid (nx hb0 hb1)))
      go_ret2
      exact ⟨.slice none 0 0, by rw [HV2.out]; rfl, by rw [HV2.out]; exact World.ownsRow_nil _ _ _ _, hB1.out⟩
set_option maxRecDepth 100000 in
set_option maxHeartbeats 8000000 in
theorem refset_ok (ao : Option Addr) (cap : Nat) (zs : List Cu) (n : Nat) (hl : zs.length = n) (c : Cu) (her : wrongN zs = 0) (hlo : lowC c = false) (w : World) (hR : ReadsC w ao zs) :
    Calls Tryd.prog 37 #[.slice ao n cap, .agg #[.int .u32 c.1, .int .i64 c.2.1, .int .i64 c.2.2.1, .int .i64 c.2.2.2]] w fun e w' =>
      ∃ v, e = .returned (.tuple #[v, .int .i64 (setV zs c).1]) ∧ w'.ownsRow w.heap.size 36 4 v (setV zs c).2.length ((setV zs c).2.flatMap cuC) ∧ Below w.heap.size w w' := by
  obtain ⟨i0, hi, hz0, hz1, hz2⟩ := info_parts info_cur
  have hn8 := (wrongN_zero her).1
  have HW := Lib.hid (fun w hR => refwrong_any ao cap zs n hl (by omega) w hR)
  have HR := Lib.hid hR
  have HV := Lib.hid (show setV zs c = if hasN zs c.1 = false ∧ zs.length = 8 then (201, []) else (0, zs.take (findN zs c.1) ++ [c] ++ zs.drop (if hasN zs c.1 = true then findN zs c.1 + 1 else findN zs c.1)) by unfold setV setL; rw [if_neg (by rw [her]; simp), if_neg (by rw [hlo]; simp)])
  have HFL := Lib.hid (find_lt zs c.1)
  have HFG := Lib.hid (find_ge (sorted_of her) c.1)
  have HSO := Lib.hid (sorted_of her)
  have hpn := find_le zs c.1
  have HHAS := Lib.hid (show hasN zs c.1 = decide (findN zs c.1 < zs.length ∧ (zs[findN zs c.1]?.getD cuZ).1 = c.1) from rfl)
  obtain ⟨p, hp⟩ : ∃ p, findN zs c.1 = p := ⟨_, rfl⟩
  rw [hp] at HV HFL HFG hpn HHAS
  obtain ⟨q, hq⟩ : ∃ q, hasN zs c.1 = q := ⟨_, rfl⟩
  rw [hq] at HV HHAS
  obtain ⟨s, hs⟩ : ∃ s, (if q = true then p + 1 else p) = s := ⟨_, rfl⟩
  rw [hs] at HV
  have HS := Lib.hid hs
  have hsp : p ≤ s ∧ s ≤ p + 1 := by rw [← hs]; split <;> omega
  rw [hl] at hn8 hpn
  have HL := Lib.hid hl
  rw [her] at HW
  obtain ⟨ci, ca, cd, cg⟩ := c
  have hlo' : ¬ (ca < 0 ∨ cd < 0 ∨ cg < 0) := of_decide_eq_false hlo
  have had : decide (ca < 0) = false := decide_eq_false (by omega)
  have hdd : decide (cd < 0) = false := decide_eq_false (by omega)
  have hgd : decide (cg < 0) = false := decide_eq_false (by omega)
  simp only at HFL HFG HHAS
  clear hR her hl hp hq hs hlo hlo'
  have K0 := Blk.new w 36 [.int .u32 ci, .int .i64 ca, .int .i64 cd, .int .i64 cg]
  have hb0 : Below w.heap.size w _ := al (Below.refl _ _) (.cells #[.int .u32 ci, .int .i64 ca, .int .i64 cd, .int .i64 cg] 36)
  obtain ⟨W, hW⟩ : ∃ W, w.alloc (.cells #[.int .u32 ci, .int .i64 ca, .int .i64 cd, .int .i64 cg] 36) = W := ⟨_, rfl⟩
  replace K0 : Blk W w.heap.size 36 [.int .u32 ci, .int .i64 ca, .int .i64 cd, .int .i64 cg] := hW ▸ K0
  replace hb0 : Below w.heap.size w W := hW ▸ hb0
  go_enter Tryd.func37, Tryd.ntmps37
  go_wp2_with (first
    | (go_at_call 43; (with_reducible refine (HW.out _ (HR.out.below hb0)).mono ?_); rintro e w1 ⟨rfl, hb1⟩; have K1 := Lib.hid (K0.below hb1); have a0 := K1.out.cell 0 rfl; have a1 := K1.out.cell 1 rfl; have a2 := K1.out.cell 2 rfl; have a3 := K1.out.cell 3 rfl; have hB1 := Lib.hid (nx hb0 hb1)))
  have HR1 := Lib.hid ((HR.out.below hb0).below hb1)
  have hs01 := hB1.out.size
  have hlt1 := K1.out.lt
  clear HW HR a0 a1 a2 a3 hb0 hb1 hW K0
  go_loopw [7, 8, 9] (fun v l i wr => ∃ (k : Nat) (lb : Bool), i = .int .i64 (k : Nat) ∧ l = .bool lb ∧ k ≤ n ∧ lb = decide (p < k) ∧ Hid (wr.ownsRow w1.heap.size 36 4 v (outG zs p s [(ci, ca, cd, cg)] k).length ((outG zs p s [(ci, ca, cd, cg)] k).flatMap cuC)) ∧ Below w1.heap.size w1 wr) (fun _ _ i _ => n - (intOf i).toNat)
  case atStart => exact ⟨0, false, rfl, rfl, Nat.zero_le _, (decide_eq_false (by omega)).symm, Lib.hid (by rw [show outG zs p s [(ci, ca, cd, cg)] 0 = [] from rfl]; exact World.ownsRow_nil _ _ _ _), Below.refl _ _⟩
  case round =>
    obtain ⟨k, lb, rfl, rfl, hk, hlb, hO, hb⟩ := hrel
    by_cases hlt : k < n
    · have hki : (k : Int) < (n : Int) := by omega
      have hk0 : (0 : Int) ≤ (k : Int) := by omega
      have hkz : k < zs.length := by rw [HL.out]; exact hlt
      have hlen := outG_len zs p s [(ci, ca, cd, cg)] k
      simp only [List.length_singleton] at hlen
      rcases HR1.out with h0 | ⟨b, off, rfl, hcs⟩
      · rw [h0] at hkz; simp at hkz
      have HX := Lib.hid (hcs k hkz)
      have HLT := Lib.hid (fun h => outG_lt zs p s [(ci, ca, cd, cg)] k h hkz)
      have HGT := Lib.hid (fun h h' => outG_gt zs p s [(ci, ca, cd, cg)] k h h' hkz)
      have HEQ := Lib.hid (fun (h : k = p) (h' : s = p + 1) => show outG zs p s [(ci, ca, cd, cg)] (k + 1) = outG zs p s [(ci, ca, cd, cg)] k ++ [(ci, ca, cd, cg)] by rw [h', h, outG_eq zs p [(ci, ca, cd, cg)] (h ▸ hkz)])
      have HEQ' := Lib.hid (fun (h : k = p) (h' : s = p) => show outG zs p s [(ci, ca, cd, cg)] (k + 1) = outG zs p s [(ci, ca, cd, cg)] k ++ [(ci, ca, cd, cg)] ++ [zs[k]?.getD cuZ] by rw [h', h, outG_eq' zs p [(ci, ca, cd, cg)] (h ▸ hkz)])
      have hlo := HFL.out k
      have hhi := fun h => HFG.out k h hkz
      have HID := Lib.hid (fun (h : k = p) => show ((zs[k]?.getD cuZ).1 = ci ↔ q = true) by
        subst h
        have := HHAS.out
        rw [this, decide_eq_true_iff]
        exact ⟨fun h => ⟨hkz, h⟩, fun h => h.2⟩)
      have HSK := Lib.hid (fun (h : p < k) => show (zs[p]?.getD cuZ).1 < (zs[k]?.getD cuZ).1 from HSO.out p k h hkz)
      have HP0 := Lib.hid (fun (h : p < k) => HFG.out p (Nat.le_refl _) (Nat.lt_trans h hkz))
      obtain ⟨L, hL⟩ : ∃ L, outG zs p s [(ci, ca, cd, cg)] k = L := ⟨_, rfl⟩
      obtain ⟨m, hm⟩ : ∃ m, L.length = m := ⟨_, rfl⟩
      rw [hL] at hlen hO HLT HGT HEQ HEQ'
      rw [hm] at hlen hO
      have HOWN := Lib.hid hO.out
      obtain ⟨c, hc⟩ : ∃ c, zs[k]?.getD cuZ = c := ⟨_, rfl⟩
      rw [hc] at HX hlo hhi HLT HGT HEQ' HID HSK
      obtain ⟨i, a, d, g⟩ := c
      simp only at HX hlo hhi HID HSK
      have HM := Lib.hid hm
      have hbV := hb
      rcases Nat.lt_trichotomy k p with h | h | h
      · -- before the place
        have hne : (i != ci) = true := bne_iff_ne.2 (by have := hlo h; omega)
        have hge : decide (ci ≤ i) = false := decide_eq_false (by have := hlo h; omega)
        have HE := Lib.hid (HLT.out h)
        obtain rfl : lb = false := by rw [hlb]; exact decide_eq_false (by omega)
        have HPK := Lib.hid (show false = decide (p < k + 1) from (decide_eq_false (by omega)).symm)
        clear hcs hkz hlo hhi HLT HGT HEQ HEQ' HID HSK HP0 hL hm hc hlb h hO hb
        have y0 := cellKeep HX.out.1 hbV
        have y1 := cellKeep HX.out.2.1 hbV
        have y2 := cellKeep HX.out.2.2.1 hbV
        have y3 := cellKeep HX.out.2.2.2 hbV
        have hBV := K1.out.below hbV
        have b0 := hBV.cell 0 rfl
        have b1 := hBV.cell 1 rfl
        have b2 := hBV.cell 2 rfl
        have b3 := hBV.cell 3 rfl
        clear hBV
        have k0 := Later.cell y0
        have k1 := Later.cell y1
        have k2 := Later.cell y2
        have k3 := Later.cell y3
        have f0 := Later.cell b0
        have f1 := Later.cell b1
        have f2 := Later.cell b2
        have f3 := Later.cell b3
        go_wp2_with fail
        refine wp_region_later (by kernel_rfl) (by kernel_rfl) ?_
        repeat (go_big_quiet_step (fail))
        refine wpQuiet_nil ?_
        intro _ hw'
        obtain ⟨pq, hw''⟩ := hw'
        subst hw''
        have hbq := pq.hb
        obtain ⟨V, hV⟩ : ∃ V, pq.W = V := ⟨_, rfl⟩
        rw [hV] at hbq ⊢
        replace HOWN := Lib.hid (owns_below HOWN.out hbq (Nat.le_refl _))
        replace hbV := nx hbV hbq
        clear hV k0 k1 k2 k3 f0 f1 f2 f3 y0 y1 y2 y3 b0 b1 b2 b3
        have y0 := cellKeep HX.out.1 hbV
        have y1 := cellKeep HX.out.2.1 hbV
        have y2 := cellKeep HX.out.2.2.1 hbV
        have y3 := cellKeep HX.out.2.2.2 hbV
        have hBV := K1.out.below hbV
        have b0 := hBV.cell 0 rfl
        have b1 := hBV.cell 1 rfl
        have b2 := hBV.cell 2 rfl
        have b3 := hBV.cell 3 rfl
        clear hBV
        have k0 := Later.cell y0
        have k1 := Later.cell y1
        have k2 := Later.cell y2
        have k3 := Later.cell y3
        have f0 := Later.cell b0
        have f1 := Later.cell b1
        have f2 := Later.cell b2
        have f3 := Later.cell b3
        go_wp2_with fail
        refine wp_region_later (by kernel_rfl) (by kernel_rfl) ?_
        repeat (go_big_quiet_step (fail))
        refine wpQuiet_nil ?_
        intro _ hw'
        obtain ⟨pq, hw''⟩ := hw'
        subst hw''
        have hbq := pq.hb
        obtain ⟨V, hV⟩ : ∃ V, pq.W = V := ⟨_, rfl⟩
        rw [hV] at hbq ⊢
        replace HOWN := Lib.hid (owns_below HOWN.out hbq (Nat.le_refl _))
        replace hbV := nx hbV hbq
        clear hV k0 k1 k2 k3 f0 f1 f2 f3 y0 y1 y2 y3 b0 b1 b2 b3
        have y0 := cellKeep HX.out.1 hbV
        have y1 := cellKeep HX.out.2.1 hbV
        have y2 := cellKeep HX.out.2.2.1 hbV
        have y3 := cellKeep HX.out.2.2.2 hbV
        have hBV := K1.out.below hbV
        have b0 := hBV.cell 0 rfl
        have b1 := hBV.cell 1 rfl
        have b2 := hBV.cell 2 rfl
        have b3 := hBV.cell 3 rfl
        clear hBV
        go_wp2_with
          (first | (at_builtin; refine wpList_append_lies _ rfl _ _ _ rfl w1.heap.size 36 i0 (.agg #[.int .u32 0, .int .i64 0, .int .i64 0, .int .i64 0]) 4 32 Tryd.underlying22 hi hz0 hz1 hz2 rfl (by decide) u7 _ _ (by rfl) (HOWN.out.alloc (.cells #[.int .u32 i, .int .i64 a, .int .i64 d, .int .i64 g] 36)) ⟨V.heap.size, 0, none⟩ 1 1 [.int .u32 i, .int .i64 a, .int .i64 d, .int .i64 g] (by rfl) (by simp) (cells_new V _ _) (cuC_one (i, a, d, g)) (by decide) (by unfold maxLen; omega) (by omega) (by rw [World.size_alloc]; exact Nat.le_succ_of_le hbV.size) _ rfl ?_; intro g5 cap5 w5 r1 r2 _ _; have hb5 : Below w1.heap.size w1 w5 := (al hbV (.cells #[.int .u32 i, .int .i64 a, .int .i64 d, .int .i64 g] 36)).grown r2 (by rw [World.size_alloc]; exact Nat.le_succ_of_le hbV.size) (fun q e => (HOWN.out.lt q e).1); have R1 := Lib.hid r1; clear r1 r2))
        have hR2 : Hid (w5.ownsRow w1.heap.size 36 4 (.slice (some ⟨g5, 0, none⟩) (m + 1) cap5) (outG zs p s [(ci, ca, cd, cg)] (k + 1)).length ((outG zs p s [(ci, ca, cd, cg)] (k + 1)).flatMap cuC)) := Lib.hid (by rw [HE.out, List.length_append, List.length_singleton, HM.out, ← one_flat]; exact R1.out)
        exact ⟨⟨k + 1, false, by go_num, rfl, hlt, HPK.out, hR2, hb5⟩, by simp [intOf]; omega⟩
      · by_cases hie : i = ci
        · have hqt : q = true := (HID.out h).1 hie
          have hsv : s = p + 1 := by rw [← HS.out, if_pos hqt]
          have HE := Lib.hid (HEQ.out h hsv)
          have hnb : (i != ci) = false := by rw [hie]; simp
          have hge : decide (ci ≤ i) = true := decide_eq_true (by omega)
          obtain rfl : lb = false := by rw [hlb]; exact decide_eq_false (by omega)
          have HPK := Lib.hid (show true = decide (p < k + 1) from (decide_eq_true (by omega)).symm)
          clear hcs hkz hlo hhi HLT HGT HEQ HEQ' HID HSK HP0 hL hm hc hie h hqt hsv hlb hO hb
          have y0 := cellKeep HX.out.1 hbV
          have y1 := cellKeep HX.out.2.1 hbV
          have y2 := cellKeep HX.out.2.2.1 hbV
          have y3 := cellKeep HX.out.2.2.2 hbV
          have hBV := K1.out.below hbV
          have b0 := hBV.cell 0 rfl
          have b1 := hBV.cell 1 rfl
          have b2 := hBV.cell 2 rfl
          have b3 := hBV.cell 3 rfl
          clear hBV
          have k0 := Later.cell y0
          have k1 := Later.cell y1
          have k2 := Later.cell y2
          have k3 := Later.cell y3
          have f0 := Later.cell b0
          have f1 := Later.cell b1
          have f2 := Later.cell b2
          have f3 := Later.cell b3
          go_wp2_with fail
          refine wp_region_later (by kernel_rfl) (by kernel_rfl) ?_
          repeat (go_big_quiet_step (fail))
          refine wpQuiet_nil ?_
          intro _ hw'
          obtain ⟨pq, hw''⟩ := hw'
          subst hw''
          have hbq := pq.hb
          obtain ⟨V, hV⟩ : ∃ V, pq.W = V := ⟨_, rfl⟩
          rw [hV] at hbq ⊢
          replace HOWN := Lib.hid (owns_below HOWN.out hbq (Nat.le_refl _))
          replace hbV := nx hbV hbq
          clear hV k0 k1 k2 k3 f0 f1 f2 f3 y0 y1 y2 y3 b0 b1 b2 b3
          have y0 := cellKeep HX.out.1 hbV
          have y1 := cellKeep HX.out.2.1 hbV
          have y2 := cellKeep HX.out.2.2.1 hbV
          have y3 := cellKeep HX.out.2.2.2 hbV
          have hBV := K1.out.below hbV
          have b0 := hBV.cell 0 rfl
          have b1 := hBV.cell 1 rfl
          have b2 := hBV.cell 2 rfl
          have b3 := hBV.cell 3 rfl
          clear hBV
          go_wp2_with
            (first | (at_builtin; refine wpList_append_lies _ rfl _ _ _ rfl w1.heap.size 36 i0 (.agg #[.int .u32 0, .int .i64 0, .int .i64 0, .int .i64 0]) 4 32 Tryd.underlying22 hi hz0 hz1 hz2 rfl (by decide) u7 _ _ (by rfl) (HOWN.out.alloc (.cells #[.int .u32 ci, .int .i64 ca, .int .i64 cd, .int .i64 cg] 36)) ⟨V.heap.size, 0, none⟩ 1 1 [.int .u32 ci, .int .i64 ca, .int .i64 cd, .int .i64 cg] (by rfl) (by simp) (cells_new V _ _) (cuC_one (ci, ca, cd, cg)) (by decide) (by unfold maxLen; omega) (by omega) (by rw [World.size_alloc]; exact Nat.le_succ_of_le hbV.size) _ rfl ?_; intro g5 cap5 w5 r1 r2 _ _; have hb5 : Below w1.heap.size w1 w5 := (al hbV (.cells #[.int .u32 ci, .int .i64 ca, .int .i64 cd, .int .i64 cg] 36)).grown r2 (by rw [World.size_alloc]; exact Nat.le_succ_of_le hbV.size) (fun q e => (HOWN.out.lt q e).1); have R1 := Lib.hid r1; have y0 := cellKeep HX.out.1 hb5; have y1 := cellKeep HX.out.2.1 hb5; have y2 := cellKeep HX.out.2.2.1 hb5; have y3 := cellKeep HX.out.2.2.2 hb5; have hBV := K1.out.below hb5; have b0 := hBV.cell 0 rfl; have b1 := hBV.cell 1 rfl; have b2 := hBV.cell 2 rfl; have b3 := hBV.cell 3 rfl; clear r1 r2 hBV))
          clear HOWN hbV
          have HOWN := R1
          have hbV := hb5
          clear R1 hb5
          have k0 := Later.cell y0
          have k1 := Later.cell y1
          have k2 := Later.cell y2
          have k3 := Later.cell y3
          have f0 := Later.cell b0
          have f1 := Later.cell b1
          have f2 := Later.cell b2
          have f3 := Later.cell b3
          refine wp_region_later (by kernel_rfl) (by kernel_rfl) ?_
          repeat (go_big_quiet_step (fail))
          refine wpQuiet_nil ?_
          intro _ hw'
          obtain ⟨pq, hw''⟩ := hw'
          subst hw''
          have hbq := pq.hb
          obtain ⟨V, hV⟩ : ∃ V, pq.W = V := ⟨_, rfl⟩
          rw [hV] at hbq ⊢
          replace HOWN := Lib.hid (owns_below HOWN.out hbq (Nat.le_refl _))
          replace hbV := nx hbV hbq
          clear hV k0 k1 k2 k3 f0 f1 f2 f3 y0 y1 y2 y3 b0 b1 b2 b3
          go_wp2_with fail
          have hR2 : Hid (V.ownsRow w1.heap.size 36 4 (.slice (some ⟨g5, 0, none⟩) (m + 1) cap5) (outG zs p s [(ci, ca, cd, cg)] (k + 1)).length ((outG zs p s [(ci, ca, cd, cg)] (k + 1)).flatMap cuC)) := Lib.hid (by rw [HE.out, List.length_append, List.length_singleton, HM.out, ← one_flat]; exact HOWN.out)
          exact ⟨⟨k + 1, true, by go_num, rfl, hlt, HPK.out, hR2, hbV⟩, by simp [intOf]; omega⟩
        · have hqt : ¬ q = true := fun hq => hie ((HID.out h).2 hq)
          have hsv : s = p := by rw [← HS.out, if_neg hqt]
          have HE := Lib.hid (HEQ'.out h hsv)
          have hnb : (i != ci) = true := bne_iff_ne.2 hie
          have hge : decide (ci ≤ i) = true := decide_eq_true (hhi (by omega))
          obtain rfl : lb = false := by rw [hlb]; exact decide_eq_false (by omega)
          have HPK := Lib.hid (show true = decide (p < k + 1) from (decide_eq_true (by omega)).symm)
          clear hcs hkz hlo hhi HLT HGT HEQ HEQ' HID HSK HP0 hL hm hc hie h hqt hsv hlb hO hb
          have y0 := cellKeep HX.out.1 hbV
          have y1 := cellKeep HX.out.2.1 hbV
          have y2 := cellKeep HX.out.2.2.1 hbV
          have y3 := cellKeep HX.out.2.2.2 hbV
          have hBV := K1.out.below hbV
          have b0 := hBV.cell 0 rfl
          have b1 := hBV.cell 1 rfl
          have b2 := hBV.cell 2 rfl
          have b3 := hBV.cell 3 rfl
          clear hBV
          have k0 := Later.cell y0
          have k1 := Later.cell y1
          have k2 := Later.cell y2
          have k3 := Later.cell y3
          have f0 := Later.cell b0
          have f1 := Later.cell b1
          have f2 := Later.cell b2
          have f3 := Later.cell b3
          go_wp2_with fail
          refine wp_region_later (by kernel_rfl) (by kernel_rfl) ?_
          repeat (go_big_quiet_step (fail))
          refine wpQuiet_nil ?_
          intro _ hw'
          obtain ⟨pq, hw''⟩ := hw'
          subst hw''
          have hbq := pq.hb
          obtain ⟨V, hV⟩ : ∃ V, pq.W = V := ⟨_, rfl⟩
          rw [hV] at hbq ⊢
          replace HOWN := Lib.hid (owns_below HOWN.out hbq (Nat.le_refl _))
          replace hbV := nx hbV hbq
          clear hV k0 k1 k2 k3 f0 f1 f2 f3 y0 y1 y2 y3 b0 b1 b2 b3
          have y0 := cellKeep HX.out.1 hbV
          have y1 := cellKeep HX.out.2.1 hbV
          have y2 := cellKeep HX.out.2.2.1 hbV
          have y3 := cellKeep HX.out.2.2.2 hbV
          have hBV := K1.out.below hbV
          have b0 := hBV.cell 0 rfl
          have b1 := hBV.cell 1 rfl
          have b2 := hBV.cell 2 rfl
          have b3 := hBV.cell 3 rfl
          clear hBV
          go_wp2_with
            (first | (at_builtin; refine wpList_append_lies _ rfl _ _ _ rfl w1.heap.size 36 i0 (.agg #[.int .u32 0, .int .i64 0, .int .i64 0, .int .i64 0]) 4 32 Tryd.underlying22 hi hz0 hz1 hz2 rfl (by decide) u7 _ _ (by rfl) (HOWN.out.alloc (.cells #[.int .u32 ci, .int .i64 ca, .int .i64 cd, .int .i64 cg] 36)) ⟨V.heap.size, 0, none⟩ 1 1 [.int .u32 ci, .int .i64 ca, .int .i64 cd, .int .i64 cg] (by rfl) (by simp) (cells_new V _ _) (cuC_one (ci, ca, cd, cg)) (by decide) (by unfold maxLen; omega) (by omega) (by rw [World.size_alloc]; exact Nat.le_succ_of_le hbV.size) _ rfl ?_; intro g5 cap5 w5 r1 r2 _ _; have hb5 : Below w1.heap.size w1 w5 := (al hbV (.cells #[.int .u32 ci, .int .i64 ca, .int .i64 cd, .int .i64 cg] 36)).grown r2 (by rw [World.size_alloc]; exact Nat.le_succ_of_le hbV.size) (fun q e => (HOWN.out.lt q e).1); have R1 := Lib.hid r1; have y0 := cellKeep HX.out.1 hb5; have y1 := cellKeep HX.out.2.1 hb5; have y2 := cellKeep HX.out.2.2.1 hb5; have y3 := cellKeep HX.out.2.2.2 hb5; have hBV := K1.out.below hb5; have b0 := hBV.cell 0 rfl; have b1 := hBV.cell 1 rfl; have b2 := hBV.cell 2 rfl; have b3 := hBV.cell 3 rfl; clear r1 r2 hBV))
          clear HOWN hbV
          have HOWN := R1
          have hbV := hb5
          clear R1 hb5
          have k0 := Later.cell y0
          have k1 := Later.cell y1
          have k2 := Later.cell y2
          have k3 := Later.cell y3
          have f0 := Later.cell b0
          have f1 := Later.cell b1
          have f2 := Later.cell b2
          have f3 := Later.cell b3
          refine wp_region_later (by kernel_rfl) (by kernel_rfl) ?_
          repeat (go_big_quiet_step (fail))
          refine wpQuiet_nil ?_
          intro _ hw'
          obtain ⟨pq, hw''⟩ := hw'
          subst hw''
          have hbq := pq.hb
          obtain ⟨V, hV⟩ : ∃ V, pq.W = V := ⟨_, rfl⟩
          rw [hV] at hbq ⊢
          replace HOWN := Lib.hid (owns_below HOWN.out hbq (Nat.le_refl _))
          replace hbV := nx hbV hbq
          clear hV k0 k1 k2 k3 f0 f1 f2 f3 y0 y1 y2 y3 b0 b1 b2 b3
          have y0 := cellKeep HX.out.1 hbV
          have y1 := cellKeep HX.out.2.1 hbV
          have y2 := cellKeep HX.out.2.2.1 hbV
          have y3 := cellKeep HX.out.2.2.2 hbV
          have hBV := K1.out.below hbV
          have b0 := hBV.cell 0 rfl
          have b1 := hBV.cell 1 rfl
          have b2 := hBV.cell 2 rfl
          have b3 := hBV.cell 3 rfl
          clear hBV
          go_wp2_with
            (first | (at_builtin; refine wpList_append_lies _ rfl _ _ _ rfl w1.heap.size 36 i0 (.agg #[.int .u32 0, .int .i64 0, .int .i64 0, .int .i64 0]) 4 32 Tryd.underlying22 hi hz0 hz1 hz2 rfl (by decide) (.slice (some ⟨g5, 0, none⟩) (m + 1) cap5) _ _ (by rfl) (HOWN.out.alloc (.cells #[.int .u32 i, .int .i64 a, .int .i64 d, .int .i64 g] 36)) ⟨V.heap.size, 0, none⟩ 1 1 [.int .u32 i, .int .i64 a, .int .i64 d, .int .i64 g] (by rfl) (by simp) (cells_new V _ _) (cuC_one (i, a, d, g)) (by decide) (by unfold maxLen; omega) (by omega) (by rw [World.size_alloc]; exact Nat.le_succ_of_le hbV.size) _ rfl ?_; intro g5 cap5 w5 r1 r2 _ _; have hb5 : Below w1.heap.size w1 w5 := (al hbV (.cells #[.int .u32 i, .int .i64 a, .int .i64 d, .int .i64 g] 36)).grown r2 (by rw [World.size_alloc]; exact Nat.le_succ_of_le hbV.size) (fun q e => (HOWN.out.lt q e).1); have R1 := Lib.hid r1; clear r1 r2))
          have hR2 : Hid (w5.ownsRow w1.heap.size 36 4 (.slice (some ⟨g5, 0, none⟩) (m + 1 + 1) cap5) (outG zs p s [(ci, ca, cd, cg)] (k + 1)).length ((outG zs p s [(ci, ca, cd, cg)] (k + 1)).flatMap cuC)) := Lib.hid (by rw [HE.out, List.length_append, List.length_append, List.length_singleton, List.length_singleton, HM.out, ← one_flat, ← one_flat]; exact R1.out)
          exact ⟨⟨k + 1, true, by go_num, rfl, hlt, HPK.out, hR2, hb5⟩, by simp [intOf]; omega⟩
      · -- behind the place
        have hne : (i != ci) = true := bne_iff_ne.2 (by have h1 := HSK.out h; have h2 := HP0.out h; omega)
        have HE := Lib.hid (HGT.out h (by omega))
        obtain rfl : lb = true := by rw [hlb]; exact decide_eq_true h
        have HPK := Lib.hid (show true = decide (p < k + 1) from (decide_eq_true (by omega)).symm)
        clear hcs hkz hlo hhi HLT HGT HEQ HEQ' HID HSK HP0 hL hm hc hlb h hO hb
        have y0 := cellKeep HX.out.1 hbV
        have y1 := cellKeep HX.out.2.1 hbV
        have y2 := cellKeep HX.out.2.2.1 hbV
        have y3 := cellKeep HX.out.2.2.2 hbV
        have hBV := K1.out.below hbV
        have b0 := hBV.cell 0 rfl
        have b1 := hBV.cell 1 rfl
        have b2 := hBV.cell 2 rfl
        have b3 := hBV.cell 3 rfl
        clear hBV
        have k0 := Later.cell y0
        have k1 := Later.cell y1
        have k2 := Later.cell y2
        have k3 := Later.cell y3
        have f0 := Later.cell b0
        have f1 := Later.cell b1
        have f2 := Later.cell b2
        have f3 := Later.cell b3
        go_wp2_with fail
        refine wp_region_later (by kernel_rfl) (by kernel_rfl) ?_
        repeat (go_big_quiet_step (fail))
        refine wpQuiet_nil ?_
        intro _ hw'
        obtain ⟨pq, hw''⟩ := hw'
        subst hw''
        have hbq := pq.hb
        obtain ⟨V, hV⟩ : ∃ V, pq.W = V := ⟨_, rfl⟩
        rw [hV] at hbq ⊢
        replace HOWN := Lib.hid (owns_below HOWN.out hbq (Nat.le_refl _))
        replace hbV := nx hbV hbq
        clear hV k0 k1 k2 k3 f0 f1 f2 f3 y0 y1 y2 y3 b0 b1 b2 b3
        have y0 := cellKeep HX.out.1 hbV
        have y1 := cellKeep HX.out.2.1 hbV
        have y2 := cellKeep HX.out.2.2.1 hbV
        have y3 := cellKeep HX.out.2.2.2 hbV
        have hBV := K1.out.below hbV
        have b0 := hBV.cell 0 rfl
        have b1 := hBV.cell 1 rfl
        have b2 := hBV.cell 2 rfl
        have b3 := hBV.cell 3 rfl
        clear hBV
        have k0 := Later.cell y0
        have k1 := Later.cell y1
        have k2 := Later.cell y2
        have k3 := Later.cell y3
        have f0 := Later.cell b0
        have f1 := Later.cell b1
        have f2 := Later.cell b2
        have f3 := Later.cell b3
        go_wp2_with fail
        refine wp_region_later (by kernel_rfl) (by kernel_rfl) ?_
        repeat (go_big_quiet_step (fail))
        refine wpQuiet_nil ?_
        intro _ hw'
        obtain ⟨pq, hw''⟩ := hw'
        subst hw''
        have hbq := pq.hb
        obtain ⟨V, hV⟩ : ∃ V, pq.W = V := ⟨_, rfl⟩
        rw [hV] at hbq ⊢
        replace HOWN := Lib.hid (owns_below HOWN.out hbq (Nat.le_refl _))
        replace hbV := nx hbV hbq
        clear hV k0 k1 k2 k3 f0 f1 f2 f3 y0 y1 y2 y3 b0 b1 b2 b3
        have y0 := cellKeep HX.out.1 hbV
        have y1 := cellKeep HX.out.2.1 hbV
        have y2 := cellKeep HX.out.2.2.1 hbV
        have y3 := cellKeep HX.out.2.2.2 hbV
        have hBV := K1.out.below hbV
        have b0 := hBV.cell 0 rfl
        have b1 := hBV.cell 1 rfl
        have b2 := hBV.cell 2 rfl
        have b3 := hBV.cell 3 rfl
        clear hBV
        go_wp2_with
          (first | (at_builtin; refine wpList_append_lies _ rfl _ _ _ rfl w1.heap.size 36 i0 (.agg #[.int .u32 0, .int .i64 0, .int .i64 0, .int .i64 0]) 4 32 Tryd.underlying22 hi hz0 hz1 hz2 rfl (by decide) u7 _ _ (by rfl) (HOWN.out.alloc (.cells #[.int .u32 i, .int .i64 a, .int .i64 d, .int .i64 g] 36)) ⟨V.heap.size, 0, none⟩ 1 1 [.int .u32 i, .int .i64 a, .int .i64 d, .int .i64 g] (by rfl) (by simp) (cells_new V _ _) (cuC_one (i, a, d, g)) (by decide) (by unfold maxLen; omega) (by omega) (by rw [World.size_alloc]; exact Nat.le_succ_of_le hbV.size) _ rfl ?_; intro g5 cap5 w5 r1 r2 _ _; have hb5 : Below w1.heap.size w1 w5 := (al hbV (.cells #[.int .u32 i, .int .i64 a, .int .i64 d, .int .i64 g] 36)).grown r2 (by rw [World.size_alloc]; exact Nat.le_succ_of_le hbV.size) (fun q e => (HOWN.out.lt q e).1); have R1 := Lib.hid r1; clear r1 r2))
        have hR2 : Hid (w5.ownsRow w1.heap.size 36 4 (.slice (some ⟨g5, 0, none⟩) (m + 1) cap5) (outG zs p s [(ci, ca, cd, cg)] (k + 1)).length ((outG zs p s [(ci, ca, cd, cg)] (k + 1)).flatMap cuC)) := Lib.hid (by rw [HE.out, List.length_append, List.length_singleton, HM.out, ← one_flat]; exact R1.out)
        exact ⟨⟨k + 1, true, by go_num, rfl, hlt, HPK.out, hR2, hb5⟩, by simp [intOf]; omega⟩
    · obtain rfl : k = n := by omega
      have hkd : decide (k < k) = false := decide_eq_false (by omega)
      have hbV := hb
      have hZL := HL.out
      by_cases hpk : p < k
      · obtain rfl : lb = true := by rw [hlb]; exact decide_eq_true hpk
        have HE := Lib.hid (show outG zs p s [(ci, ca, cd, cg)] k = zs.take p ++ [(ci, ca, cd, cg)] ++ zs.drop s by
          rw [← HL.out]
          exact outG_end zs p s _ (by rw [HL.out]; exact hpk))
        have hlen : (zs.take p ++ [(ci, ca, cd, cg)] ++ zs.drop s).length = if q = true then k else k + 1 := by
          by_cases hq : q = true
          · have h1 : s = p + 1 := by rw [← HS.out, if_pos hq]
            rw [if_pos hq]
            simp only [List.length_append, List.length_take, List.length_drop, List.length_singleton]
            omega
          · have h1 : s = p := by rw [← HS.out, if_neg hq]
            rw [if_neg hq]
            simp only [List.length_append, List.length_take, List.length_drop, List.length_singleton]
            omega
        obtain ⟨L, hL⟩ : ∃ L, zs.take p ++ [(ci, ca, cd, cg)] ++ zs.drop s = L := ⟨_, rfl⟩
        rw [HE.out, hL] at hO
        rw [hL] at HV hlen
        obtain ⟨m, hm⟩ : ∃ m, L.length = m := ⟨_, rfl⟩
        rw [hm] at hO hlen
        have HM := Lib.hid hm
        have HO := Lib.hid (owns_base hO.out hs01)
        obtain ⟨ov, cv, rfl⟩ := (HRow.of_own HO.out).form
        have hbW := nx hB1.out hbV
        by_cases h8 : q = false ∧ zs.length = 8
        · have HV2 := Lib.hid (show setV zs (ci, ca, cd, cg) = (201, []) by rw [HV.out, if_pos h8])
          have hm8 : (8 : Int) < (m : Int) := by
            rw [h8.1] at hlen
            simp at hlen
            omega
          clear hO hL hm hlen h8 hlb
          go_wp2_with fail
          go_ret2
          exact ⟨.slice none 0 0, by rw [HV2.out]; rfl, by rw [HV2.out]; exact World.ownsRow_nil _ _ _ _, hbW⟩
        · have HV2 := Lib.hid (show setV zs (ci, ca, cd, cg) = (0, L) by rw [HV.out, if_neg h8])
          have hm8 : decide ((8 : Int) < (m : Int)) = false := by
            refine decide_eq_false ?_
            cases q
            · simp at hlen h8
              omega
            · simp at hlen
              omega
          have hm8' : decide (8 < m) = false := decide_eq_false (by have := of_decide_eq_false hm8; omega)
          clear hO hL hm hlen h8 hlb
          go_wp2_with fail
          go_ret2
          exact ⟨_, by rw [HV2.out]; rfl, by rw [HV2.out, HM.out]; exact HO.out, hbW⟩
      · have hpn' : p = k := by omega
        obtain rfl : lb = false := by rw [hlb]; exact decide_eq_false hpk
        have hqf : q = false := by
          rw [HHAS.out]
          exact decide_eq_false (fun h => by omega)
        have hsv : s = p := by rw [← HS.out, hqf]; rfl
        have HE := Lib.hid (show outG zs p s [(ci, ca, cd, cg)] k = zs by
          rw [hpn', ← HL.out]
          exact outG_end' zs s _)
        have HE2 := Lib.hid (show zs.take p ++ [(ci, ca, cd, cg)] ++ zs.drop s = zs ++ [(ci, ca, cd, cg)] by
          rw [hsv, List.take_of_length_le (by omega), List.drop_of_length_le (by omega), List.append_nil])
        rw [HE.out, HL.out] at hO
        have HOWN := Lib.hid hO.out
        have hBV := K1.out.below hbV
        have b0 := hBV.cell 0 rfl
        have b1 := hBV.cell 1 rfl
        have b2 := hBV.cell 2 rfl
        have b3 := hBV.cell 3 rfl
        obtain ⟨m, hm⟩ : ∃ m, k = m := ⟨_, rfl⟩
        have hmk : m ≤ 8 := by omega
        rw [hm] at HOWN
        by_cases h8 : zs.length = 8
        · have HV2 := Lib.hid (show setV zs (ci, ca, cd, cg) = (201, []) by rw [HV.out, if_pos ⟨hqf, h8⟩])
          have hm8 : (8 : Int) < (m : Int) + 1 := by omega
          clear hO hsv hpn' hpk hlb hm hZL h8 hqf hBV
          go_wp2_with
            (first | (at_builtin; refine wpList_append_lies _ rfl _ _ _ rfl w1.heap.size 36 i0 (.agg #[.int .u32 0, .int .i64 0, .int .i64 0, .int .i64 0]) 4 32 Tryd.underlying22 hi hz0 hz1 hz2 rfl (by decide) u7 _ _ (by rfl) (HOWN.out.alloc (.cells #[.int .u32 ci, .int .i64 ca, .int .i64 cd, .int .i64 cg] 36)) ⟨wr.heap.size, 0, none⟩ 1 1 [.int .u32 ci, .int .i64 ca, .int .i64 cd, .int .i64 cg] (by rfl) (by simp) (cells_new wr _ _) (cuC_one (ci, ca, cd, cg)) (by decide) (by unfold maxLen; omega) (by omega) (by rw [World.size_alloc]; exact Nat.le_succ_of_le hbV.size) _ rfl ?_; intro g5 cap5 w5 r1 r2 _ _; have hb5 : Below w1.heap.size w1 w5 := (al hbV (.cells #[.int .u32 ci, .int .i64 ca, .int .i64 cd, .int .i64 cg] 36)).grown r2 (by rw [World.size_alloc]; exact Nat.le_succ_of_le hbV.size) (fun q e => (HOWN.out.lt q e).1); have R1 := Lib.hid r1; clear r1 r2))
          have hbW := nx hB1.out hb5
          go_ret2
          exact ⟨.slice none 0 0, by rw [HV2.out]; rfl, by rw [HV2.out]; exact World.ownsRow_nil _ _ _ _, hbW⟩
        · have HV2 := Lib.hid (show setV zs (ci, ca, cd, cg) = (0, zs ++ [(ci, ca, cd, cg)]) by rw [HV.out, if_neg (fun h => h8 h.2), HE2.out])
          have hm8 : decide ((8 : Int) < (m : Int) + 1) = false := decide_eq_false (by omega)
          have HM := Lib.hid (show (zs ++ [(ci, ca, cd, cg)]).length = m + 1 by rw [List.length_append, List.length_singleton, HL.out, hm])
          clear hO hsv hpn' hpk hlb hm hZL h8 hqf hBV
          go_wp2_with
            (first | (at_builtin; refine wpList_append_lies _ rfl _ _ _ rfl w1.heap.size 36 i0 (.agg #[.int .u32 0, .int .i64 0, .int .i64 0, .int .i64 0]) 4 32 Tryd.underlying22 hi hz0 hz1 hz2 rfl (by decide) u7 _ _ (by rfl) (HOWN.out.alloc (.cells #[.int .u32 ci, .int .i64 ca, .int .i64 cd, .int .i64 cg] 36)) ⟨wr.heap.size, 0, none⟩ 1 1 [.int .u32 ci, .int .i64 ca, .int .i64 cd, .int .i64 cg] (by rfl) (by simp) (cells_new wr _ _) (cuC_one (ci, ca, cd, cg)) (by decide) (by unfold maxLen; omega) (by omega) (by rw [World.size_alloc]; exact Nat.le_succ_of_le hbV.size) _ rfl ?_; intro g5 cap5 w5 r1 r2 _ _; have hb5 : Below w1.heap.size w1 w5 := (al hbV (.cells #[.int .u32 ci, .int .i64 ca, .int .i64 cd, .int .i64 cg] 36)).grown r2 (by rw [World.size_alloc]; exact Nat.le_succ_of_le hbV.size) (fun q e => (HOWN.out.lt q e).1); have R1 := Lib.hid r1; clear r1 r2))
          have hbW := nx hB1.out hb5
          have hR2 := owns_base R1.out hs01
          go_ret2
          refine ⟨_, by rw [HV2.out]; rfl, ?_, hbW⟩
          rw [HV2.out]
          show World.ownsRow _ _ _ _ _ (zs ++ [(ci, ca, cd, cg)]).length ((zs ++ [(ci, ca, cd, cg)]).flatMap cuC)
          rw [HM.out, ← one_flat]
          exact hR2
theorem refset_any (ao : Option Addr) (cap : Nat) (zs : List Cu) (n : Nat) (hl : zs.length = n) (hn : n ≤ 140737488351232) (c : Cu) (w : World) (hR : ReadsC w ao zs) :
    Calls Tryd.prog 37 #[.slice ao n cap, .agg #[.int .u32 c.1, .int .i64 c.2.1, .int .i64 c.2.2.1, .int .i64 c.2.2.2]] w fun e w' =>
      ∃ v, e = .returned (.tuple #[v, .int .i64 (setV zs c).1]) ∧ w'.ownsRow w.heap.size 36 4 v (setV zs c).2.length ((setV zs c).2.flatMap cuC) ∧ Below w.heap.size w w' := by
  by_cases her : wrongN zs = 0
  · cases hlo : lowC c
    · exact refset_ok ao cap zs n hl c her hlo w hR
    · exact refset_low ao cap zs n hl hn c her hlo w hR
  · exact refset_bad ao cap zs n hl hn c her w hR
theorem refunset_any (ao : Option Addr) (cap : Nat) (zs : List Cu) (n : Nat) (hl : zs.length = n) (hn : n ≤ 140737488351232) (id : Int) (w : World) (hR : ReadsC w ao zs) :
    Calls Tryd.prog 39 #[.slice ao n cap, .int .u32 id] w fun e w' =>
      ∃ v, e = .returned (.tuple #[v, .int .i64 (unsetV zs id).1]) ∧ w'.ownsRow w.heap.size 36 4 v (unsetV zs id).2.length ((unsetV zs id).2.flatMap cuC) ∧ Below w.heap.size w w' := by
  by_cases her : wrongN zs = 0
  · exact refunset_ok ao cap zs n hl id her w hR
  · have HW := Lib.hid (fun w hR => refwrong_any ao cap zs n hl hn w hR)
    have HR := Lib.hid hR
    have HV2 := Lib.hid (show unsetV zs id = (wrongN zs, []) by unfold unsetV; rw [if_pos her])
    obtain ⟨er, hee⟩ : ∃ er, wrongN zs = er := ⟨_, rfl⟩
    rw [hee] at HW HV2 her
    have hne : (er != 0) = true := bne_iff_ne.2 her
    clear hl hR her hee
    go_enter Tryd.func39, Tryd.ntmps39
    go_wp2_with (first
      | (go_at_call 43; (with_reducible refine (HW.out _ HR.out).mono ?_); rintro e w1 ⟨rfl, hb1⟩))
    go_ret2
    exact ⟨.slice none 0 0, by rw [HV2.out]; rfl, by rw [HV2.out]; exact World.ownsRow_nil _ _ _ _, hb1⟩
end Go.Proofs.YtfoppbignompkaaDoor

namespace Go.Proofs.YtfoppbignompkaaDoor
open Go.RowKit

set_option maxRecDepth 10000 in
set_option maxHeartbeats 4000000 in
theorem refcheck_any (ao : Option Addr) (cap : Nat) (zs : List Cu) (n : Nat) (hl : zs.length = n) (hn : n ≤ 140737488351232) (B : Int) (w : World) (hR : ReadsC w ao zs) :
    Calls Tryd.prog 35 #[.slice ao n cap, .int .i64 B] w fun e w' => e = .returned (.int .i64 (checkN zs B)) ∧ Below w.heap.size w w' := by
  have HW := Lib.hid (fun w hR => refwrong_any ao cap zs n hl hn w hR)
  have HR := Lib.hid hR
  have HL := Lib.hid hl
  clear hR hl
  by_cases hB : B < 0
  · have HC := Lib.hid (show checkN zs B = 2 from if_pos hB)
    go_enter Tryd.func35, Tryd.ntmps35
    go_wp2_with fail
    go_ret
    exact ⟨by rw [HC.out]; rfl, Below.refl _ _⟩
  · have hBd : decide (B < 0) = false := decide_eq_false hB
    have HC0 := Lib.hid (show checkN zs B = if wrongN zs ≠ 0 then wrongN zs else if zs.any (farC B) then 200 else 0 from if_neg hB)
    obtain ⟨er, her⟩ : ∃ er, wrongN zs = er := ⟨_, rfl⟩
    rw [her] at HW HC0
    by_cases hz : er = 0
    · subst hz
      have HC := Lib.hid (show checkN zs B = if zs.any (farC B) then 200 else 0 by rw [HC0.out, if_neg (by simp)])
      have hn8 := (wrongN_zero her).1
      rw [HL.out] at hn8
      clear HC0 her hB
      go_enter Tryd.func35, Tryd.ntmps35
      go_wp2_with (go_at_call 43; (with_reducible refine (HW.out _ HR.out).mono ?_); rintro e w1 ⟨rfl, hb1⟩)
      go_loopw [6] (fun i wr => ∃ k : Nat, i = .int .i64 (k : Nat) ∧ k ≤ n ∧ Hid (∀ j, j < k → farC B (zs[j]?.getD cuZ) = false) ∧ Below w.heap.size w wr) (fun i _ => n - (intOf i).toNat)
      case atStart => exact ⟨0, rfl, Nat.zero_le _, Lib.hid (fun j hj => by omega), hb1⟩
      case round =>
        clear hb1
        obtain ⟨k, rfl, hk, hok, hb⟩ := hrel
        by_cases hlt : k < n
        · have hki : (k : Int) < (n : Int) := by omega
          have hk0 : (0 : Int) ≤ (k : Int) := by omega
          have hkz : k < zs.length := by rw [HL.out]; exact hlt
          rcases HR.out with h0 | ⟨b, off, rfl, hcs⟩
          · rw [h0] at hkz; simp at hkz
          obtain ⟨x0, x1, x2, x3⟩ := hcs k hkz
          have x0 := cellKeep x0 hb
          have x1 := cellKeep x1 hb
          have x2 := cellKeep x2 hb
          have x3 := cellKeep x3 hb
          have HZK := Lib.hid hkz
          obtain ⟨c, hc⟩ : ∃ c, zs[k]?.getD cuZ = c := ⟨_, rfl⟩
          rw [hc] at x0 x1 x2 x3
          have HCC := Lib.hid hc
          obtain ⟨i, a, d, g⟩ := c
          simp only at x0 x1 x2 x3
          clear hcs hc hkz
          by_cases hf : B < a ∨ B < d
          · have HC2 := Lib.hid (show checkN zs B = 200 by
              rw [HC.out, if_pos]
              rw [List.any_eq_true]
              refine ⟨_, List.getElem_mem HZK.out, ?_⟩
              have := HCC.out
              rw [List.getElem?_eq_getElem HZK.out] at this
              rw [show zs[k] = (i, a, d, g) from this]
              exact decide_eq_true hf)
            by_cases hfa : B < a
            · have hda : decide (B < a) = true := decide_eq_true hfa
              clear hf hfa
              go_wp2_with fail
              go_ret
              exact ⟨by rw [HC2.out]; rfl, hb⟩
            · have hda : decide (B < a) = false := decide_eq_false hfa
              have hdd : decide (B < d) = true := decide_eq_true (by omega)
              clear hf hfa
              go_wp2_with fail
              go_ret
              exact ⟨by rw [HC2.out]; rfl, hb⟩
          · have HF := Lib.hid (show farC B (zs[k]?.getD cuZ) = false by rw [HCC.out]; exact decide_eq_false hf)
            have hda : decide (B < a) = false := decide_eq_false (by omega)
            have hdd : decide (B < d) = false := decide_eq_false (by omega)
            clear hf
            go_wp2_with fail
            exact ⟨⟨k + 1, by go_num, hlt, Lib.hid (fun j hj => by rcases Nat.lt_succ_iff_lt_or_eq.1 hj with h | rfl; exact hok.out j h; exact HF.out), hb⟩, by simp [intOf]; omega⟩
        · obtain rfl : k = n := by omega
          have HC2 := Lib.hid (show checkN zs B = 0 by
            rw [HC.out, if_neg]
            rw [List.any_eq_true]
            rintro ⟨c, hc, h2⟩
            obtain ⟨j, hj, rfl⟩ := List.getElem_of_mem hc
            have := hok.out j (by rw [← HL.out]; exact hj)
            rw [List.getElem?_eq_getElem hj] at this
            rw [show farC B zs[j] = false from this] at h2
            cases h2)
          have hkd : decide (k < k) = false := decide_eq_false (by omega)
          go_wp2_with fail
          go_ret
          exact ⟨by rw [HC2.out]; rfl, hb⟩
    · have HC := Lib.hid (show checkN zs B = er by rw [HC0.out, if_pos hz])
      have hne : (er != 0) = true := bne_iff_ne.2 hz
      clear hz her HC0 hB
      go_enter Tryd.func35, Tryd.ntmps35
      go_wp2_with (go_at_call 43; (with_reducible refine (HW.out _ HR.out).mono ?_); rintro e w1 ⟨rfl, hb1⟩)
      go_ret
      exact ⟨by rw [HC.out]; rfl, hb1⟩
end Go.Proofs.YtfoppbignompkaaDoor

namespace Go.Proofs.YtfoppbignompkaaDoor
open Go.RowKit

theorem readsL {w : World} {base e n : Nat} {ao : Option Addr} {c : Nat} {L : List Cu} (h : w.ownsRow base e 4 (.slice ao n c) n (L.flatMap cuC)) : ReadsC w ao L := by
  obtain ⟨a9, c9, e9, -, h9⟩ := ReadsC.owned h
  injection e9 with e1 e2 e3
  rw [e1]
  exact h9
theorem own_latL {w w' : World} {base : Nat} {e : TypeId} {size : Nat} {v : Value} {n : Nat} {xs : List Value} (h : w.ownsRow base e size v n xs) (hb : Below w.heap.size w w') : w'.ownsRow base e size v n xs := owns_below h hb (Nat.le_refl _)
theorem SrcC.below {w w' : World} {ao : Option Addr} {cap : Nat} {zs : List Cu} (h : SrcC w ao cap zs) (hb : Below w.heap.size w w') : SrcC w' ao cap zs := by
  rcases h with h | ⟨ad, e, h⟩
  · exact .inl h
  · exact .inr ⟨ad, e, fun j u hu => (hb.cell (World.block_lt_of_cell? _ _ (h j u hu))).trans (h j u hu)⟩
theorem apartL_four (m1 m2 : Nat) (hm1 : m1 ≤ 1048576) (hm2 : m2 ≤ 1048576) (v1 v2 v3 v4 : Value) (x1 x2 x3 x4 : List Value) (B b1 b2 b3 : Nat) (w : World) (hB : B ≤ w.heap.size)
    (h1 : HRow w B 36 4 v1 m1 x1) (h2 : HRow w B 36 4 v2 m1 x2) (h3 : HRow w B 36 4 v3 m2 x3) (h4 : HRow w B 36 4 v4 m2 x4)
    (k1 : ∀ g, v1.ownBlock = some g → g < b1) (k2 : ∀ g, v2.ownBlock = some g → b1 ≤ g ∧ g < b2) (k3 : ∀ g, v3.ownBlock = some g → b2 ≤ g ∧ g < b3) (k4 : ∀ g, v4.ownBlock = some g → b3 ≤ g) (hb12 : b1 ≤ b2) (hb23 : b2 ≤ b3) :
    Calls Tryd.prog 18 #[.slice (some ⟨w.heap.size, 0, none⟩) 4 4] (w.alloc (.cells #[v1, v2, v3, v4] 22)) fun e w' => e = .returned (.bool true) ∧ Below B w w' := by
  have hal : Below w.heap.size w (w.alloc (.cells #[v1, v2, v3, v4] 22)) := (Below.refl _ _).alloc (Nat.le_refl _) _
  have four : ∀ j, j < 4 → j = 0 ∨ j = 1 ∨ j = 2 ∨ j = 3 := fun j hj => by omega
  refine (apartC_any 4 (by decide) (fun j => if j < 2 then m1 else m2) (fun j _ => by split <;> assumption) (fun j => if j = 0 then v1 else if j = 1 then v2 else if j = 2 then v3 else v4) (fun j => if j = 0 then x1 else if j = 1 then x2 else if j = 2 then x3 else x4) w.heap.size B _ (Nat.le_trans hB hal.size) (by rw [World.size_alloc]; omega) ?_ ?_ ?_ ?_).mono ?_
  · intro j hj
    rcases four j hj with rfl | rfl | rfl | rfl
    · exact h1.below hal (Nat.le_refl _)
    · exact h2.below hal (Nat.le_refl _)
    · exact h3.below hal (Nat.le_refl _)
    · exact h4.below hal (Nat.le_refl _)
  · intro j hj
    have := cells_new w [v1, v2, v3, v4] 22 j
    rw [Addr.add_lit, Nat.zero_add] at this
    rcases four j hj with rfl | rfl | rfl | rfl
    · exact this _ rfl
    · exact this _ rfl
    · exact this _ rfl
    · exact this _ rfl
  · intro i j g hij hi hj hg hg2
    rcases four i hi with rfl | rfl | rfl | rfl <;> rcases four j hj with rfl | rfl | rfl | rfl <;> simp only [Nat.reduceEqDiff, if_true, if_false] at hg hg2 <;>
      first
      | exact absurd rfl hij
      | (have a1 := k1 _ hg; have a2 := k2 _ hg2; omega)
      | (have a1 := k1 _ hg; have a2 := k3 _ hg2; omega)
      | (have a1 := k1 _ hg; have a2 := k4 _ hg2; omega)
      | (have a1 := k2 _ hg; have a2 := k1 _ hg2; omega)
      | (have a1 := k2 _ hg; have a2 := k3 _ hg2; omega)
      | (have a1 := k2 _ hg; have a2 := k4 _ hg2; omega)
      | (have a1 := k3 _ hg; have a2 := k1 _ hg2; omega)
      | (have a1 := k3 _ hg; have a2 := k2 _ hg2; omega)
      | (have a1 := k3 _ hg; have a2 := k4 _ hg2; omega)
      | (have a1 := k4 _ hg; have a2 := k1 _ hg2; omega)
      | (have a1 := k4 _ hg; have a2 := k2 _ hg2; omega)
      | (have a1 := k4 _ hg; have a2 := k3 _ hg2; omega)
  · intro j hj e
    rcases four j hj with rfl | rfl | rfl | rfl
    · exact absurd (h1.lt _ e).2 (Nat.lt_irrefl _)
    · exact absurd (h2.lt _ e).2 (Nat.lt_irrefl _)
    · exact absurd (h3.lt _ e).2 (Nat.lt_irrefl _)
    · exact absurd (h4.lt _ e).2 (Nat.lt_irrefl _)
  · rintro e w' ⟨rfl, hb⟩
    exact ⟨rfl, (hal.mono hB).trans hb⟩
theorem flat_takeC (Z : List Cu) (n : Nat) (j : Nat) (u : Value) (h : ((Z.take n).flatMap cuC)[j]? = some u) : (Z.flatMap cuC)[j]? = some u := by
  rw [← List.take_append_drop n Z, List.flatMap_append]
  obtain ⟨hj, e⟩ := List.getElem?_eq_some_iff.1 h
  rw [List.getElem?_append_left hj]
  exact h

set_option maxRecDepth 100000 in
set_option maxHeartbeats 8000000 in
theorem cursorsLists_any (ao : Option Addr) (n cap : Nat) (zs : List Cu) (hl : zs.length = n) (hn : n ≤ 4398046510976) (cu : Cu) (bb : Int) (w : World) (hT : Tabs w) (hS : SrcC w ao cap zs) :
    Calls Tryd.prog 12 #[.slice ao n cap, .agg #[.int .u32 cu.1, .int .i64 cu.2.1, .int .i64 cu.2.2.1, .int .i64 cu.2.2.2], .int .i64 bb] w fun e w' => e = .returned (.bool true) ∧ Below w.heap.size w w' := by
  obtain ⟨i0, hi, hz0, hz1, hz2⟩ := info_parts info_cur
  have HT := Lib.hid hT
  have HAW := Lib.hid (fun w hT => cawake_any w hT)
  have HSP := Lib.hid (fun w hS => spareC_any ao cap n zs hl hn w hS)
  have HCK := Lib.hid (fun g c w hR => check_any (some ⟨g, 0, none⟩) c zs n hl (by omega) bb w hR)
  have HRC := Lib.hid (fun w hR => refcheck_any ao cap zs n hl (by omega) bb w hR)
  have HST := Lib.hid (fun g c w hR => set_any (some ⟨g, 0, none⟩) c zs n hl (by omega) (by simp) cu w hR)
  have HUN := Lib.hid (fun g c w hR => unset_any (some ⟨g, 0, none⟩) c zs n hl (by omega) (by simp) cu.1 w hR)
  have HRS := Lib.hid (fun w hR => refset_any ao cap zs n hl (by omega) cu w hR)
  have HRU := Lib.hid (fun w hR => refunset_any ao cap zs n hl (by omega) cu.1 w hR)
  have HS := Lib.hid hS
  have HR := Lib.hid hS.reads
  have HKP := Lib.hid (fun g c hc w hA hR => keptC_any ao cap n g c zs hn hc w hA hR)
  have HL := Lib.hid hl
  have hL8 := setV_len zs cu
  have hU8 := unsetV_len zs cu.1
  have HST2 := Lib.hid (fun (L2 : List Cu) (hl2 : L2.length = n) g c w hR => set_any (some ⟨g, 0, none⟩) c L2 n hl2 (by omega) (by simp) cu w hR)
  have HRS2 := Lib.hid (fun (L2 : List Cu) (hl2 : L2.length = n) a c w hR => refset_any a c L2 n hl2 (by omega) cu w hR)
  have HL82 := Lib.hid (fun L2 : List Cu => setV_len L2 cu)
  obtain ⟨⟨er, L⟩, hV⟩ : ∃ p, setV zs cu = p := ⟨_, rfl⟩
  rw [hV] at HST HRS hL8
  obtain ⟨⟨eu, U⟩, hVU⟩ : ∃ p, unsetV zs cu.1 = p := ⟨_, rfl⟩
  rw [hVU] at HUN HRU hU8
  obtain ⟨m, hm⟩ : ∃ m, L.length = m := ⟨_, rfl⟩
  obtain ⟨mu, hmu⟩ : ∃ m, U.length = m := ⟨_, rfl⟩
  simp only at HST HRS hL8 HUN HRU hU8
  rw [hm] at HST HRS hL8
  rw [hmu] at HUN HRU hU8
  have HSM := Lib.hid (fun a b ca cb w hA hB => same_any a b m ca cb L hm (by omega) w hA hB)
  have HSU := Lib.hid (fun a b ca cb w hA hB => same_any a b mu ca cb U hmu (by omega) w hA hB)
  have HAP := Lib.hid (fun v1 v2 v3 v4 x1 x2 x3 x4 B b1 b2 b3 w hB h1 h2 h3 h4 k1 k2 k3 k4 e1 e2 => apartL_four m mu (by omega) (by omega) v1 v2 v3 v4 x1 x2 x3 x4 B b1 b2 b3 w hB h1 h2 h3 h4 k1 k2 k3 k4 e1 e2)
  obtain ⟨ci, ca, cd, cg⟩ := cu
  simp only at HUN HRU HST HRS HST2 HRS2
  obtain ⟨ck, hck⟩ : ∃ x, checkN zs bb = x := ⟨_, rfl⟩
  rw [hck] at HCK HRC
  clear hT hS hl hV hVU hm hmu hck
  have K0 := Blk.new w 36 [.int .u32 ci, .int .i64 ca, .int .i64 cd, .int .i64 cg]
  have hb0 : Below w.heap.size w _ := al (Below.refl _ _) (.cells #[.int .u32 ci, .int .i64 ca, .int .i64 cd, .int .i64 cg] 36)
  obtain ⟨W, hW⟩ : ∃ W, w.alloc (.cells #[.int .u32 ci, .int .i64 ca, .int .i64 cd, .int .i64 cg] 36) = W := ⟨_, rfl⟩
  replace K0 : Blk W w.heap.size 36 [.int .u32 ci, .int .i64 ca, .int .i64 cd, .int .i64 cg] := hW ▸ K0
  replace hb0 : Below w.heap.size w W := hW ▸ hb0
  replace K0 := Lib.hid K0
  replace HS := Lib.hid (HS.out.below hb0)
  replace HR := Lib.hid (HR.out.below hb0)
  replace HT := Lib.hid (HT.out.below hb0 (Nat.le_refl _))
  go_enter Tryd.func12, Tryd.ntmps12
  go_wp2_with (first
    | (go_at_call 13; (with_reducible refine (HSP.out _ HS.out).mono ?_); rintro e w1 ⟨g, c, hc, rfl, ho1, hb1⟩; have SP1 := Lib.hid (SpareC.of_own HL.out ho1); have HO1 := Lib.hid ho1; clear ho1)
    | (go_at_call 28; (with_reducible refine (HCK.out g c w1 SP1.out.reads).mono ?_); rintro e w2 ⟨rfl, hb2⟩; have H12 := Lib.hid hb2; have hB2 := Lib.hid (nx hb1 hb2))
    | (go_at_call 35; (with_reducible refine (HRC.out w2 (HR.out.below hB2.out)).mono ?_); rintro e w3 ⟨rfl, hb3⟩; have H13 := Lib.hid (nx H12.out hb3); have hB3 := Lib.hid (nx hB2.out hb3))
    | (go_at_call 17; (with_reducible refine (HKP.out g c hc w3 (HR.out.below hB3.out) (SP1.out.below H13.out)).mono ?_); rintro e w4 ⟨rfl, hb4⟩; have H14 := Lib.hid (nx H13.out hb4); have H14x := Lib.hid H14.out.size; have hB4 := Lib.hid (nx hB3.out hb4); have K4 := K0.out.below hB4.out; have a0 := K4.cell 0 rfl; have a1 := K4.cell 1 rfl; have a2 := K4.cell 2 rfl; have a3 := K4.cell 3 rfl; clear K4)
    | (go_at_call 36; (with_reducible refine (HST.out g c w4 (SP1.out.below H14.out).reads).mono ?_); rintro e w5 ⟨va, rfl, ho5, hb5⟩; have hO5 := Lib.hid ho5; obtain ⟨p5, c5, rfl⟩ := (HRow.of_own ho5).form; clear ho5; have hB5 := Lib.hid (nx hB4.out hb5); have H15 := Lib.hid (nx H14.out hb5); have K5 := K0.out.below hB5.out; clear a0 a1 a2 a3; have a0 := K5.cell 0 rfl; have a1 := K5.cell 1 rfl; have a2 := K5.cell 2 rfl; have a3 := K5.cell 3 rfl; clear K5)
    | (go_at_call 36; (with_reducible refine (HST.out g c w5 (SP1.out.below H15.out).reads).mono ?_); rintro e w6 ⟨vb, rfl, ho6, hb6⟩; have hO6 := Lib.hid ho6; obtain ⟨p6, c6, rfl⟩ := (HRow.of_own ho6).form; clear ho6; have hB6 := Lib.hid (nx hB5.out hb6); have H16 := Lib.hid (nx H15.out hb6); have K6 := K0.out.below hB6.out; clear a0 a1 a2 a3; have a0 := K6.cell 0 rfl; have a1 := K6.cell 1 rfl; have a2 := K6.cell 2 rfl; have a3 := K6.cell 3 rfl; clear K6)
    | (go_at_call 37; (with_reducible refine (HRS.out w6 (HR.out.below hB6.out)).mono ?_); rintro e w7 ⟨vw, rfl, ho7, hb7⟩; have hO7 := Lib.hid ho7; obtain ⟨p7, c7, rfl⟩ := (HRow.of_own ho7).form; clear ho7; have hB7 := Lib.hid (nx hB6.out hb7); have H17 := Lib.hid (nx H16.out hb7); clear a0 a1 a2 a3)
    | (go_at_call 16; (with_reducible refine (HSM.out p5 p7 c5 c7 w7 (readsL (own_latL (own_latL hO5.out hb6) hb7)) (readsL hO7.out)).mono ?_); rintro e w8 ⟨rfl, hb8⟩; have hB8 := Lib.hid (nx hB7.out hb8); have H18 := Lib.hid (nx H17.out hb8))
    | (go_at_call 16; (with_reducible refine (HSM.out p6 p7 c6 c7 w8 (readsL (own_latL (own_latL hO6.out hb7) hb8)) (readsL (own_latL hO7.out hb8))).mono ?_); rintro e w9 ⟨rfl, hb9⟩; have hB9 := Lib.hid (nx hB8.out hb9); have H19 := Lib.hid (nx H18.out hb9))
    | (go_at_call 17; (with_reducible refine (HKP.out g c hc w9 (HR.out.below hB9.out) (SP1.out.below H19.out)).mono ?_); rintro e w10 ⟨rfl, hb10⟩; have hB10 := Lib.hid (nx hB9.out hb10); have H110 := Lib.hid (nx H19.out hb10); have HA10 := Lib.hid (own_latL hO5.out (nx (nx (nx (nx hb6 hb7) hb8) hb9) hb10)); have HV10 := Lib.hid (own_latL hO6.out (nx (nx (nx hb7 hb8) hb9) hb10)); have hsz := Lib.hid (show w6.heap.size ≤ w10.heap.size from (nx (nx (nx hb7 hb8) hb9) hb10).size); have hlo := Lib.hid (And.intro hb5.size hb6.size); have a0 := (K0.out.below hB10.out).cell 0 rfl; clear hb2 hb3 hb4 hb5 hb6 hb7 hb8 hb9 H12 H13 H14 H15 H16 H17 H18 H19 hB2 hB3 hB5 hB6 hB7 hB8 hB9 hO7 hb10)
    | (go_at_call 38; (with_reducible refine (HUN.out g c w10 (SP1.out.below H110.out).reads).mono ?_); rintro e w11 ⟨vx, rfl, ho11, hb11⟩; have hO11 := Lib.hid ho11; obtain ⟨p11, c11, rfl⟩ := (HRow.of_own ho11).form; clear ho11; have hB11 := Lib.hid (nx hB10.out hb11); have H111 := Lib.hid (nx H110.out hb11); clear a0; have a0 := (K0.out.below hB11.out).cell 0 rfl)
    | (go_at_call 38; (with_reducible refine (HUN.out g c w11 (SP1.out.below H111.out).reads).mono ?_); rintro e w12 ⟨vy, rfl, ho12, hb12⟩; have hO12 := Lib.hid ho12; obtain ⟨p12, c12, rfl⟩ := (HRow.of_own ho12).form; clear ho12; have hB12 := Lib.hid (nx hB11.out hb12); have H112 := Lib.hid (nx H111.out hb12); clear a0; have a0 := (K0.out.below hB12.out).cell 0 rfl)
    | (go_at_call 39; (with_reducible refine (HRU.out w12 (HR.out.below hB12.out)).mono ?_); rintro e w13 ⟨vz, rfl, ho13, hb13⟩; have hO13 := Lib.hid ho13; obtain ⟨p13, c13, rfl⟩ := (HRow.of_own ho13).form; clear ho13; have hB13 := Lib.hid (nx hB12.out hb13); have H113 := Lib.hid (nx H112.out hb13); clear a0)
    | (go_at_call 16; (with_reducible refine (HSU.out p11 p13 c11 c13 w13 (readsL (own_latL (own_latL hO11.out hb12) hb13)) (readsL hO13.out)).mono ?_); rintro e w14 ⟨rfl, hb14⟩; have hB14 := Lib.hid (nx hB13.out hb14); have H114 := Lib.hid (nx H113.out hb14))
    | (go_at_call 16; (with_reducible refine (HSU.out p12 p13 c12 c13 w14 (readsL (own_latL (own_latL hO12.out hb13) hb14)) (readsL (own_latL hO13.out hb14))).mono ?_); rintro e w15 ⟨rfl, hb15⟩; have hB15 := Lib.hid (nx hB14.out hb15); have H115 := Lib.hid (nx H114.out hb15))
    | (go_at_call 17; (with_reducible refine (HKP.out g c hc w15 (HR.out.below hB15.out) (SP1.out.below H115.out)).mono ?_); rintro e w16 ⟨rfl, hb16⟩; have hB16 := Lib.hid (nx hB15.out hb16); have H116 := Lib.hid (nx H115.out hb16);
        have T1 := Lib.hid (nx (nx (nx (nx (nx hb11 hb12) hb13) hb14) hb15) hb16); have T2 := Lib.hid (nx (nx (nx (nx hb12 hb13) hb14) hb15) hb16); have T3 := Lib.hid (nx (nx (nx hb13 hb14) hb15) hb16);
        have q1 := Lib.hid (HRow.of_own (own_latL HA10.out T1.out)); have q2 := Lib.hid ((HRow.of_own (own_latL HV10.out T1.out)).lower hlo.out.1); have q3 := Lib.hid ((HRow.of_own (own_latL hO11.out T2.out)).lower (Nat.le_trans hlo.out.1 (Nat.le_trans hlo.out.2 hsz.out))); have q4 := Lib.hid ((HRow.of_own (own_latL hO12.out T3.out)).lower (Nat.le_trans hlo.out.1 (Nat.le_trans hlo.out.2 (Nat.le_trans hsz.out hb11.size))));
        have r1 := Lib.hid (fun g h => (hO5.out.lt g h).2); have r2 := Lib.hid (fun g h => hO6.out.lt g h); have r3 := Lib.hid (fun g h => And.intro (Nat.le_trans hsz.out (hO11.out.lt g h).1) (hO11.out.lt g h).2); have r4 := Lib.hid (fun g h => (hO12.out.lt g h).1);
        have hsB := Lib.hid (show w4.heap.size ≤ w16.heap.size from Nat.le_trans (Nat.le_trans hlo.out.1 hlo.out.2) (Nat.le_trans hsz.out T1.out.size)); have hs611 := Lib.hid (Nat.le_trans hsz.out hb11.size);
        clear hb11 hb12 hb13 hb14 hb15 hb16 hB11 hB12 hB13 hB14 hB15 H111 H112 H113 H114 H115 hO13)
    | (go_at_call 18; (with_reducible refine (HAP.out _ _ _ _ _ _ _ _ w4.heap.size w5.heap.size w6.heap.size w11.heap.size w16 hsB.out q1.out q2.out q3.out q4.out r1.out r2.out r3.out r4.out hlo.out.2 hs611.out).mono ?_); rintro e w17 ⟨rfl, hb17⟩; have hB17 := Lib.hid (hB16.out.trans (hb17.mono hB4.out.size)); have H117 := Lib.hid (H116.out.trans (hb17.mono H14x.out)))
    | (go_at_call 17; (with_reducible refine (HKP.out g c hc w17 (HR.out.below hB17.out) (SP1.out.below H117.out)).mono ?_); rintro e w18 ⟨rfl, hb18⟩; have hB18 := Lib.hid (nx hB17.out hb18); have H118 := Lib.hid (nx H117.out hb18))
    | (go_at_call 19; (with_reducible refine (HAW.out _ (HT.out.below hB18.out (Nat.le_refl _))).mono ?_); rintro e w19 ⟨rfl, hb19⟩; have hB19 := Lib.hid (nx hB18.out hb19); have H119 := Lib.hid (nx H118.out hb19)))
  have hgW := ((HO1.out.lt g rfl)).1
  have HOW := Lib.hid (own_latL HO1.out H119.out)
  have hBX := hB19.out
  clear hB19 H119 hO5 hO6 hO11 hO12 HA10 HV10 hsz hlo H110 hB10 HCK HRC HSP HST HUN HRS HRU HS HKP HAP HSM HSU HAW HT SP1 HO1 H116 hB16 T1 T2 T3 q1 q2 q3 q4 r1 r2 r3 r4 hsB hs611 hB17 H117 hb17 hb18 hb19 hB18 H118
  go_loopw [20] (fun i wr => ∃ (k : Nat) (Z : List Cu), i = .int .i64 (k : Nat) ∧ k ≤ n ∧ Z.length = n + 12 ∧ Hid (wr.ownsRow W.heap.size 36 4 (.slice (some ⟨g, 0, none⟩) (n + 12) c) (n + 12) (Z.flatMap cuC)) ∧ Below W.heap.size W wr) (fun i _ => n - (intOf i).toNat)
  case atStart => exact ⟨0, _, rfl, Nat.zero_le _, by rw [sksC_len, HL.out], HOW, hBX⟩
  case round =>
    clear HOW hBX
    obtain ⟨k, Z, rfl, hk, hZ, hO, hb⟩ := hrel
    by_cases hlt : k < n
    · have hki : (k : Int) < (n : Int) := by omega
      have hk0 : (0 : Int) ≤ (k : Int) := by omega
      have hkZ : k < Z.length := by omega
      obtain ⟨z, hz⟩ : ∃ z, Z[k]?.getD cuZ = z := ⟨_, rfl⟩
      obtain ⟨zi, za, zd, zg⟩ := z
      have y1 : wr.cell? ⟨g, k * 4 + 1, none⟩ = some (.int .i64 za) := by
        rw [hO.out.cellAt (k * 4 + 1) (by omega), flat4c_at Z k 1 hkZ (by omega), hz]
        rfl
      have f1 := hO.out.frozenAt (k * 4 + 1)
      have HF := Lib.hid (fun x => flat4c_set Z k 1 (zi, x, zd, zg) (.int .i64 x) hkZ (by omega) (by rw [hz]; rfl))
      have HST := Lib.hid (fun x => hO.out.stored (k * 4 + 1) x)
      have HZ := Lib.hid (fun x => show (Z.set k x).length = n + 12 by rw [List.length_set]; exact hZ)
      clear hz hkZ hO
      go_wp2_with fail
      obtain ⟨r1, -⟩ := HST.out (.int .i64 (bits .xor .i64 za 1))
      rw [HF.out] at r1
      have hbn := hb.setCell (p := ⟨g, k * 4 + 1, none⟩) hgW (.int .i64 (bits .xor .i64 za 1))
      exact ⟨⟨k + 1, Z.set k (zi, bits .xor .i64 za 1, zd, zg), by go_num, hlt, HZ.out _, Lib.hid r1, hbn⟩, by simp [intOf]; omega⟩
    · obtain rfl : k = n := by omega
      have hkd : decide (k < k) = false := decide_eq_false (by omega)
      have hL2 : (Z.take k).length = k := by rw [List.length_take]; omega
      have HC := Lib.hid (fun j u (h : ((Z.take k).flatMap cuC)[j]? = some u) => show wr.cell? ((⟨g, 0, none⟩ : Addr).add j) = some u by
        have h2 := flat_takeC Z k j u h
        obtain ⟨hj, -⟩ := List.getElem?_eq_some_iff.1 h2
        rw [flat4c_len] at hj
        rw [Addr.add_lit, Nat.zero_add, hO.out.cellAt j (by omega)]
        exact h2)
      have hLen := flat4c_len (Z.take k)
      have HS2 := Lib.hid (HST2.out _ hL2)
      have HR2 := Lib.hid (HRS2.out _ hL2)
      have hSV := HL82.out (Z.take k)
      rw [hL2] at hLen
      obtain ⟨L2, hLe⟩ : ∃ L2, Z.take k = L2 := ⟨_, rfl⟩
      rw [hLe] at HC hLen HS2 HR2 hSV
      obtain ⟨⟨er2, V2⟩, hV2⟩ : ∃ p, setV L2 (ci, ca, cd, cg) = p := ⟨_, rfl⟩
      rw [hV2] at HS2 HR2 hSV
      obtain ⟨m2, hm2⟩ : ∃ m, V2.length = m := ⟨_, rfl⟩
      simp only at HS2 HR2 hSV
      rw [hm2] at HS2 HR2 hSV
      have HSM2 := Lib.hid (fun a b ca cb w hA hB => same_any a b m2 ca cb V2 hm2 (by omega) w hA hB)
      have HLEN := Lib.hid hLen
      clear hL2 hLe hV2 hm2 hLen hO hZ hlt hk HST2 HRS2 HL82
      go_wp2_with (first
        | (at_builtin; refine wpList_append_src rfl _ _ 22 rfl wr.heap.size 36 i0 (.agg #[.int .u32 0, .int .i64 0, .int .i64 0, .int .i64 0]) 4 32 Tryd.underlying22 hi hz0 hz1 hz2 rfl (by decide) (.slice none 0 0) 0 [] rfl (World.ownsRow_nil _ _ _ _) (some ⟨g, 0, none⟩) k c (L2.flatMap cuC) rfl HLEN.out (.inr ⟨_, rfl, HC.out⟩) (flat4c_one' L2) (by unfold maxLen; omega) (by omega) (Nat.le_refl _) ?_; intro v2 w2 hown2 hgrow2 _; have hb2 : Below wr.heap.size wr w2 := (Below.refl _ _).grown hgrow2 (Nat.le_refl _) (fun q e => by cases e); rw [Nat.zero_add, List.nil_append] at hown2; have HX2 := Lib.hid hown2; obtain ⟨pn, cn, rfl⟩ := (HRow.of_own HX2.out).form; have HB2 := Lib.hid (nx hb hb2); have HG2 := Lib.hid (cells_readsC (fun j u h => (hb2.cell (World.block_lt_of_cell? _ _ (HC.out j u h))).trans (HC.out j u h))); have K2 := K0.out.below HB2.out; have a0 := K2.cell 0 rfl; have a1 := K2.cell 1 rfl; have a2 := K2.cell 2 rfl; have a3 := K2.cell 3 rfl; clear hown2 hgrow2 K2)
        | (go_at_call 36; (with_reducible refine (HS2.out g c w2 HG2.out).mono ?_); rintro e w5 ⟨va, rfl, ho5, hb5⟩; have hO5 := Lib.hid ho5; obtain ⟨p5, c5, rfl⟩ := (HRow.of_own ho5).form; clear ho5; have hB5 := Lib.hid (nx HB2.out hb5); have HX5 := Lib.hid (own_latL HX2.out hb5); have K5 := K0.out.below hB5.out; clear a0 a1 a2 a3; have a0 := K5.cell 0 rfl; have a1 := K5.cell 1 rfl; have a2 := K5.cell 2 rfl; have a3 := K5.cell 3 rfl; clear K5)
        | (go_at_call 37; (with_reducible refine (HR2.out pn cn w5 (readsL HX5.out)).mono ?_); rintro e w6 ⟨vb, rfl, ho6, hb6⟩; have hO6 := Lib.hid ho6; obtain ⟨p6, c6, rfl⟩ := (HRow.of_own ho6).form; clear ho6; have hB6 := Lib.hid (nx hB5.out hb6); clear a0 a1 a2 a3)
        | (go_at_call 16; (with_reducible refine (HSM2.out p5 p6 c5 c6 w6 (readsL (own_latL hO5.out hb6)) (readsL hO6.out)).mono ?_); rintro e w7 ⟨rfl, hb7⟩; have hB7 := Lib.hid (nx hB6.out hb7)))
      go_ret
      exact ⟨rfl, nx hb0 hB7.out⟩
end Go.Proofs.YtfoppbignompkaaDoor

namespace Go.Proofs.YtfoppbignompkaaDoor
open Go.ChangeShapes Go.WideShapes Go.ChangeAt Go.RowKit Go.Deep

theorem arrayC4 {α : Type} {cs : Array α} (h : cs.size = 4) : ∃ c0 c1 c2 c3, cs = #[c0, c1, c2, c3] := by
  obtain ⟨l⟩ := cs
  match l, h with
  | [c0, c1, c2, c3], _ => exact ⟨c0, c1, c2, c3, rfl⟩
theorem arrayC3 {α : Type} {cs : Array α} (h : cs.size = 3) : ∃ c0 c1 c2, cs = #[c0, c1, c2] := by
  obtain ⟨l⟩ := cs
  match l, h with
  | [c0, c1, c2], _ => exact ⟨c0, c1, c2, rfl⟩
theorem listC4 {α : Type} {cs : List α} (h : cs.length = 4) : ∃ c0 c1 c2 c3, cs = [c0, c1, c2, c3] := by
  match cs, h with
  | [c0, c1, c2, c3], _ => exact ⟨c0, c1, c2, c3, rfl⟩
theorem listC3 {α : Type} {cs : List α} (h : cs.length = 3) : ∃ c0 c1 c2, cs = [c0, c1, c2] := by
  match cs, h with
  | [c0, c1, c2], _ => exact ⟨c0, c1, c2, rfl⟩
theorem cells_intC : Tryd.prog.cellsOf 3 = 1 := by kernel_rfl
theorem cells_u32C : Tryd.prog.cellsOf 34 = 1 := by kernel_rfl
theorem cells_curC : Tryd.prog.cellsOf 36 = 4 := by kernel_rfl
theorem cells_editC : Tryd.prog.cellsOf 24 = 3 := by kernel_rfl
/-- the bounds of a cursor's numbers -/
def CuB (c : Cu) : Prop := (0 ≤ c.1 ∧ c.1 ≤ 4294967295) ∧ (-9223372036854775808 ≤ c.2.1 ∧ c.2.1 ≤ 9223372036854775807) ∧ (-9223372036854775808 ≤ c.2.2.1 ∧ c.2.2.1 ≤ 9223372036854775807) ∧ (-9223372036854775808 ≤ c.2.2.2 ∧ c.2.2.2 ≤ 9223372036854775807)
theorem ints_of {zs : List Cu} (h : ∀ c ∈ zs, CuB c) : IntsC zs := fun k hk => by
  have := h _ (List.getElem_mem hk)
  rw [List.getElem?_eq_getElem hk]
  exact ⟨this.2.1.2, this.2.2.1.2, this.2.2.2.2⟩
theorem words_of {zs : List Cu} (h : ∀ c ∈ zs, CuB c) : WordsC zs := fun k hk => by
  have := h _ (List.getElem_mem hk)
  rw [List.getElem?_eq_getElem hk]
  exact this.1

theorem trod_cu {H : Type} {enc : TypeId × Value → H} {W : World} {base : Nat} {spare : Nat → Bool} {held : Bool} {fuel : Nat} {cs : List Value} {y : DataW H × List MemPlace}
    (hf : DataW.trod enc Tryd.prog W base spare held fuel 36 cs = some y) : ∃ x : Cu, cs = cuC x ∧ (∃ ps, y.1 = .agg ps) ∧ y = (.agg [.lit (.int .u32 x.1), .lit (.int .i64 x.2.1), .lit (.int .i64 x.2.2.1), .lit (.int .i64 x.2.2.2)], []) ∧ CuB x := by
  obtain ⟨xs, n, _, hx, hcl, hlen, hfs⟩ := DataW.trod_struct Tryd.underlying36 hf
  obtain ⟨c0, c1, c2, c3, rfl⟩ := listC4 (hcl.trans cells_curC)
  obtain ⟨x0, x1, x2, x3, rfl⟩ := listC4 (hlen.trans rfl)
  have t0 := hfs 0 _ rfl
  have t1 := hfs 1 _ rfl
  have t2 := hfs 2 _ rfl
  have t3 := hfs 3 _ rfl
  simp [cells_intC, cells_u32C] at t0 t1 t2 t3
  obtain ⟨i, e0, rfl, w0⟩ := DataW.trod_int Tryd.underlying34 t0
  obtain ⟨a, e1, rfl, w1⟩ := DataW.trod_int Tryd.underlying3 t1
  obtain ⟨d, e2, rfl, w2⟩ := DataW.trod_int Tryd.underlying3 t2
  obtain ⟨g, e3, rfl, w3⟩ := DataW.trod_int Tryd.underlying3 t3
  simp at e0 e1 e2 e3
  subst e0 e1 e2 e3
  exact ⟨(i, a, d, g), rfl, ⟨_, by rw [hx]⟩, by rw [hx]; rfl, bounds_u32 w0, bounds_i64 w1, bounds_i64 w2, bounds_i64 w3⟩

set_option maxRecDepth 100000 in
theorem open_cursor {H : Type} {enc : TypeId × Value → H} {W : World} {base : Nat} {spare : Nat → Bool} {held : Bool} {r : Reach} {b0 : Nat} {v : Value} {d : DataW H} {p : List MemPlace}
    (hv : Value.okWide Tryd.prog W r b0 36 v) (h : DataW.Trod enc Tryd.prog W base spare held 36 v d p) :
    ∃ c : Cu, v = .agg #[.int .u32 c.1, .int .i64 c.2.1, .int .i64 c.2.2.1, .int .i64 c.2.2.2] ∧ d = .agg [.lit (.int .u32 c.1), .lit (.int .i64 c.2.1), .lit (.int .i64 c.2.2.1), .lit (.int .i64 c.2.2.2)] ∧ p = [] ∧ CuB c := by
  obtain ⟨cs, rfl, hsz⟩ := okWide_struct Tryd.underlying36 hv
  obtain ⟨c0, c1, c2, c3, rfl⟩ := arrayC4 (hsz.trans cells_curC)
  obtain ⟨fuel, hf⟩ := h
  obtain ⟨x, hx, -, hy, hb⟩ := trod_cu hf
  have hcs : [c0, c1, c2, c3] = cuC x := by simpa [Value.cells] using hx
  simp only [cuC, List.cons.injEq, and_true] at hcs
  obtain ⟨rfl, rfl, rfl, rfl⟩ := hcs
  obtain ⟨rfl, rfl⟩ := Prod.mk.inj hy
  exact ⟨x, rfl, rfl, rfl, hb⟩
set_option maxRecDepth 100000 in
theorem open_edit {H : Type} {enc : TypeId × Value → H} {W : World} {base : Nat} {spare : Nat → Bool} {held : Bool} {r : Reach} {b0 : Nat} {v : Value} {d : DataW H} {p : List MemPlace}
    (hv : Value.okWide Tryd.prog W r b0 24 v) (h : DataW.Trod enc Tryd.prog W base spare held 24 v d p) :
    ∃ a o i : Int, v = .agg #[.int .i64 a, .int .i64 o, .int .i64 i] ∧ d = .agg [.lit (.int .i64 a), .lit (.int .i64 o), .lit (.int .i64 i)] ∧ p = [] ∧
      (-9223372036854775808 ≤ a ∧ a ≤ 9223372036854775807) ∧ (-9223372036854775808 ≤ o ∧ o ≤ 9223372036854775807) ∧ (-9223372036854775808 ≤ i ∧ i ≤ 9223372036854775807) := by
  obtain ⟨cs, rfl, hsz⟩ := okWide_struct Tryd.underlying24 hv
  obtain ⟨c0, c1, c2, rfl⟩ := arrayC3 (hsz.trans cells_editC)
  obtain ⟨fuel, hf⟩ := h
  obtain ⟨xs, n, _, hx, hcl, hlen, hfs⟩ := DataW.trod_struct Tryd.underlying24 hf
  obtain ⟨x0, x1, x2, rfl⟩ := listC3 (hlen.trans rfl)
  have t0 := hfs 0 _ rfl
  have t1 := hfs 1 _ rfl
  have t2 := hfs 2 _ rfl
  simp [Value.cells, cells_intC] at t0 t1 t2
  obtain ⟨a, e0, rfl, w0⟩ := DataW.trod_int Tryd.underlying3 t0
  obtain ⟨o, e1, rfl, w1⟩ := DataW.trod_int Tryd.underlying3 t1
  obtain ⟨i, e2, rfl, w2⟩ := DataW.trod_int Tryd.underlying3 t2
  simp at e0 e1 e2 hx
  subst e0 e1 e2
  exact ⟨a, o, i, rfl, hx.1, hx.2, bounds_i64 w0, bounds_i64 w1, bounds_i64 w2⟩

set_option maxRecDepth 100000 in
theorem open_cursors {H : Type} {enc : TypeId × Value → H} {W : World} {base : Nat} {spare : Nat → Bool} {held : Bool} {r : Reach} {b0 : Nat} {v : Value} {d : DataW H} {p : List MemPlace}
    (hv : Value.okWide Tryd.prog W r b0 22 v) (h : DataW.Trod enc Tryd.prog W base spare held 22 v d p) (hw : ∀ n ∈ DataW.weights Tryd.prog 22 d, n ≤ reachBytes) :
    ∃ (ao : Option Addr) (n cap : Nat) (zs : List Cu), v = .slice ao n cap ∧ zs.length = n ∧ n ≤ 4398046510976 ∧ SrcC W ao cap zs ∧ ∀ c ∈ zs, CuB c := by
  obtain ⟨ao, n, cap, rfl⟩ := okWide_slice Tryd.underlying22 hv
  obtain ⟨fuel, hf⟩ := h
  rcases open_slice Tryd.underlying22 hf with ⟨hcs, _⟩ | ⟨a, len, cap', m, n', D, Pl, hcs, hba, hlc, _, hm, hx, hall⟩
  · simp [Value.cells] at hcs
    obtain ⟨rfl, rfl, rfl⟩ := hcs
    exact ⟨none, 0, 0, [], rfl, rfl, by omega, .inl ⟨rfl, rfl, rfl⟩, fun c hc => by cases hc⟩
  · simp [Value.cells] at hcs
    obtain ⟨rfl, rfl, rfl⟩ := hcs
    have hd : d = .slice ((List.range n).map D) ((List.range (m - n)).map fun j => D (n + j)) := congrArg Prod.fst hx
    subst hd
    have hnm : n ≤ m := by rw [hm]; split <;> omega
    have hbytes := hw ((((List.range n).map D).length + ((List.range (m - n)).map fun j => D (n + j)).length) * Tryd.prog.bytesOf 36) (by simp [DataW.weights, Tryd.underlying22])
    have hb32 : Tryd.prog.bytesOf 36 = 32 := by kernel_rfl
    rw [hb32] at hbytes
    simp [reachBytes] at hbytes
    have key : ∀ i, i < n → ∃ x : Cu, CuB x ∧ ∀ j, j < 4 → W.cell? (a.add (i * 4 + j)) = (cuC x)[j]? := by
      intro i hi
      obtain ⟨cs', hc, ht⟩ := hall i (by omega)
      rw [cells_curC] at hc
      obtain ⟨x, rfl, -, -, hb⟩ := trod_cu ht
      obtain ⟨_, hlen, hcell⟩ := World.cells?_some hc
      refine ⟨x, hb, fun j hj => ?_⟩
      have := hcell j hj
      rwa [Addr.add_add] at this
    obtain ⟨f, hf⟩ : ∃ f : Nat → Cu, ∀ i, i < n → (CuB (f i) ∧ ∀ j, j < 4 → W.cell? (a.add (i * 4 + j)) = (cuC (f i))[j]?) := choose_lt key
    have hget : ∀ i, i < n → ((List.range n).map f)[i]?.getD cuZ = f i := fun i hi => by
      rw [List.getElem?_map, List.getElem?_range hi]
      rfl
    refine ⟨some a, n, cap, (List.range n).map f, rfl, by simp, by omega, .inr ⟨a, rfl, fun j u hj => ?_⟩, fun c hc => ?_⟩
    · obtain ⟨hjl, _⟩ := List.getElem?_eq_some_iff.1 hj
      rw [flat4c_len, List.length_map, List.length_range] at hjl
      have hi : j / 4 < n := by omega
      have h4 : j % 4 < 4 := by omega
      have hjd : j / 4 * 4 + j % 4 = j := by omega
      have h1 := flat4c_at ((List.range n).map f) (j / 4) (j % 4) (by simpa using hi) h4
      rw [hjd, hget _ hi, hj] at h1
      have h2 := (hf _ hi).2 _ h4
      rw [hjd] at h2
      rw [h2, h1]
    · obtain ⟨i, hi, rfl⟩ := List.mem_map.1 hc
      exact (hf i (List.mem_range.1 hi)).1
end Go.Proofs.YtfoppbignompkaaDoor
