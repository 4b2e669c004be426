/-
  Lists of cursors, a cursor and an edit that are handed in: opened, field by field.
-/
import Derived.Test.YtfoppbignompkaaDoorCurB
import Derived.Laws.Bits64b
import Derived.Lib.ConvBytes
import Derived.Deep.RegionHeldLaw
import Derived.Deep.AppendLies
import Derived.Test.YtfoppbignompkaaDoorDoor
import Derived.Deep.Slices
import Derived.ShutString
import Derived.ChangeOld
import Derived.SizedLaws
namespace Go.Proofs.YtfoppbignompkaaDoor
open Go.RowKit

/-- does a cursor leave a text of so many bytes? -/
def farC (B : Int) (c : Cu) : Bool := decide (B < c.2.1 ∨ B < c.2.2.1)
/-- what Check answers -/
def checkN (zs : List Cu) (B : Int) : Int := if B < 0 then 2 else if wrongN zs ≠ 0 then wrongN zs else if zs.any (farC B) then 200 else 0
set_option maxRecDepth 10000 in
set_option maxHeartbeats 4000000 in
theorem check_any (ao : Option Addr) (cap : Nat) (zs : List Cu) (n : Nat) (hl : zs.length = n) (hn : n ≤ 140737488351232) (B : Int) (w : World) (hR : ReadsC w ao zs) :
    Calls Tryd.prog 28 #[.slice ao n cap, .int .i64 B] w fun e w' => e = .returned (.int .i64 (checkN zs B)) ∧ Below w.heap.size w w' := by
  have HW := Lib.hid (fun w hR => cwrong_any ao cap zs n hl hn w hR)
  have HR := Lib.hid hR
  have HL := Lib.hid hl
  clear hR hl
  by_cases hB : B < 0
  · have HC := Lib.hid (show checkN zs B = 2 from if_pos hB)
    go_enter Tryd.func28, Tryd.ntmps28
    go_wp2_with fail
    go_ret
    exact ⟨by rw [HC.out]; rfl, Below.refl _ _⟩
  · have hBd : decide (B < 0) = false := decide_eq_false hB
    have HC0 := Lib.hid (show checkN zs B = if wrongN zs ≠ 0 then wrongN zs else if zs.any (farC B) then 200 else 0 from if_neg hB)
    obtain ⟨er, her⟩ : ∃ er, wrongN zs = er := ⟨_, rfl⟩
    rw [her] at HW HC0
    by_cases hz : er = 0
    · subst hz
      have HC := Lib.hid (show checkN zs B = if zs.any (farC B) then 200 else 0 by rw [HC0.out, if_neg (by simp)])
      have hn8 := (wrongN_zero her).1
      rw [HL.out] at hn8
      clear HC0 her hB
      go_enter Tryd.func28, Tryd.ntmps28
      go_wp2_with (go_at_call 40; (with_reducible refine (HW.out _ HR.out).mono ?_); rintro e w1 ⟨rfl, hb1⟩)
      go_loopw [17] (fun i wr => ∃ k : Nat, i = .int .i64 (k : Nat) ∧ k ≤ n ∧ Hid (∀ j, j < k → farC B (zs[j]?.getD cuZ) = false) ∧ Below w.heap.size w wr) (fun i _ => n - (intOf i).toNat)
      case atStart => exact ⟨0, rfl, Nat.zero_le _, Lib.hid (fun j hj => by omega), hb1⟩
      case round =>
        clear hb1
        obtain ⟨k, rfl, hk, hok, hb⟩ := hrel
        by_cases hlt : k < n
        · have hki : (k : Int) < (n : Int) := by omega
          have hk0 : (0 : Int) ≤ (k : Int) := by omega
          have hkz : k < zs.length := by rw [HL.out]; exact hlt
          rcases HR.out with h0 | ⟨b, off, rfl, hcs⟩
          · rw [h0] at hkz; simp at hkz
          obtain ⟨x0, x1, x2, x3⟩ := hcs k hkz
          have x0 := cellKeep x0 hb
          have x1 := cellKeep x1 hb
          have x2 := cellKeep x2 hb
          have x3 := cellKeep x3 hb
          have HZK := Lib.hid hkz
          obtain ⟨c, hc⟩ : ∃ c, zs[k]?.getD cuZ = c := ⟨_, rfl⟩
          rw [hc] at x0 x1 x2 x3
          have HCC := Lib.hid hc
          obtain ⟨i, a, d, g⟩ := c
          simp only at x0 x1 x2 x3
          clear hcs hc hkz
          by_cases hf : B < a ∨ B < d
          · have HC2 := Lib.hid (show checkN zs B = 200 by
              rw [HC.out, if_pos]
              rw [List.any_eq_true]
              refine ⟨_, List.getElem_mem HZK.out, ?_⟩
              have := HCC.out
              rw [List.getElem?_eq_getElem HZK.out] at this
              rw [show zs[k] = (i, a, d, g) from this]
              exact decide_eq_true hf)
            have hmx : decide (B < max a d) = true := decide_eq_true (by omega)
            obtain ⟨mx, hmxe⟩ : ∃ mx, max a d = mx := ⟨_, rfl⟩
            rw [hmxe] at hmx
            clear hf
            go_wp2_with fail
            go_ret
            exact ⟨by rw [HC2.out]; rfl, al hb _⟩
          · have HF := Lib.hid (show farC B (zs[k]?.getD cuZ) = false by rw [HCC.out]; exact decide_eq_false hf)
            have hmx : decide (B < max a d) = false := decide_eq_false (by omega)
            obtain ⟨mx, hmxe⟩ : ∃ mx, max a d = mx := ⟨_, rfl⟩
            rw [hmxe] at hmx
            clear hf
            go_wp2_with fail
            exact ⟨⟨k + 1, by go_num, hlt, Lib.hid (fun j hj => by rcases Nat.lt_succ_iff_lt_or_eq.1 hj with h | rfl; exact hok.out j h; exact HF.out), al hb _⟩, by simp [intOf]; omega⟩
        · obtain rfl : k = n := by omega
          have HC2 := Lib.hid (show checkN zs B = 0 by
            rw [HC.out, if_neg]
            rw [List.any_eq_true]
            rintro ⟨c, hc, h2⟩
            obtain ⟨j, hj, rfl⟩ := List.getElem_of_mem hc
            have := hok.out j (by rw [← HL.out]; exact hj)
            rw [List.getElem?_eq_getElem hj] at this
            rw [show farC B zs[j] = false from this] at h2
            cases h2)
          have hkd : decide (k < k) = false := decide_eq_false (by omega)
          go_wp2_with fail
          go_ret
          exact ⟨by rw [HC2.out]; rfl, hb⟩
    · have HC := Lib.hid (show checkN zs B = er by rw [HC0.out, if_pos hz])
      have hne : (er != 0) = true := bne_iff_ne.2 hz
      clear hz her HC0 hB
      go_enter Tryd.func28, Tryd.ntmps28
      go_wp2_with (go_at_call 40; (with_reducible refine (HW.out _ HR.out).mono ?_); rintro e w1 ⟨rfl, hb1⟩)
      go_ret
      exact ⟨by rw [HC.out]; rfl, hb1⟩
end Go.Proofs.YtfoppbignompkaaDoor

namespace Go.Proofs.YtfoppbignompkaaDoor
open Go.RowKit

/-- the number of bytes, the lowest first -/
def leV : List Int → Int
  | [] => 0
  | b :: r => b + 256 * leV r
def Bytes (l : List Int) : Prop := ∀ b ∈ l, 0 ≤ b ∧ b ≤ 255
theorem Bytes.tail {b : Int} {l : List Int} (h : Bytes (b :: l)) : Bytes l := fun x hx => h x (List.mem_cons_of_mem _ hx)
theorem Bytes.drop {l : List Int} (h : Bytes l) (n : Nat) : Bytes (l.drop n) := fun x hx => h x (List.mem_of_mem_drop hx)
theorem Bytes.take {l : List Int} (h : Bytes l) (n : Nat) : Bytes (l.take n) := fun x hx => h x (List.mem_of_mem_take hx)
theorem leV_bound : ∀ l : List Int, Bytes l → 0 ≤ leV l ∧ leV l < 256 ^ l.length
  | [], _ => by simp [leV]
  | b :: l, h => by
    obtain ⟨h1, h2⟩ := leV_bound l h.tail
    obtain ⟨h3, h4⟩ := h b List.mem_cons_self
    rw [List.length_cons, Int.pow_succ]
    show 0 ≤ b + 256 * leV l ∧ b + 256 * leV l < _
    omega
theorem leZ_cons (x : Int) (m : Nat) : leZ x (m + 1) = x % 256 :: leZ (x / 256) m := by
  unfold leZ
  rw [List.range_succ_eq_map, List.map_cons, List.map_map]
  congr 1
  · simp
  · apply List.map_congr_left
    intro k _
    show x / 256 ^ (k + 1) % 256 = x / 256 / 256 ^ k % 256
    rw [Int.ediv_ediv_of_nonneg (by omega), Int.pow_succ, Int.mul_comm]
theorem leZ_leV : ∀ l : List Int, Bytes l → leZ (leV l) l.length = l
  | [], _ => rfl
  | b :: l, h => by
    obtain ⟨h3, h4⟩ := h b List.mem_cons_self
    rw [List.length_cons, leZ_cons]
    have e1 : leV (b :: l) % 256 = b := by show (b + 256 * leV l) % 256 = b; omega
    have e2 : leV (b :: l) / 256 = leV l := by show (b + 256 * leV l) / 256 = leV l; omega
    rw [e1, e2, leZ_leV l h.tail]
theorem leV_leZ (m : Nat) : ∀ x : Int, 0 ≤ x → x < 256 ^ m → leV (leZ x m) = x := by
  induction m with
  | zero => intro x h1 h2; have : x < 1 := h2; show (0 : Int) = x; omega
  | succ m ih =>
    intro x h1 h2
    rw [Int.pow_succ] at h2
    rw [leZ_cons]
    show x % 256 + 256 * leV (leZ (x / 256) m) = x
    rw [ih (x / 256) (by omega) (by omega)]
    omega
theorem leZ_bytes (x : Int) (m : Nat) : Bytes (leZ x m) := by
  intro b hb
  obtain ⟨k, _, rfl⟩ := List.mem_map.1 hb
  omega
/-- the word at a place -/
def wdZ (l : List Int) (at_ : Nat) : Int := leV ((l.drop at_).take 8)
theorem wdZ_bound (l : List Int) (h : Bytes l) (p : Nat) (hp : p + 8 ≤ l.length) : 0 ≤ wdZ l p ∧ wdZ l p ≤ 18446744073709551615 := by
  have := leV_bound _ ((h.drop p).take 8)
  rw [List.length_take, List.length_drop, Nat.min_eq_left (by omega)] at this
  unfold wdZ
  have e : (256 : Int) ^ 8 = 18446744073709551616 := by decide +kernel
  omega
theorem wdZ_le (l : List Int) (h : Bytes l) (p : Nat) (hp : p + 8 ≤ l.length) : leZ (wdZ l p) 8 = (l.drop p).take 8 := by
  have := leZ_leV _ ((h.drop p).take 8)
  rw [List.length_take, List.length_drop, Nat.min_eq_left (by omega)] at this
  exact this
/-- the last m of the eight bytes -/
theorem wd_step (l : List Int) (p m : Nat) (hm : m < 8) (hp : p + 8 ≤ l.length) :
    leV (((l.drop p).take 8).drop (8 - (m + 1))) = leV (((l.drop p).take 8).drop (8 - m)) * 256 + l[p + (7 - m)]?.getD 0 := by
  have hlen : ((l.drop p).take 8).length = 8 := by rw [List.length_take, List.length_drop]; omega
  rw [List.drop_eq_getElem_cons (by omega), show 8 - (m + 1) + 1 = 8 - m by omega]
  show _ + 256 * _ = _
  have e : ((l.drop p).take 8)[8 - (m + 1)]'(by omega) = l[p + (7 - m)]?.getD 0 := by
    rw [List.getElem_take, List.getElem_drop, List.getElem?_eq_getElem (by omega)]
    simp only [Option.getD_some]
    congr 1
    omega
  rw [e]
  omega
theorem wd_zero (l : List Int) (p : Nat) : leV (((l.drop p).take 8).drop (8 - 0)) = 0 := by
  rw [List.drop_of_length_le (by rw [List.length_take]; omega)]
  rfl
theorem wd_full (l : List Int) (p : Nat) : leV (((l.drop p).take 8).drop (8 - 8)) = wdZ l p := rfl
theorem wd_part (l : List Int) (h : Bytes l) (p m : Nat) (hm : m < 8) : 0 ≤ leV (((l.drop p).take 8).drop (8 - m)) ∧ leV (((l.drop p).take 8).drop (8 - m)) < 72057594037927936 := by
  obtain ⟨h1, h2⟩ := leV_bound _ (((h.drop p).take 8).drop (8 - m))
  refine ⟨h1, ?_⟩
  have hlen : (((l.drop p).take 8).drop (8 - m)).length ≤ 7 := by rw [List.length_drop, List.length_take]; omega
  have h3 : (256 : Int) ^ (((l.drop p).take 8).drop (8 - m)).length ≤ 256 ^ 7 := by
    obtain ⟨k, hk⟩ : ∃ k, (((l.drop p).take 8).drop (8 - m)).length = k := ⟨_, rfl⟩
    rw [hk] at hlen ⊢
    have : ∀ k, k ≤ 7 → (256 : Int) ^ k ≤ 256 ^ 7 := by decide +kernel
    exact this k hlen
  have e : (256 : Int) ^ 7 = 72057594037927936 := by decide +kernel
  omega

/-- the cursor at a number -/
def curZ (l : List Int) (k : Nat) : Cu := (wdZ l (32 * k), wdZ l (32 * k + 8), wdZ l (32 * k + 16), wdZ l (32 * k + 24))
def unpZ (l : List Int) (k : Nat) : List Cu := (List.range k).map (curZ l)
theorem unpZ_len (l : List Int) (k : Nat) : (unpZ l k).length = k := by simp [unpZ]
theorem unpZ_succ (l : List Int) (k : Nat) : unpZ l (k + 1) = unpZ l k ++ [curZ l k] := by unfold unpZ; rw [List.range_succ, List.map_append]; rfl
theorem unpZ_get (l : List Int) (n k : Nat) (h : k < n) : (unpZ l n)[k]?.getD cuZ = curZ l k := by
  unfold unpZ
  rw [List.getElem?_map, List.getElem?_range h]
  rfl
theorem packZ_append (a b : List Cu) : packZ (a ++ b) = packZ a ++ packZ b := by unfold packZ; rw [List.flatMap_append]
theorem packZ_one (c : Cu) : packZ [c] = leZ c.1 8 ++ leZ c.2.1 8 ++ leZ c.2.2.1 8 ++ leZ c.2.2.2 8 := by
  simp [packZ, wordC]
theorem four_eights (l : List Int) (p : Nat) : (l.drop p).take 8 ++ (l.drop (p + 8)).take 8 ++ (l.drop (p + 16)).take 8 ++ (l.drop (p + 24)).take 8 = (l.drop p).take 32 := by
  have e : ∀ a b : Nat, (l.drop p).take (a + b) = (l.drop p).take a ++ (l.drop (p + a)).take b := fun a b => by rw [List.take_add, List.drop_drop]
  rw [show (32 : Nat) = 24 + 8 from rfl, e 24 8, show (24 : Nat) = 16 + 8 from rfl, e 16 8, show (16 : Nat) = 8 + 8 from rfl, e 8 8]
theorem pack_unp (l : List Int) (h : Bytes l) : ∀ k, 32 * k ≤ l.length → packZ (unpZ l k) = l.take (32 * k)
  | 0, _ => rfl
  | k + 1, hk => by
    rw [unpZ_succ, packZ_append, pack_unp l h k (by omega), packZ_one]
    show _ ++ (leZ (wdZ l (32 * k)) 8 ++ leZ (wdZ l (32 * k + 8)) 8 ++ leZ (wdZ l (32 * k + 16)) 8 ++ leZ (wdZ l (32 * k + 24)) 8) = _
    rw [wdZ_le l h _ (by omega), wdZ_le l h _ (by omega), wdZ_le l h _ (by omega), wdZ_le l h _ (by omega), four_eights]
    rw [show 32 * (k + 1) = 32 * k + 32 by omega, List.take_add]
theorem packZ_drop : ∀ (zs : List Cu) (k : Nat), (packZ zs).drop (32 * k) = packZ (zs.drop k)
  | zs, 0 => rfl
  | [], k + 1 => by simp [packZ]
  | c :: zs, k + 1 => by
    have e : packZ (c :: zs) = packZ [c] ++ packZ zs := packZ_append [c] zs
    have hl : (packZ [c]).length = 32 := packZ_len [c]
    rw [e, show 32 * (k + 1) = (packZ [c]).length + 32 * k by omega, ← List.drop_drop, List.drop_left, packZ_drop zs k]
    rfl
theorem wdZ_pack (zs : List Cu) (k : Nat) (hk : k < zs.length) (c : Cu) (hc : zs[k]?.getD cuZ = c) (h0 : ∀ x ∈ wordC c, 0 ≤ x ∧ x ≤ 18446744073709551615) : curZ (packZ zs) k = c := by
  have hd : (packZ zs).drop (32 * k) = packZ [c] ++ packZ (zs.drop (k + 1)) := by
    rw [packZ_drop, List.drop_eq_getElem_cons hk]
    rw [List.getElem?_eq_getElem hk] at hc
    rw [show zs[k] = c from hc]
    exact packZ_append [c] _
  have e8 : (256 : Int) ^ 8 = 18446744073709551616 := by decide +kernel
  have hx : ∀ x ∈ wordC c, leV (leZ x 8) = x := fun x hx => leV_leZ 8 x (h0 x hx).1 (by have := (h0 x hx).2; omega)
  have key : ∀ (a : List Int) (x : Int) (b : List Int) (j : Nat), a.length = j → (packZ zs).drop (32 * k) = a ++ leZ x 8 ++ b → wdZ (packZ zs) (32 * k + j) = leV (leZ x 8) := by
    intro a x b j ha hd
    unfold wdZ
    rw [← List.drop_drop, hd, ← ha, List.append_assoc, List.drop_left, List.take_append_of_le_length (by rw [leZ_len]; omega), List.take_of_length_le (by rw [leZ_len]; omega)]
  rw [packZ_one] at hd
  obtain ⟨i, a, d, g⟩ := c
  have h1 := key [] i (leZ a 8 ++ leZ d 8 ++ leZ g 8 ++ packZ (zs.drop (k + 1))) 0 rfl (by rw [hd]; simp)
  have h2 := key (leZ i 8) a (leZ d 8 ++ leZ g 8 ++ packZ (zs.drop (k + 1))) 8 (leZ_len _ _) (by rw [hd]; simp)
  have h3 := key (leZ i 8 ++ leZ a 8) d (leZ g 8 ++ packZ (zs.drop (k + 1))) 16 (by simp [leZ_len]) (by rw [hd]; simp)
  have h4 := key (leZ i 8 ++ leZ a 8 ++ leZ d 8) g (packZ (zs.drop (k + 1))) 24 (by simp [leZ_len]) (by rw [hd])
  unfold curZ
  rw [Nat.add_zero] at h1
  rw [h1, h2, h3, h4, hx i (by simp [wordC]), hx a (by simp [wordC]), hx d (by simp [wordC]), hx g (by simp [wordC])]
theorem ext_cu {a b : List Cu} (hl : a.length = b.length) (h : ∀ k, k < a.length → a[k]?.getD cuZ = b[k]?.getD cuZ) : a = b := by
  refine List.ext_getElem hl fun k h1 h2 => ?_
  have := h k h1
  rwa [List.getElem?_eq_getElem h1, List.getElem?_eq_getElem h2] at this
/-- is a number of a cursor too great? -/
def bigC (c : Cu) : Bool := decide (4294967295 < c.1 ∨ 9223372036854775807 < c.2.1 ∨ 9223372036854775807 < c.2.2.1 ∨ 9223372036854775807 < c.2.2.2)
/-- Unpack's answer: the error, the list -/
def unpackV (l : List Int) : Int × List Cu :=
  if l.length % 32 ≠ 0 then (200, []) else if 256 < l.length then (201, []) else if (unpZ l (l.length / 32)).any bigC then (200, []) else if wrongN (unpZ l (l.length / 32)) ≠ 0 then (200, []) else (0, unpZ l (l.length / 32))
theorem bytes_pack (zs : List Cu) : Bytes (packZ zs) := by
  intro b hb
  obtain ⟨c, _, hc⟩ := List.mem_flatMap.1 hb
  obtain ⟨x, _, hx⟩ := List.mem_flatMap.1 hc
  exact leZ_bytes x 8 b hx
theorem unp_pack (zs : List Cu) (her : wrongN zs = 0) (hz : IntsC zs) (hz2 : WordsC zs) : unpackV (packZ zs) = (0, zs) := by
  obtain ⟨hn8, hbad⟩ := wrongN_zero her
  have hl := packZ_len zs
  have hu : unpZ (packZ zs) ((packZ zs).length / 32) = zs := by
    rw [hl, Nat.mul_div_cancel_left _ (by omega)]
    refine ext_cu (unpZ_len _ _) fun k hk => ?_
    rw [unpZ_len] at hk
    rw [unpZ_get _ _ _ hk]
    refine wdZ_pack zs k hk _ rfl ?_
    have h1 := bad_low (hbad k hk)
    have h2 := hz k hk
    have h3 := hz2 k hk
    intro x hx
    simp only [wordC, List.mem_cons, List.not_mem_nil, or_false] at hx
    rcases hx with rfl | rfl | rfl | rfl <;> omega
  unfold unpackV
  rw [hu, if_neg (by omega), if_neg (by omega), if_neg, if_neg (by rw [her]; simp)]
  rw [List.any_eq_true]
  rintro ⟨c, hc, h2⟩
  obtain ⟨k, hk, rfl⟩ := List.getElem_of_mem hc
  have h3 := hz k hk
  have h4 := hz2 k hk
  rw [List.getElem?_eq_getElem hk] at h3 h4
  simp only [Option.getD_some] at h3 h4
  have := of_decide_eq_true h2
  omega
theorem pack_unpack (l : List Int) (h : Bytes l) (L : List Cu) (hv : unpackV l = (0, L)) : packZ L = l ∧ wrongN L = 0 ∧ IntsC L ∧ WordsC L := by
  unfold unpackV at hv
  by_cases h1 : l.length % 32 ≠ 0
  · rw [if_pos h1] at hv; cases hv
  rw [if_neg h1] at hv
  by_cases h2 : 256 < l.length
  · rw [if_pos h2] at hv; cases hv
  rw [if_neg h2] at hv
  by_cases h3 : (unpZ l (l.length / 32)).any bigC = true
  · rw [if_pos h3] at hv; cases hv
  rw [if_neg h3] at hv
  by_cases h4 : wrongN (unpZ l (l.length / 32)) ≠ 0
  · rw [if_pos h4] at hv; cases hv
  rw [if_neg h4] at hv
  obtain ⟨-, rfl⟩ := Prod.mk.inj hv
  have hb : ∀ k, k < (unpZ l (l.length / 32)).length → bigC ((unpZ l (l.length / 32))[k]?.getD cuZ) = false := fun k hk => by
    cases hc : bigC ((unpZ l (l.length / 32))[k]?.getD cuZ)
    · rfl
    · refine absurd (List.any_eq_true.2 ⟨_, List.getElem_mem hk, ?_⟩) h3
      rwa [List.getElem?_eq_getElem hk] at hc
  refine ⟨?_, by omega, fun k hk => ?_, fun k hk => ?_⟩
  · rw [pack_unp l h _ (by omega), List.take_of_length_le (by omega)]
  · have := of_decide_eq_false (hb k hk)
    omega
  · have := of_decide_eq_false (hb k hk)
    rw [unpZ_len] at hk
    have h5 := wdZ_bound l h (32 * k) (by omega)
    rw [unpZ_get _ _ _ hk] at this ⊢
    show 0 ≤ wdZ l (32 * k) ∧ wdZ l (32 * k) ≤ _
    have h6 : ¬ (4294967295 < wdZ l (32 * k) ∨ _) := this
    omega
end Go.Proofs.YtfoppbignompkaaDoor

namespace Go.Proofs.YtfoppbignompkaaDoor
open Go.RowKit

theorem or_byte (u b : Int) (hu : 0 ≤ u) (hu2 : u < 72057594037927936) (hb : 0 ≤ b) (hb2 : b ≤ 255) : bits .or .u64 (u * 256) b = u * 256 + b := by
  obtain ⟨n, rfl⟩ : ∃ n : Nat, u = (n : Int) := ⟨u.toNat, by omega⟩
  obtain ⟨m, rfl⟩ : ∃ m : Nat, b = (m : Int) := ⟨b.toNat, by omega⟩
  have h := bits_or_u64_nat (n * 256) m (by omega) (by omega)
  rw [Int.natCast_mul] at h
  rw [show ((256 : Nat) : Int) = 256 from rfl] at h
  rw [h, show n * 256 = n <<< 8 by rw [Nat.shiftLeft_eq], ← Nat.shiftLeft_add_eq_or_of_lt (show m < 2 ^ 8 by omega), Nat.shiftLeft_eq]
  omega
set_option maxRecDepth 10000 in
theorem take_any (ao : Option Addr) (cap : Nat) (zs : List Int) (n : Nat) (hl : zs.length = n) (hn : n ≤ 1048576) (hB : Bytes zs) (p : Nat) (hp : p + 8 ≤ n) (w : World) (hR : ReadsI w .u8 ao zs) :
    Calls Tryd.prog 60 #[.slice ao n cap, .int .i64 (p : Nat)] w fun e w' => e = .returned (.tuple #[.int .u64 (wdZ zs p), .int .i64 0]) ∧ w = w' := by
  have HL := Lib.hid hl
  have HB := Lib.hid hB
  rcases hR with h0 | ⟨b, off, rfl, hc⟩
  · rw [h0] at hl; simp at hl; omega
  have HC := Lib.hid hc
  have hpi : decide ((n : Int) - 8 < (p : Int)) = false := decide_eq_false (by omega)
  have hpi2 : (p : Int) ≤ (n : Int) - 8 := by omega
  clear hl hB hc
  go_enter Tryd.func60, Tryd.ntmps60
  go_wp2_with (go_at_call 90; (with_reducible refine (size_any _).mono ?_); rintro e w4 ⟨rfl, rfl⟩)
  go_loop [7, 8] (fun u i => ∃ j : Nat, j ≤ 8 ∧ i = .int .i64 ((j : Int) - 1) ∧ u = .int .u64 (leV (((zs.drop p).take 8).drop (8 - (8 - j))))) (fun _ i => (intOf i + 1).toNat)
  case atStart => exact ⟨8, by omega, rfl, by rw [show leV (((zs.drop p).take 8).drop (8 - (8 - 8))) = 0 from wd_zero zs p]⟩
  case round =>
    obtain ⟨j, hj, rfl, rfl⟩ := hrel
    by_cases h0 : 0 < j
    · obtain ⟨k, rfl⟩ : ∃ k, j = k + 1 := ⟨j - 1, by omega⟩
      rw [show (((k + 1 : Nat) : Int) - 1) = (k : Int) by omega]
      obtain ⟨m, hm⟩ : ∃ m, 8 - (k + 1) = m := ⟨_, rfl⟩
      have hstep := wd_step zs p m (by omega) (by rw [HL.out]; exact hp)
      obtain ⟨hu1, hu2⟩ := wd_part zs HB.out p m (by omega)
      rw [show p + (7 - m) = p + k by omega] at hstep
      rw [hm]
      have x0 := HC.out (p + k) (by rw [HL.out]; omega)
      have hbb := HB.out (zs[p + k]?.getD 0) (by rw [List.getElem?_eq_getElem (by rw [HL.out]; omega)]; exact List.getElem_mem _)
      obtain ⟨u, hu⟩ : ∃ u, leV (((zs.drop p).take 8).drop (8 - m)) = u := ⟨_, rfl⟩
      obtain ⟨x, hx⟩ : ∃ x, zs[p + k]?.getD 0 = x := ⟨_, rfl⟩
      rw [hu] at hstep hu1 hu2 ⊢
      rw [hx] at hstep hbb x0
      obtain ⟨hb1, hb2⟩ := hbb
      have hor := or_byte u x hu1 hu2 hb1 hb2
      have HST := Lib.hid hstep
      have hpk : (p : Int) + (k : Int) < (n : Int) := by omega
      clear hstep hu hx
      go_wp2_with fail
      refine ⟨⟨k, by omega, rfl, ?_⟩, by simp [intOf]⟩
      rw [show 8 - k = m + 1 by omega, HST.out]
    · obtain rfl : j = 0 := by omega
      go_wp2_with fail
      go_ret2
      exact ⟨rfl, rfl⟩
end Go.Proofs.YtfoppbignompkaaDoor

namespace Go.Proofs.YtfoppbignompkaaDoor
open Go.RowKit

/-- the bytes of a text, as numbers -/
def zB (s : ByteArray) : List Int := (bs s).map fun b => (b.toNat : Int)
theorem zB_len (s : ByteArray) : (zB s).length = s.size := by unfold zB; rw [List.length_map, ← size_bs]
theorem zB_bytes (s : ByteArray) : Bytes (zB s) := by
  intro b hb
  obtain ⟨x, _, rfl⟩ := List.mem_map.1 hb
  have := x.toNat_lt
  omega
/-- the words read so far, zeros behind them -/
def vV (l : List Int) (p m : Nat) : List Value := (List.range 4).map fun j => Value.int .u64 (if j < m then wdZ l (p + 8 * j) else 0)
theorem vV_zero (l : List Int) (p : Nat) : vV l p 0 = [.int .u64 0, .int .u64 0, .int .u64 0, .int .u64 0] := rfl
theorem vV_full (l : List Int) (p : Nat) : vV l p 4 = [.int .u64 (wdZ l p), .int .u64 (wdZ l (p + 8)), .int .u64 (wdZ l (p + 16)), .int .u64 (wdZ l (p + 24))] := rfl
theorem vV_set (l : List Int) (p m : Nat) (hm : m < 4) : (vV l p m).set m (.int .u64 (wdZ l (p + 8 * m))) = vV l p (m + 1) := by
  match m, hm with
  | 0, _ => rfl
  | 1, _ => rfl
  | 2, _ => rfl
  | 3, _ => rfl
theorem vV_get (l : List Int) (p m : Nat) (hm : m < 4) : (vV l p m)[m]? = some (.int .u64 0) := by
  match m, hm with
  | 0, _ => rfl
  | 1, _ => rfl
  | 2, _ => rfl
  | 3, _ => rfl
theorem noneV_or {x : Option Nat} {y : Nat} (h : ∀ g, x = some g → g ≠ y) : x = none ∨ x ≠ some y := by
  rcases hx : x with _ | g
  · exact .inl rfl
  · exact .inr fun e => h g hx (Option.some.inj e)
theorem unp_step (l : List Int) (k : Nat) : (unpZ l k).flatMap cuC ++ cuC (curZ l k) = (unpZ l (k + 1)).flatMap cuC := by
  rw [unpZ_succ, List.flatMap_append]
  simp

set_option maxRecDepth 10000 in
set_option maxHeartbeats 8000000 in
theorem unpack_any (s : ByteArray) (hs : s.size ≤ 140737488351232) (w : World) :
    Calls Tryd.prog 33 #[.string s] w fun e w' => ∃ v, e = .returned (.tuple #[v, .int .i64 (unpackV (zB s)).1]) ∧ w'.ownsRow w.heap.size 36 4 v (unpackV (zB s)).2.length ((unpackV (zB s)).2.flatMap cuC) ∧ Below w.heap.size w w' := by
  obtain ⟨i0, hi, hz0, hz1, hz2⟩ := info_parts info_cur
  obtain ⟨r, hr⟩ : ∃ r : Nat, s.size % 32 = r := ⟨_, rfl⟩
  have hri : (s.size : Int).tmod 32 = (r : Int) := by rw [← hr]; exact (Int.ofNat_tmod s.size 32).symm
  have HL := zB_len s
  by_cases h1 : r ≠ 0
  · have hv : unpackV (zB s) = (200, []) := by unfold unpackV; rw [if_pos (by rw [HL, hr]; exact h1)]
    rw [hv]
    have hr0 : ((r : Int) != 0) = true := bne_iff_ne.2 (by omega)
    clear HL hv hr
    go_enter Tryd.func33, Tryd.ntmps33
    go_wp2_with fail
    go_ret2
    exact ⟨_, rfl, World.ownsRow_nil _ _ _ _, Below.refl _ _⟩
  · obtain rfl : r = 0 := by omega
    rw [show ((0 : Nat) : Int) = 0 from rfl] at hri
    by_cases h2 : 256 < s.size
    · have hv : unpackV (zB s) = (201, []) := by unfold unpackV; rw [if_neg (by rw [HL, hr]; simp), if_pos (by rw [HL]; exact h2)]
      rw [hv]
      have h2i : (256 : Int) < (s.size : Int) := by omega
      clear HL hv hr
      go_enter Tryd.func33, Tryd.ntmps33
      go_wp2_with fail
      go_ret2
      exact ⟨_, rfl, World.ownsRow_nil _ _ _ _, Below.refl _ _⟩
    · have h2i : decide (256 < (s.size : Int)) = false := decide_eq_false (by omega)
      have h2n : decide (256 < s.size) = false := decide_eq_false h2
      have HV := Lib.hid (show unpackV (zB s) = if (unpZ (zB s) (s.size / 32)).any bigC then (200, []) else if wrongN (unpZ (zB s) (s.size / 32)) ≠ 0 then (200, []) else (0, unpZ (zB s) (s.size / 32)) by unfold unpackV; rw [if_neg (by rw [HL, hr]; simp), if_neg (by rw [HL]; omega), HL])
      obtain ⟨n, hn⟩ : ∃ n, s.size / 32 = n := ⟨_, rfl⟩
      have hsn : s.size = 32 * n := by omega
      have hn8 : n ≤ 8 := by omega
      have hs256 : s.size ≤ 256 := by omega
      rw [hn] at HV
      have HC := Lib.hid (fun w => Lib.run_convert_string_bytes (P := Tryd.prog) w 9 86 5 s Tryd.underlying9 Tryd.underlying86 Tryd.underlying5)
      have hconv := HC.out w
      have HSN := Lib.hid hsn
      have HZB := Lib.hid (zB_bytes s)
      have HZL := Lib.hid HL
      clear hr hn HC hsn HL
      go_enter Tryd.func33, Tryd.ntmps33
      go_wp2_with fail
      have hRB : ReadsI (Lib.bytesWorld w 5 s) .u8 (some ⟨w.heap.size, 0, none⟩) (zB s) := by
        refine .inr ⟨w.heap.size, 0, rfl, fun j hj => ?_⟩
        have hj2 : j < s.size := by rw [← HZL.out]; exact hj
        rw [Nat.zero_add, Lib.bytesWorld_cell w 5 s j hj2]
        unfold zB
        rw [List.getElem?_map, List.getD]
        have hj3 : j < (bs s).length := by rw [← size_bs]; exact hj2
        rw [List.getElem?_eq_getElem (show j < s.data.toList.length from hj3)]
        rfl
      have hb1 : Below w.heap.size w (Lib.bytesWorld w 5 s) := by
        exact ⟨rfl, rfl, rfl, by rw [Lib.bytesWorld_size]; exact Nat.le_succ _, fun k hk => Lib.bytesWorld_at_old w _ s k hk⟩
      obtain ⟨cb, hcb⟩ : ∃ cb, grownCap w s.size 0 5 = cb := ⟨_, rfl⟩
      obtain ⟨W1, hW1⟩ : ∃ W1, Lib.bytesWorld w 5 s = W1 := ⟨_, rfl⟩
      obtain ⟨B, hB⟩ : ∃ B, w.heap.size = B := ⟨_, rfl⟩
      rw [hW1] at hRB hb1 ⊢
      rw [hB] at hRB
      rw [hB, hcb]
      have HRB := Lib.hid hRB
      have hszB := hb1.size
      clear hconv hcb hW1 hRB hB h1 h2 h2i h2n hri
      have HZ := Lib.hid (show ∀ j, j < n → curZ (zB s) j = (wdZ (zB s) (32 * j), wdZ (zB s) (32 * j + 8), wdZ (zB s) (32 * j + 16), wdZ (zB s) (32 * j + 24)) from fun _ _ => rfl)
      go_loopw [4, 6] (fun v i wr => ∃ k p : Nat, i = .int .i64 (p : Nat) ∧ p = 32 * k ∧ k ≤ n ∧ Hid (∀ j, j < k → bigC (curZ (zB s) j) = false) ∧ Hid (wr.ownsRow W1.heap.size 36 4 v k ((unpZ (zB s) k).flatMap cuC)) ∧ Below W1.heap.size W1 wr) (fun _ i _ => s.size - (intOf i).toNat)
      case atStart => exact ⟨0, 0, rfl, rfl, Nat.zero_le _, Lib.hid (fun j hj => by omega), Lib.hid (World.ownsRow_nil _ _ _ _), Below.refl _ _⟩
      case round =>
        obtain ⟨k, p, rfl, hp, hk, hok, hO, hb⟩ := hrel
        have hsz := HSN.out
        by_cases hlt : k < n
        · have hpi : (p : Int) < (s.size : Int) := by omega
          have hpn : p + 32 ≤ s.size := by omega
          have HP := Lib.hid hp
          clear hp hsz
          obtain ⟨wo, rfl⟩ : ∃ wo : World, wo = wr := ⟨_, rfl⟩
          go_wp2_with fail
          have hVB := Blk.new wo 93 (vV (zB s) p 0)
          have hOX := Lib.hid (hO.out.alloc (.cells #[.int .u64 0, .int .u64 0, .int .u64 0, .int .u64 0] 93))
          have hbX := al hb (.cells #[.int .u64 0, .int .u64 0, .int .u64 0, .int .u64 0] 93)
          have hne : ∀ q, u4.ownBlock = some q → q ≠ wo.heap.size := fun q e => by have := (hO.out.lt q e).2; omega
          have hBl : W1.heap.size ≤ wo.heap.size := hb.size
          obtain ⟨vb, hvb⟩ : ∃ vb, wo.heap.size = vb := ⟨_, rfl⟩
          obtain ⟨X, hX⟩ : ∃ X, wo.alloc (.cells #[.int .u64 0, .int .u64 0, .int .u64 0, .int .u64 0] 93) = X := ⟨_, rfl⟩
          have hVX : Blk X vb 93 (vV (zB s) p 0) := by rw [← hX, ← hvb]; exact hVB
          rw [hX] at hOX hbX ⊢
          rw [hvb] at hne hBl
          rw [hvb]
          have HNE := Lib.hid hne
          clear hX hvb hVB hO hb hne
          go_loopw [24] (fun j V => ∃ m : Nat, j = .int .i64 (m : Nat) ∧ m ≤ 4 ∧ Blk V vb 93 (vV (zB s) p m) ∧ Hid (V.ownsRow W1.heap.size 36 4 u4 k ((unpZ (zB s) k).flatMap cuC)) ∧ Below W1.heap.size W1 V) (fun j _ => 4 - (intOf j).toNat)
          case atStart => exact ⟨0, rfl, by omega, hVX, hOX, hbX⟩
          case round =>
            clear hVX hOX hbX
            obtain ⟨m, rfl, hm, hVX, hOX, hbX⟩ := hrel
            by_cases hm4 : m < 4
            · have hmi : (m : Int) < 4 := by omega
              have hm0 : (0 : Int) ≤ (m : Int) := by omega
              obtain ⟨q, hq⟩ : ∃ q, p + 8 * m = q := ⟨_, rfl⟩
              have hqi : (p : Int) + 8 * (m : Int) = (q : Int) := by omega
              have HTK := Lib.hid (take_any (some ⟨B, 0, none⟩) cb (zB s) s.size HZL.out (by omega) HZB.out q (by omega) wr (HRB.out.below hbX (Nat.le_refl _)))
              have HVS := Lib.hid (vV_set (zB s) p m hm4)
              have c0 := hVX.cell m (vV_get (zB s) p m hm4)
              have f0 := hVX.frozen m
              have HX := Lib.hid hVX
              rw [hq] at HVS
              obtain ⟨x, hx⟩ : ∃ x, wdZ (zB s) q = x := ⟨_, rfl⟩
              rw [hx] at HTK HVS
              clear hq hx hVX
              go_wp2_with (go_at_call 60; (with_reducible refine HTK.out.mono ?_); rintro e w4 ⟨rfl, rfl⟩)
              exact ⟨⟨m + 1, by go_num, by omega, by rw [← HVS.out]; exact HX.out.set m (.int .u64 x), Lib.hid (hOX.out.kept (grownBy_set _ vb m _) (noneV_or HNE.out)), hbX.setCell (p := ⟨vb, m, none⟩) hBl _⟩, by simp [intOf]; omega⟩
            · obtain rfl : m = 4 := by omega
              rw [show ((4 : Nat) : Int) = 4 from rfl]
              rw [vV_full] at hVX
              have c0 := hVX.cell 0 rfl
              have c1 := hVX.cell 1 rfl
              have c2 := hVX.cell 2 rfl
              have c3 := hVX.cell 3 rfl
              have HCZ := Lib.hid (HZ.out k hlt)
              rw [← HP.out] at HCZ
              obtain ⟨b0, b0'⟩ := wdZ_bound (zB s) HZB.out p (by rw [HZL.out]; omega)
              obtain ⟨b1, b1'⟩ := wdZ_bound (zB s) HZB.out (p + 8) (by rw [HZL.out]; omega)
              obtain ⟨b2, b2'⟩ := wdZ_bound (zB s) HZB.out (p + 16) (by rw [HZL.out]; omega)
              obtain ⟨b3, b3'⟩ := wdZ_bound (zB s) HZB.out (p + 24) (by rw [HZL.out]; omega)
              obtain ⟨x0, hx0⟩ : ∃ x, wdZ (zB s) p = x := ⟨_, rfl⟩
              obtain ⟨x1, hx1⟩ : ∃ x, wdZ (zB s) (p + 8) = x := ⟨_, rfl⟩
              obtain ⟨x2, hx2⟩ : ∃ x, wdZ (zB s) (p + 16) = x := ⟨_, rfl⟩
              obtain ⟨x3, hx3⟩ : ∃ x, wdZ (zB s) (p + 24) = x := ⟨_, rfl⟩
              rw [hx0] at c0 b0 b0' HCZ
              rw [hx1] at c1 b1 b1' HCZ
              rw [hx2] at c2 b2 b2' HCZ
              rw [hx3] at c3 b3 b3' HCZ
              clear hx0 hx1 hx2 hx3 hVX
              obtain ⟨y1, hy1⟩ : ∃ y, (if x1 < x2 then x2 else x1) = y := ⟨_, rfl⟩
              obtain ⟨y, hy⟩ : ∃ y', (if y1 < x3 then x3 else y1) = y' := ⟨_, rfl⟩
              have hyb : (9223372036854775807 < y ↔ (9223372036854775807 < x1 ∨ 9223372036854775807 < x2 ∨ 9223372036854775807 < x3)) := by
                rw [← hy, ← hy1]
                repeat' split
                all_goals omega
              have HBIG := Lib.hid (show bigC (curZ (zB s) k) = decide (4294967295 < x0 ∨ 9223372036854775807 < x1 ∨ 9223372036854775807 < x2 ∨ 9223372036854775807 < x3) by rw [HCZ.out]; rfl)
              by_cases hbig : 4294967295 < x0 ∨ 9223372036854775807 < y
              · have HVV := Lib.hid (show unpackV (zB s) = (200, []) by
                  rw [HV.out, if_pos]
                  rw [List.any_eq_true]
                  refine ⟨curZ (zB s) k, List.mem_map.2 ⟨k, List.mem_range.2 hlt, rfl⟩, ?_⟩
                  rw [HBIG.out, decide_eq_true_eq]
                  omega)
                by_cases h0 : 4294967295 < x0
                · clear hbig hyb
                  go_wp2_with fail
                  go_ret2
                  exact ⟨.slice none 0 0, by rw [HVV.out]; rfl, by rw [HVV.out]; exact World.ownsRow_nil _ _ _ _, hb1.trans (hbX.mono hszB)⟩
                · have h0d : decide (4294967295 < x0) = false := decide_eq_false h0
                  have hyy : 9223372036854775807 < y := by omega
                  clear hbig hyb h0
                  go_wp2_with fail
                  go_ret2
                  exact ⟨.slice none 0 0, by rw [HVV.out]; rfl, by rw [HVV.out]; exact World.ownsRow_nil _ _ _ _, hb1.trans (hbX.mono hszB)⟩
              · have h0d : decide (4294967295 < x0) = false := decide_eq_false (by omega)
                have hyd : decide (9223372036854775807 < y) = false := decide_eq_false (by omega)
                have hx0' : x0 ≤ 4294967295 := by omega
                have hx1' : x1 ≤ 9223372036854775807 := by omega
                have hx2' : x2 ≤ 9223372036854775807 := by omega
                have hx3' : x3 ≤ 9223372036854775807 := by omega
                have HOK := Lib.hid (show bigC (curZ (zB s) k) = false by rw [HBIG.out]; exact decide_eq_false (by omega))
                have HST := Lib.hid (unp_step (zB s) k)
                rw [HCZ.out] at HST
                have hszX := hbX.size
                clear hbig hyb b0' b1' b2' b3'
                go_wp2_with (at_builtin; refine wpList_append_own _ rfl _ _ 22 rfl W1.heap.size 36 i0 (.agg #[.int .u32 0, .int .i64 0, .int .i64 0, .int .i64 0]) 4 32 Tryd.underlying22 hi hz0 hz1 hz2 rfl (by decide) u4 _ _ rfl (hOX.out.alloc _) ⟨wr.heap.size, 0, none⟩ 1 1 [.int .u32 x0, .int .i64 x1, .int .i64 x2, .int .i64 x3] rfl (by simp) (cells_new _ _ _) (by simp [Value.oneCell']) (by unfold maxLen; omega) (by omega) (by rw [World.size_alloc]; omega) ?_; intro v4 w4 hown4 hgrow4 _)
                have hb4 : Below W1.heap.size W1 w4 := (al hbX _).grown hgrow4 (by rw [World.size_alloc]; omega) (fun q e => (hOX.out.lt q e).1)
                exact ⟨⟨k + 1, p + 32, by go_num, by rw [HP.out]; omega, by omega, Lib.hid (fun j hj => by rcases Nat.lt_succ_iff_lt_or_eq.1 hj with h | rfl; exact hok.out j h; exact HOK.out), Lib.hid (by rw [← HST.out]; exact hown4), hb4⟩, by simp [intOf]; omega⟩
        · obtain rfl : k = n := by omega
          have hps : p = s.size := by omega
          subst hps
          have hbn : (unpZ (zB s) k).any bigC = false := by
            cases hc : (unpZ (zB s) k).any bigC
            · rfl
            · obtain ⟨x, hx, h2⟩ := List.any_eq_true.1 hc
              obtain ⟨j, hj, rfl⟩ := List.mem_map.1 hx
              rw [hok.out j (List.mem_range.1 hj)] at h2
              cases h2
          have HVV := Lib.hid (show unpackV (zB s) = if wrongN (unpZ (zB s) k) ≠ 0 then (200, []) else (0, unpZ (zB s) k) by rw [HV.out, if_neg (by rw [hbn]; simp)])
          have hlen := unpZ_len (zB s) k
          obtain ⟨a5, c5, e5, hl5, hr5⟩ := ReadsC.owned hO.out
          rw [hlen] at e5
          subst e5
          have HW := Lib.hid (cwrong_any a5 c5 (unpZ (zB s) k) k hlen (by omega) wr hr5)
          obtain ⟨er, her⟩ : ∃ er, wrongN (unpZ (zB s) k) = er := ⟨_, rfl⟩
          rw [her] at HW HVV
          have HLEN := Lib.hid hlen
          clear hbn her hl5 hr5 hlen hsz
          by_cases hz : er = 0
          · subst hz
            have HV2 := Lib.hid (show unpackV (zB s) = (0, unpZ (zB s) k) by rw [HVV.out, if_neg (by simp)])
            go_wp2_with (go_at_call 40; (with_reducible refine HW.out.mono ?_); rintro e w6 ⟨rfl, hb6⟩)
            go_ret2
            refine ⟨_, by rw [HV2.out]; rfl, ?_, (hb1.trans (hb.mono hszB)).trans (hb6.mono (Nat.le_trans hszB hb.size))⟩
            rw [HV2.out]
            show w6.ownsRow _ _ _ _ (unpZ (zB s) k).length ((unpZ (zB s) k).flatMap cuC)
            rw [HLEN.out]
            exact owns_base (owns_below hO.out hb6 (Nat.le_refl _)) hszB
          · have HV2 := Lib.hid (show unpackV (zB s) = (200, []) by rw [HVV.out, if_pos hz])
            have hne : (er != 0) = true := bne_iff_ne.2 hz
            clear hz
            go_wp2_with (go_at_call 40; (with_reducible refine HW.out.mono ?_); rintro e w6 ⟨rfl, hb6⟩)
            go_ret2
            exact ⟨.slice none 0 0, by rw [HV2.out]; rfl, by rw [HV2.out]; exact World.ownsRow_nil _ _ _ _, (hb1.trans (hb.mono hszB)).trans (hb6.mono (Nat.le_trans hszB hb.size))⟩
end Go.Proofs.YtfoppbignompkaaDoor

namespace Go.Proofs.YtfoppbignompkaaDoor
open Go.RowKit

theorem same_self (i a d g : Int) (w : World) : (Op.equalIn 10000 36 (.agg #[.int .u32 i, .int .i64 a, .int .i64 d, .int .i64 g]) (.agg #[.int .u32 i, .int .i64 a, .int .i64 d, .int .i64 g])).run Tryd.prog w = .ok true w := by
  rw [eq_cur]
  simp
set_option maxRecDepth 100000 in
set_option maxHeartbeats 4000000 in
theorem same_any (ao bo : Option Addr) (n ca cb : Nat) (zs : List Cu) (hl : zs.length = n) (hn : n ≤ 140737488351232) (w : World) (hA : ReadsC w ao zs) (hB : ReadsC w bo zs) :
    Calls Tryd.prog 16 #[.slice ao n ca, .slice bo n cb] w fun r w' => r = .returned (.bool true) ∧ Below w.heap.size w w' := by
  have HA := Lib.hid hA
  have HB := Lib.hid hB
  have HL := Lib.hid hl
  have gc := guard_cur
  clear hA hB hl
  go_enter Tryd.func16, Tryd.ntmps16
  go_wp2_with fail
  go_loopw [5] (fun i wr => ∃ k : Nat, k ≤ n ∧ i = .int .i64 (k : Nat) ∧ Below w.heap.size w wr) (fun i _ => n - (intOf i).toNat)
  case atStart => exact ⟨0, Nat.zero_le _, rfl, Below.refl _ _⟩
  case round =>
    obtain ⟨k, hk, rfl, hb⟩ := hrel
    by_cases hlt : k < n
    · have hkz : k < zs.length := by rw [HL.out]; exact hlt
      rcases (HA.out.below hb) with h0 | ⟨g, o, rfl, hc⟩
      · rw [h0] at hkz; simp at hkz
      · rcases (HB.out.below hb) with h0 | ⟨g', o', rfl, hc'⟩
        · rw [h0] at hkz; simp at hkz
        · obtain ⟨x0, x1, x2, x3⟩ := hc k hkz
          obtain ⟨y0, y1, y2, y3⟩ := hc' k hkz
          obtain ⟨c, hcc⟩ : ∃ c, zs[k]?.getD cuZ = c := ⟨_, rfl⟩
          rw [hcc] at x0 x1 x2 x3 y0 y1 y2 y3
          obtain ⟨i, a, d, q⟩ := c
          simp only at x0 x1 x2 x3 y0 y1 y2 y3
          have hq := fun (w : World) => same_self i a d q w
          have hki : (k : Int) < (n : Int) := by omega
          have hk0 : (0 : Int) ≤ (k : Int) := by omega
          clear hc hc' hcc hkz
          go_wp2_with fail
          go_quiet (fail)
          all_goals go_wp2_with fail
          exact ⟨⟨k + 1, by omega, by go_num, below_drewN' hb _⟩, by simp [intOf]; omega⟩
    · go_wp2_with fail
      go_ret
      exact ⟨rfl, hb⟩

/-- what an argument that is a slice of cursors gives -/
def SrcC (w : World) (ao : Option Addr) (cap : Nat) (zs : List Cu) : Prop :=
  (ao = none ∧ zs = [] ∧ cap = 0) ∨ ∃ ad, ao = some ad ∧ ∀ j u, (zs.flatMap cuC)[j]? = some u → w.cell? (ad.add j) = some u
theorem cells_readsC {w : World} {ad : Addr} {zs : List Cu} (hc : ∀ j u, (zs.flatMap cuC)[j]? = some u → w.cell? (ad.add j) = some u) : ReadsC w (some ad) zs := by
  cases zs with
  | nil => exact .inl rfl
  | cons z zs =>
    obtain ⟨b, off, spot⟩ := ad
    have h0 := hc 0 (.int .u32 z.1) (by simp [cuC])
    have hspot : spot = none := by simpa [Addr.add] using World.cell?_spot h0
    subst hspot
    refine .inr ⟨b, off, rfl, fun j hj => ?_⟩
    have key : ∀ i, i < 4 → w.cell? ⟨b, off + j * 4 + i, none⟩ = (cuC ((z :: zs)[j]?.getD cuZ))[i]? := fun i hi => by
      have h := flat4c_at (z :: zs) j i hj hi
      obtain ⟨u, hu⟩ : ∃ u, (cuC ((z :: zs)[j]?.getD cuZ))[i]? = some u := ⟨_, List.getElem?_eq_getElem (by simpa [cuC] using hi)⟩
      have := hc (j * 4 + i) u (h.trans hu)
      rw [Addr.add_lit, ← Nat.add_assoc] at this
      rw [this, hu]
    exact ⟨key 0 (by omega), key 1 (by omega), key 2 (by omega), key 3 (by omega)⟩
theorem SrcC.reads {w : World} {ao : Option Addr} {cap : Nat} {zs : List Cu} (h : SrcC w ao cap zs) : ReadsC w ao zs := by
  rcases h with ⟨_, rfl, _⟩ | ⟨ad, rfl, hc⟩
  · exact .inl rfl
  · exact cells_readsC hc
/-- the marks behind a spare list -/
def skC (k : Nat) : Cu := (((900 + k : Nat) : Int), 7, 0, 0)
def sksC (zs : List Cu) (k : Nat) : List Cu := zs ++ (List.range k).map skC
theorem sksC_len (zs : List Cu) (k : Nat) : (sksC zs k).length = zs.length + k := by simp [sksC]
theorem sksC_succ (zs : List Cu) (k : Nat) : (sksC zs k).flatMap cuC ++ cuC (skC k) = (sksC zs (k + 1)).flatMap cuC := by
  simp [sksC, List.range_succ]
theorem flat4c_one' (L : List Cu) : ∀ u ∈ L.flatMap cuC, u.oneCell' = true := by
  intro u hu
  obtain ⟨c, _, hc⟩ := List.mem_flatMap.1 hu
  exact cuC_one c u hc

set_option maxRecDepth 100000 in
set_option maxHeartbeats 4000000 in
theorem spareC_any (ao : Option Addr) (cap n : Nat) (zs : List Cu) (hl : zs.length = n) (hn : n ≤ 4398046510976) (w : World) (hA : SrcC w ao cap zs) :
    Calls Tryd.prog 13 #[.slice ao n cap] w fun r w' => ∃ g c, n + 12 ≤ c ∧ r = .returned (.slice (some ⟨g, 0, none⟩) n c) ∧ w'.ownsRow w.heap.size 36 4 (.slice (some ⟨g, 0, none⟩) (n + 12) c) (n + 12) ((sksC zs 12).flatMap cuC) ∧ Below w.heap.size w w' := by
  obtain ⟨i0, hi, hz0, hz1, hz2⟩ := info_parts info_cur
  have HA := Lib.hid (show (ao = none ∧ n = 0 ∧ cap = 0) ∨ ∃ ad, ao = some ad ∧ ∀ j u, (zs.flatMap cuC)[j]? = some u → w.cell? (ad.add j) = some u by
    rcases hA with ⟨h1, h2, h3⟩ | h
    · exact .inl ⟨h1, by rw [← hl, h2]; rfl, h3⟩
    · exact .inr h)
  have HL := Lib.hid hl
  clear hA hl
  go_enter Tryd.func13, Tryd.ntmps13
  go_wp2_with (at_builtin; refine wpList_append_src rfl _ _ 22 rfl w.heap.size 36 i0 (.agg #[.int .u32 0, .int .i64 0, .int .i64 0, .int .i64 0]) 4 32 Tryd.underlying22 hi hz0 hz1 hz2 rfl (by decide) (.slice none 0 0) 0 [] rfl (World.ownsRow_nil _ _ _ _) ao n cap (zs.flatMap cuC) rfl (by rw [flat4c_len, HL.out]) HA.out (flat4c_one' zs) (by unfold maxLen; omega) (by omega) (Nat.le_refl _) ?_; intro v2 w2 hown2 hgrow2 _)
  have hb2 : Below w.heap.size w w2 := (Below.refl _ _).grown hgrow2 (Nat.le_refl _) (fun q e => by cases e)
  have hx2 : w2.ownsRow w.heap.size 36 4 v2 (n + 0) ((sksC zs 0).flatMap cuC) := by
    rw [Nat.zero_add, List.nil_append] at hown2
    simpa [sksC] using hown2
  have HX2 := Lib.hid hx2
  clear hown2 hgrow2 hx2
  go_loopw [3, 4] (fun v i wr => ∃ k : Nat, k ≤ 12 ∧ i = .int .i64 (k : Nat) ∧ Hid (wr.ownsRow w.heap.size 36 4 v (n + k) ((sksC zs k).flatMap cuC)) ∧ Below w.heap.size w wr) (fun _ i _ => 12 - (intOf i).toNat)
  case atStart => exact ⟨0, by omega, rfl, HX2, hb2⟩
  case round =>
    clear HX2 hb2
    obtain ⟨k, hk, rfl, hx, hb⟩ := hrel
    by_cases hlt : k < 12
    · have hki : (k : Int) < 12 := by omega
      have hk0 : (0 : Int) ≤ (k : Int) := by omega
      have hcv : ((900 + (k : Int)) % 4294967296) = 900 + (k : Int) := by omega
      have HS := Lib.hid (sksC_succ zs k)
      go_wp2_with (at_builtin; refine wpList_append_own _ rfl _ _ 22 rfl w.heap.size 36 i0 (.agg #[.int .u32 0, .int .i64 0, .int .i64 0, .int .i64 0]) 4 32 Tryd.underlying22 hi hz0 hz1 hz2 rfl (by decide) u3 (n + k) _ rfl (hx.out.alloc _) ⟨wr.heap.size, 0, none⟩ 1 1 [.int .u32 (900 + (k : Int)), .int .i64 7, .int .i64 0, .int .i64 0] rfl (by simp) (cells_new _ _ _) (by simp [Value.oneCell']) (by unfold maxLen; omega) (by omega) (by rw [World.size_alloc]; have := hb.size; omega) ?_; intro v4 w4 hown4 hgrow4 _)
      exact ⟨⟨k + 1, by omega, by go_num, Lib.hid (by rw [← HS.out, ← Nat.add_assoc]; exact hown4), (al hb _).grown hgrow4 (by rw [World.size_alloc]; have := hb.size; omega) (fun q e => (hx.out.lt q e).1)⟩, by simp [intOf]; omega⟩
    · obtain rfl : k = 12 := by omega
      obtain ⟨g, c, hv⟩ : ∃ g c, u3 = .slice (some ⟨g, 0, none⟩) (n + 12) c := ownsRow_succ hx.out
      subst hv
      have hxo := hx.out
      have hnc : n + 12 ≤ c := by
        rcases hxo.2 with ⟨h, _⟩ | ⟨g', c', cur, h, _, _, h1, _⟩
        · cases h
        · injection h with _ _ e3; omega
      go_wp2_with fail
      go_ret
      exact ⟨g, c, hnc, rfl, hxo, hb⟩

theorem sksC_lt {zs : List Cu} {k m : Nat} (h : k < zs.length) : (sksC zs m)[k]?.getD cuZ = zs[k]?.getD cuZ := by
  unfold sksC
  rw [List.getElem?_append_left h]
theorem sksC_ge {zs : List Cu} {k m : Nat} (h : zs.length ≤ k) (h2 : k < zs.length + m) : (sksC zs m)[k]?.getD cuZ = skC (k - zs.length) := by
  unfold sksC
  rw [List.getElem?_append_right h, List.getElem?_map, List.getElem?_range (by omega)]
  rfl
/-- the row behind a spare list: what is asked of it -/
def SpareC (w : World) (g n : Nat) (zs : List Cu) : Prop := zs.length = n ∧ ∀ k, k < n + 12 → ∀ j, j < 4 → w.cell? ⟨g, k * 4 + j, none⟩ = (cuC ((sksC zs 12)[k]?.getD cuZ))[j]?
theorem SpareC.of_own {w : World} {base e g n c : Nat} {zs : List Cu} (hl : zs.length = n) (h : w.ownsRow base e 4 (.slice (some ⟨g, 0, none⟩) (n + 12) c) (n + 12) ((sksC zs 12).flatMap cuC)) : SpareC w g n zs :=
  ⟨hl, fun k hk j hj => by rw [h.cellAt (k * 4 + j) (by omega), flat4c_at _ k j (by rw [sksC_len]; omega) hj]⟩
theorem SpareC.below {w w' : World} {g n : Nat} {zs : List Cu} (h : SpareC w g n zs) (hb : Below w.heap.size w w') : SpareC w' g n zs :=
  ⟨h.1, fun k hk j hj => by
    obtain ⟨u, hu⟩ : ∃ u, (cuC ((sksC zs 12)[k]?.getD cuZ))[j]? = some u := ⟨_, List.getElem?_eq_getElem (by simpa [cuC] using hj)⟩
    have := h.2 k hk j hj
    rw [hu] at this ⊢
    exact cellKeep this hb⟩
theorem SpareC.reads {w : World} {g n : Nat} {zs : List Cu} (h : SpareC w g n zs) : ReadsC w (some ⟨g, 0, none⟩) zs := by
  obtain ⟨hl, hc⟩ := h
  refine .inr ⟨g, 0, rfl, fun j hj => ?_⟩
  have key : ∀ i, i < 4 → w.cell? ⟨g, 0 + j * 4 + i, none⟩ = (cuC (zs[j]?.getD cuZ))[i]? := fun i hi => by
    rw [Nat.zero_add, hc j (by omega) i hi, sksC_lt hj]
  exact ⟨key 0 (by omega), key 1 (by omega), key 2 (by omega), key 3 (by omega)⟩

end Go.Proofs.YtfoppbignompkaaDoor

namespace Go.Proofs.YtfoppbignompkaaDoor
open Go.RowKit

set_option maxRecDepth 100000 in
set_option maxHeartbeats 8000000 in
theorem keptC_any (ao : Option Addr) (cap n g c : Nat) (zs : List Cu) (hn : n ≤ 4398046510976) (hc : n + 12 ≤ c) (w : World) (hA : ReadsC w ao zs) (hR : SpareC w g n zs) :
    Calls Tryd.prog 17 #[.slice (some ⟨g, 0, none⟩) n c, .slice ao n cap] w fun r w' => r = .returned (.bool true) ∧ Below w.heap.size w w' := by
  have HL := Lib.hid hR.1
  have HR := Lib.hid hR
  have HA := Lib.hid hA
  have gc := guard_cur
  have hs0 : (0 : Int) ≤ (n : Int) + 12 := by omega
  have hs1 : (n : Int) + 12 ≤ (c : Int) := by omega
  clear hR hA
  go_enter Tryd.func17, Tryd.ntmps17
  go_wp2_with fail
  go_loopw [6] (fun i wr => ∃ k : Nat, k ≤ n + 12 ∧ i = .int .i64 (k : Nat) ∧ Below w.heap.size w wr) (fun i _ => n + 12 - (intOf i).toNat)
  case atStart => exact ⟨0, Nat.zero_le _, rfl, Below.refl _ _⟩
  case round =>
    obtain ⟨k, hk, rfl, hb⟩ := hrel
    by_cases hlt : k < n + 12
    · have hR := (HR.out.below hb).2 k hlt
      have x0 := hR 0 (by omega)
      have x1 := hR 1 (by omega)
      have x2 := hR 2 (by omega)
      have x3 := hR 3 (by omega)
      have hki : (k : Int) < (n : Int) + 12 := by omega
      have hk0 : (0 : Int) ≤ (k : Int) := by omega
      clear hR
      by_cases hkn : k < n
      · have hkz : k < zs.length := by rw [HL.out]; exact hkn
        have hd : decide (k < n) = true := decide_eq_true hkn
        have hd2 : decide (n ≤ k) = false := decide_eq_false (by omega)
        rw [sksC_lt hkz] at x0 x1 x2 x3
        rcases (HA.out.below hb) with h0 | ⟨g', o', rfl, hc'⟩
        · rw [h0] at hkz; simp at hkz
        · obtain ⟨y0, y1, y2, y3⟩ := hc' k hkz
          obtain ⟨c, hcc⟩ : ∃ c, zs[k]?.getD cuZ = c := ⟨_, rfl⟩
          rw [hcc] at x0 x1 x2 x3 y0 y1 y2 y3
          obtain ⟨i, a, d, q⟩ := c
          simp only [cuC] at x0 x1 x2 x3 y0 y1 y2 y3
          replace x0 : wr.cell? ⟨g, k * 4, none⟩ = some (.int .u32 i) := x0
          replace x1 : wr.cell? ⟨g, k * 4 + 1, none⟩ = some (.int .i64 a) := x1
          replace x2 : wr.cell? ⟨g, k * 4 + 2, none⟩ = some (.int .i64 d) := x2
          replace x3 : wr.cell? ⟨g, k * 4 + 3, none⟩ = some (.int .i64 q) := x3
          have hq := fun (w : World) => same_self i a d q w
          clear hc' hcc hkz
          go_wp2_with fail
          have k0 := Later.cell x0
          have k1 := Later.cell x1
          have k2 := Later.cell x2
          have k3 := Later.cell x3
          have k4 := Later.cell y0
          have k5 := Later.cell y1
          have k6 := Later.cell y2
          have k7 := Later.cell y3
          clear x0 x1 x2 x3 y0 y1 y2 y3
          refine wp_region_later (by kernel_rfl) (by kernel_rfl) ?_
          repeat (go_big_quiet_step (fail))
          refine wpQuiet_nil ?_
          intro _ hw'
          obtain ⟨pq, hw''⟩ := hw'
          subst hw''
          go_wp2_with fail
          exact ⟨⟨k + 1, by omega, by go_num, nx hb pq.hb⟩, by simp [intOf]; omega⟩
      · have hd : decide (k < n) = false := decide_eq_false hkn
        have hd2 : decide (n ≤ k) = true := decide_eq_true (by omega)
        rw [sksC_ge (by rw [HL.out]; omega) (by rw [HL.out]; exact hlt), HL.out] at x0 x1 x2 x3
        obtain ⟨V, hV⟩ : ∃ V : Int, ((900 + (k - n) : Nat) : Int) = V := ⟨_, rfl⟩
        replace x0 : wr.cell? ⟨g, k * 4, none⟩ = some (.int .u32 V) := hV ▸ x0
        replace x1 : wr.cell? ⟨g, k * 4 + 1, none⟩ = some (.int .i64 7) := x1
        replace x2 : wr.cell? ⟨g, k * 4 + 2, none⟩ = some (.int .i64 0) := x2
        replace x3 : wr.cell? ⟨g, k * 4 + 3, none⟩ = some (.int .i64 0) := x3
        have hq := fun (w : World) => same_self V 7 0 0 w
        have hcv : (900 + (k : Int) - (n : Int)) % 4294967296 = V := by omega
        clear hV
        go_wp2_with fail
        have k0 := Later.cell x0
        have k1 := Later.cell x1
        have k2 := Later.cell x2
        have k3 := Later.cell x3
        clear x0 x1 x2 x3
        refine wp_region_later (by kernel_rfl) (by kernel_rfl) ?_
        repeat (go_big_quiet_step (fail))
        refine wpQuiet_nil ?_
        intro _ hw'
        obtain ⟨pq, hw''⟩ := hw'
        subst hw''
        go_wp2_with fail
        exact ⟨⟨k + 1, by omega, by go_num, nx hb pq.hb⟩, by simp [intOf]; omega⟩
    · obtain rfl : k = n + 12 := by omega
      go_wp2_with fail
      go_ret
      exact ⟨rfl, hb⟩
end Go.Proofs.YtfoppbignompkaaDoor

namespace Go.Proofs.YtfoppbignompkaaDoor
open Go.RowKit

/-- the mark of a list, and that of what is put behind it -/
def aCu (i : Nat) : Cu := (0, ((1000 + i : Nat) : Int), 0, 0)
def bCu (i : Nat) : Cu := (0, ((2000 + i : Nat) : Int), 0, 0)
def repC (c : Cu) (k : Nat) : List Value := (List.replicate k c).flatMap cuC
theorem repC_len (c : Cu) (k : Nat) : (repC c k).length = k * 4 := by unfold repC; rw [flat4c_len, List.length_replicate]
theorem repC_succ (c : Cu) (k : Nat) : repC c (k + 1) = repC c k ++ cuC c := by
  unfold repC
  rw [List.replicate_succ', List.flatMap_append]
  simp
theorem repC_get (c : Cu) (m k : Nat) (h : k < m) : (repC c m)[k * 4 + 1]? = some (.int .i64 c.2.1) := by
  unfold repC
  rw [flat4c_at _ k 1 (by rw [List.length_replicate]; exact h) (by omega)]
  rw [List.getElem?_replicate, if_pos h]
  rfl
/-- the first k marked -/
def mixK (c : Cu) (k : Nat) (xs : List Value) : List Value := repC c k ++ xs.drop (k * 4)
theorem mixK_zero (c : Cu) (xs : List Value) : mixK c 0 xs = xs := by simp [mixK, repC]
theorem mixK_full (c : Cu) (n : Nat) (xs : List Value) (h : xs.length = n * 4) : mixK c n xs = repC c n := by
  unfold mixK
  rw [List.drop_of_length_le (by omega), List.append_nil]
theorem mixK_set (c : Cu) (k : Nat) (xs : List Value) (h : k * 4 + 4 ≤ xs.length) :
    ((((mixK c k xs).set (k * 4) (.int .u32 c.1)).set (k * 4 + 1) (.int .i64 c.2.1)).set (k * 4 + 2) (.int .i64 c.2.2.1)).set (k * 4 + 3) (.int .i64 c.2.2.2) = mixK c (k + 1) xs := by
  unfold mixK
  have e0 : k * 4 = (repC c k).length + 0 := by rw [repC_len]; omega
  have e1 : k * 4 + 1 = (repC c k).length + 1 := by rw [repC_len]
  have e2 : k * 4 + 2 = (repC c k).length + 2 := by rw [repC_len]
  have e3 : k * 4 + 3 = (repC c k).length + 3 := by rw [repC_len]
  obtain ⟨y0, y1, y2, y3, D, hd, hD⟩ : ∃ y0 y1 y2 y3 D, xs.drop (k * 4) = y0 :: y1 :: y2 :: y3 :: D ∧ D = xs.drop ((k + 1) * 4) := by
    refine ⟨xs[k * 4], xs[k * 4 + 1], xs[k * 4 + 2], xs[k * 4 + 3], _, ?_, rfl⟩
    rw [List.drop_eq_getElem_cons (by omega), List.drop_eq_getElem_cons (by omega), List.drop_eq_getElem_cons (by omega), List.drop_eq_getElem_cons (by omega)]
    rw [show k * 4 + 1 + 1 + 1 + 1 = (k + 1) * 4 by omega]
  rw [hd, ← hD, repC_succ, List.append_assoc, e1, e2, e3]
  obtain ⟨p, hp⟩ : ∃ p, repC c k = p := ⟨_, rfl⟩
  rw [hp] at e0 ⊢
  rw [e0]
  rw [List.set_append_right _ _ (Nat.le_add_right _ _), List.set_append_right _ _ (Nat.le_add_right _ _), List.set_append_right _ _ (Nat.le_add_right _ _), List.set_append_right _ _ (Nat.le_add_right _ _)]
  simp only [Nat.add_sub_cancel_left]
  rfl
/-- a list of n marked ones and q behind them -/
def mkG (i n q : Nat) : List Value := repC (aCu i) n ++ repC (bCu i) q
theorem mkG_zero (i n : Nat) : mkG i n 0 = repC (aCu i) n := by simp [mkG, repC]
theorem mkG_len (i n q : Nat) : (mkG i n q).length = (n + q) * 4 := by unfold mkG; rw [List.length_append, repC_len, repC_len]; omega
theorem mkG_succ (i n q : Nat) : mkG i n (q + 1) = mkG i n q ++ cuC (bCu i) := by unfold mkG; rw [repC_succ, List.append_assoc]
theorem mkG_lt (i n q k : Nat) (h : k < n) : (mkG i n q)[k * 4 + 1]? = some (.int .i64 ((1000 + i : Nat) : Int)) := by
  unfold mkG
  rw [List.getElem?_append_left (by rw [repC_len]; omega), repC_get _ _ _ h]
  rfl
theorem mkG_ge (i n q k : Nat) (h : n ≤ k) (h2 : k < n + q) : (mkG i n q)[k * 4 + 1]? = some (.int .i64 ((2000 + i : Nat) : Int)) := by
  unfold mkG
  rw [List.getElem?_append_right (by rw [repC_len]; omega), repC_len, show k * 4 + 1 - n * 4 = (k - n) * 4 + 1 by omega, repC_get _ _ _ (by omega)]
  rfl
def updC {α : Type} (f : Nat → α) (i : Nat) (x : α) : Nat → α := fun j => if j = i then x else f j
theorem updC_same {α : Type} (f : Nat → α) (i : Nat) (x : α) : updC f i x i = x := if_pos rfl
theorem updC_other {α : Type} (f : Nat → α) (i j : Nat) (x : α) (h : j ≠ i) : updC f i x j = f j := if_neg h
theorem updC_updC {α : Type} (f : Nat → α) (i : Nat) (x y : α) : updC (updC f i x) i y = updC f i y := by
  funext j
  by_cases h : j = i
  · subst h; rw [updC_same, updC_same]
  · rw [updC_other _ _ _ _ h, updC_other _ _ _ _ h, updC_other _ _ _ _ h]
/-- x ahead of i, 0 from there on -/
def uptoF (x : Nat → Nat) (i : Nat) : Nat → Nat := fun j => if j < i then x j else 0
theorem uptoF_start (x : Nat → Nat) (i : Nat) : updC (uptoF x i) i 0 = uptoF x i := by
  funext j
  by_cases h : j = i
  · subst h; rw [updC_same]; simp [uptoF]
  · rw [updC_other _ _ _ _ h]
theorem uptoF_next (x : Nat → Nat) (i : Nat) : updC (uptoF x i) i (x i) = uptoF x (i + 1) := by
  funext j
  by_cases h : j = i
  · subst h; rw [updC_same]; simp [uptoF]
  · rw [updC_other _ _ _ _ h]
    unfold uptoF
    by_cases h2 : j < i
    · rw [if_pos h2, if_pos (by omega)]
    · rw [if_neg h2, if_neg (by omega)]
theorem uptoF_lt (x : Nat → Nat) (i j : Nat) (h : j < i) : uptoF x i j = x j := if_pos h

/-- the lists' blocks lie apart -/
def ApC (M : Nat) (v : Nat → Value) : Prop := ∀ i j g, i ≠ j → i < M → j < M → (v i).ownBlock = some g → (v j).ownBlock ≠ some g

/-- the lists, marked up to m -/
structure MaC (M B L : Nat) (n : Nat → Nat) (v : Nat → Value) (xs : Nat → List Value) (m : Nat → Nat) (W0 W : World) : Prop where
  row : ∀ j, j < M → HRow W B 36 4 (v j) (n j) (mixK (aCu j) (m j) (xs j))
  cel : ∀ j, j < M → W.cell? ⟨L, j, none⟩ = some (v j)
  bel : Below B W0 W
  siz : W0.heap.size ≤ W.heap.size

theorem MaC.below {M B L : Nat} {n : Nat → Nat} {v : Nat → Value} {xs : Nat → List Value} {m : Nat → Nat} {W0 W W' : World} (h : MaC M B L n v xs m W0 W) (hb : Below W.heap.size W W') (hB : B ≤ W.heap.size) : MaC M B L n v xs m W0 W' :=
  ⟨fun j hj => (h.row j hj).below hb (Nat.le_refl _), fun j hj => cellKeep (h.cel j hj) hb, h.bel.trans (hb.mono hB), Nat.le_trans h.siz hb.size⟩

theorem MaC.step {M B L : Nat} {n : Nat → Nat} {v : Nat → Value} {xs : Nat → List Value} {m : Nat → Nat} {W0 W : World} (h : MaC M B L n v xs m W0 W) (hA : ApC M v) (hx : ∀ j, j < M → (xs j).length = n j * 4) (hL : ∀ j, j < M → (v j).ownBlock ≠ some L)
    {i k g c : Nat} (hi : i < M) (hk : k < n i) (hm : m i = k) (hv : v i = .slice (some ⟨g, 0, none⟩) (n i) c) (V : Int) (hV : V = ((1000 + i : Nat) : Int)) :
    MaC M B L n v xs (updC m i (k + 1)) W0 ((((W.setCell ⟨g, k * 4, none⟩ (.int .u32 0)).setCell ⟨g, k * 4 + 1, none⟩ (.int .i64 V)).setCell ⟨g, k * 4 + 2, none⟩ (.int .i64 0)).setCell ⟨g, k * 4 + 3, none⟩ (.int .i64 0)) := by
  subst hV
  have hr := h.row i hi
  rw [hv] at hr
  obtain ⟨hr1, g1⟩ := hr.stored (k * 4) (.int .u32 (aCu i).1)
  obtain ⟨hr2, g2⟩ := hr1.stored (k * 4 + 1) (.int .i64 (aCu i).2.1)
  obtain ⟨hr3, g3⟩ := hr2.stored (k * 4 + 2) (.int .i64 (aCu i).2.2.1)
  obtain ⟨hr4, g4⟩ := hr3.stored (k * 4 + 3) (.int .i64 (aCu i).2.2.2)
  have hgB : B ≤ g := (hr.lt g rfl).1
  refine ⟨fun j hj => ?_, fun j hj => ?_, ?_, Nat.le_trans h.siz (Nat.le_trans g1.size (Nat.le_trans g2.size (Nat.le_trans g3.size g4.size)))⟩
  · by_cases e : j = i
    · subst e
      rw [updC_same, hv, ← mixK_set (aCu j) k (xs j) (by rw [hx j hj]; omega), ← hm]
      rw [hm] at hr4 ⊢
      exact hr4
    · rw [updC_other _ _ _ _ e]
      have hne : (v j).ownBlock = none ∨ (v j).ownBlock ≠ some g := by
        rcases hb : (v j).ownBlock with _ | q
        · exact .inl rfl
        · refine .inr fun e' => ?_
          have := hA i j g (fun e'' => e e''.symm) hi hj (by rw [hv]; rfl)
          rw [hb] at this
          exact this e'
      exact ((((h.row j hj).kept g1 hne).kept g2 hne).kept g3 hne).kept g4 hne
  · have hne : (⟨L, j, none⟩ : Addr).block ≠ g := by
      intro e
      have := hL i hi
      rw [hv] at this
      exact this (congrArg some e.symm)
    have hne' : some (⟨L, j, none⟩ : Addr).block ≠ some g := fun e => hne (Option.some.inj e)
    exact g4.cell (g3.cell (g2.cell (g1.cell (h.cel j hj) hne') hne') hne') hne'
  · exact (((h.bel.setCell (p := ⟨g, k * 4, none⟩) hgB _).setCell (p := ⟨g, k * 4 + 1, none⟩) hgB _).setCell (p := ⟨g, k * 4 + 2, none⟩) hgB _).setCell (p := ⟨g, k * 4 + 3, none⟩) hgB _

/-- the lists p that grow out of v -/
structure FpC (M B L H : Nat) (n : Nat → Nat) (v p : Nat → Value) (q : Nat → Nat) (W0 W : World) : Prop where
  P : ∀ j, j < M → HRow W B 36 4 (p j) (n j + q j) (mkG j (n j) (q j))
  A : ∀ j, j < M → ∀ g, (v j).ownBlock = some g → ∀ k, k < n j → W.cell? ⟨g, k * 4 + 1, none⟩ = some (.int .i64 ((1000 + j : Nat) : Int))
  C : ∀ j, j < M → W.cell? ⟨L, j, none⟩ = some (v j)
  pin : ∀ j, j < M → (p j).ownBlock = (v j).ownBlock ∨ ∀ g, (p j).ownBlock = some g → H ≤ g
  pq : ApC M p
  siz : H ≤ W.heap.size
  bel : Below B W0 W

theorem FpC.below {M B L H : Nat} {n : Nat → Nat} {v p : Nat → Value} {q : Nat → Nat} {W0 W W' : World} (h : FpC M B L H n v p q W0 W) (hb : Below W.heap.size W W') (hB : B ≤ W.heap.size) : FpC M B L H n v p q W0 W' :=
  ⟨fun j hj => (h.P j hj).below hb (Nat.le_refl _), fun j hj g hg k hk => cellKeep (h.A j hj g hg k hk) hb, fun j hj => cellKeep (h.C j hj) hb, h.pin, h.pq, Nat.le_trans h.siz hb.size, h.bel.trans (hb.mono hB)⟩

/-- something else grows, that is none of ours -/
theorem FpC.other {M B L H : Nat} {n : Nat → Nat} {v p : Nat → Value} {q : Nat → Nat} {W0 W W' : World} {row : Option Nat} (h : FpC M B L H n v p q W0 W) (hg : W.grownBy W' row) (hB : B ≤ W.heap.size) (hrow : ∀ g, row = some g → H ≤ g ∧ B ≤ g ∧ ∀ j, j < M → (p j).ownBlock ≠ some g)
    (hvH : ∀ j, j < M → ∀ g, (v j).ownBlock = some g → g < H) (hLH : L < H) : FpC M B L H n v p q W0 W' := by
  refine ⟨fun j hj => (h.P j hj).kept hg ?_, fun j hj g hv k hk => hg.cell (h.A j hj g hv k hk) ?_, fun j hj => hg.cell (h.C j hj) ?_, h.pin, h.pq, Nat.le_trans h.siz hg.size, h.bel.grown hg hB (fun g e => (hrow g e).2.1)⟩
  · rcases hb : (p j).ownBlock with _ | g
    · exact .inl rfl
    · exact .inr fun e => (hrow g e.symm).2.2 j hj hb
  · intro e
    have := (hrow g e.symm).1
    have := hvH j hj g hv
    omega
  · intro e
    have := (hrow L e.symm).1
    omega

theorem FpC.step {M B L H : Nat} {n : Nat → Nat} {v p : Nat → Value} {q : Nat → Nat} {W0 W W2 : World} {p' : Value} {i : Nat} (h : FpC M B L H n v p q W0 W) (hi : i < M) (hB : B ≤ W.heap.size)
    (hA : ApC M v) (hvH : ∀ j, j < M → ∀ g, (v j).ownBlock = some g → g < H) (hLH : L < H) (hL : ∀ j, j < M → (v j).ownBlock ≠ some L)
    (own2 : HRow W2 B 36 4 p' (n i + q i + 1) (mkG i (n i) (q i) ++ cuC (bCu i))) (hg : W.grownBy W2 (p i).ownBlock)
    (hw : p'.ownBlock = (p i).ownBlock ∨ (p'.ownBlock = some W.heap.size ∧ W.grownBy W2 none)) :
    FpC M B L H n v (updC p i p') (updC q i (q i + 1)) W0 W2 := by
  have hsz := h.siz
  have hlt := (h.P i hi).lt
  have hother : ∀ j g, j < M → j ≠ i → (p j).ownBlock = some g → (p i).ownBlock ≠ some g := fun j g hj hne e => h.pq j i g hne hj hi e
  refine ⟨fun j hj => ?_, fun j hj g hv k hk => ?_, fun j hj => ?_, fun j hj => ?_, ?_, Nat.le_trans hsz hg.size, h.bel.grown hg hB (fun g e => (hlt g e).1)⟩
  · by_cases e : j = i
    · subst e
      rw [updC_same, updC_same, ← Nat.add_assoc, mkG_succ]
      exact own2
    · rw [updC_other _ _ _ _ e, updC_other _ _ _ _ e]
      refine (h.P j hj).kept hg ?_
      rcases hb : (p j).ownBlock with _ | g
      · exact .inl rfl
      · exact .inr fun e' => hother j g hj e hb e'.symm
  · by_cases hp : (p i).ownBlock = some g
    · have hji : j = i := by
        rcases h.pin i hi with hs | hs
        · by_cases e : j = i
          · exact e
          · exact absurd (hs ▸ hp) (hA j i g e hj hi hv)
        · have := hs g hp
          have := hvH j hj g hv
          omega
      subst hji
      rcases hw with hs | ⟨_, hg0⟩
      · have hp' : p'.ownBlock = some g := hs.trans hp
        obtain ⟨g2, c2, e2, _, _⟩ := own2.form1 (by omega)
        subst e2
        obtain rfl : g2 = g := by simpa [Value.ownBlock] using hp'
        rw [own2.cellAt (k * 4 + 1) (by omega), List.getElem?_append_left (by rw [mkG_len]; omega), mkG_lt _ _ _ _ hk]
      · exact hg0.cell (h.A j hj g hv k hk) (by simp)
    · exact hg.cell (h.A j hj g hv k hk) (fun e => hp e.symm)
  · refine hg.cell (h.C j hj) ?_
    intro e
    rcases h.pin i hi with hs | hs
    · exact hL i hi (hs ▸ e.symm)
    · have := hs L e.symm
      omega
  · by_cases e : j = i
    · subst e
      rw [updC_same]
      rcases hw with hs | ⟨hs, _⟩
      · rw [hs]; exact h.pin j hj
      · exact .inr fun g e => by rw [hs] at e; have := Option.some.inj e; omega
    · rw [updC_other _ _ _ _ e]; exact h.pin j hj
  · intro a b g hab ha hb hpa
    by_cases e1 : a = i
    · subst e1
      rw [updC_same] at hpa
      rw [updC_other _ _ _ _ (fun e => hab e.symm)]
      rcases hw with hs | ⟨hs, _⟩
      · rw [hs] at hpa
        exact h.pq a b g hab ha hb hpa
      · intro hq
        have := ((h.P b hb).lt g hq).2
        rw [hs] at hpa
        have := Option.some.inj hpa
        omega
    · rw [updC_other _ _ _ _ e1] at hpa
      by_cases e2 : b = i
      · subst e2
        rw [updC_same]
        rcases hw with hs | ⟨hs, _⟩
        · rw [hs]
          exact h.pq a b g hab ha hb hpa
        · intro hq
          have := ((h.P a ha).lt g hpa).2
          rw [hs] at hq
          have := Option.some.inj hq
          omega
      · rw [updC_other _ _ _ _ e2]
        exact h.pq a b g hab ha hb hpa
theorem setC_other {W : World} {g k L i : Nat} {x y : Value} (hne : g ≠ L) (h : W.cell? ⟨L, i, none⟩ = some y) : (W.setCell ⟨g, k, none⟩ x).cell? ⟨L, i, none⟩ = some y :=
  (grownBy_set W g k x).cell h (fun e => hne (by cases e; rfl))
theorem noneC_or {x y : Option Nat} (h : ∀ g, x = some g → y ≠ some g) : x = none ∨ x ≠ y := by
  rcases hx : x with _ | g
  · exact .inl rfl
  · exact .inr fun e => h g hx e.symm
theorem info_lists : (Tryd.prog.info? 22).map (fun i => (i.zero, i.size, i.bytes)) = some (some (.slice none 0 0), 1, 24) := by kernel_rfl
end Go.Proofs.YtfoppbignompkaaDoor

namespace Go.Proofs.YtfoppbignompkaaDoor
open Go.RowKit

theorem bCu_cells (i : Nat) : cuC (bCu i) = [.int .u32 0, .int .i64 (2000 + (i : Int)), .int .i64 0, .int .i64 0] := by
  show [Value.int .u32 0, .int .i64 ((2000 + i : Nat) : Int), .int .i64 0, .int .i64 0] = _
  rw [Int.natCast_add]
  rfl
set_option maxRecDepth 100000 in
set_option maxHeartbeats 8000000 in
theorem apartC_any (M : Nat) (hM : M ≤ 4) (n : Nat → Nat) (hn : ∀ j, j < M → n j ≤ 1048576) (v : Nat → Value) (xs : Nat → List Value) (L B : Nat) (w : World) (hB : B ≤ w.heap.size) (hLs : L < w.heap.size)
    (hrow : ∀ j, j < M → HRow w B 36 4 (v j) (n j) (xs j)) (hcel : ∀ j, j < M → w.cell? ⟨L, j, none⟩ = some (v j)) (hA : ApC M v) (hL : ∀ j, j < M → (v j).ownBlock ≠ some L) :
    Calls Tryd.prog 18 #[.slice (some ⟨L, 0, none⟩) M M] w fun e w' => e = .returned (.bool true) ∧ Below B w w' := by
  obtain ⟨i0, hi, hz0, hz1, hz2⟩ := info_parts info_cur
  obtain ⟨i1, hj, hw0, hw1, hw2⟩ := info_parts info_lists
  have HNB := Lib.hid hn
  have HX : Hid (∀ j, j < M → (xs j).length = n j * 4) := Lib.hid fun j hj => (hrow j hj).1
  have M0 : Hid (MaC M B L n v xs (fun _ => 0) w w) := Lib.hid ⟨fun j hj => by rw [mixK_zero]; exact hrow j hj, hcel, Below.refl _ _, Nat.le_refl _⟩
  have HVF : Hid (∀ j, j < M → ∃ ao c, v j = .slice ao (n j) c) := Lib.hid fun j hj => (hrow j hj).form
  have HVG : Hid (∀ j, j < M → 0 < n j → ∃ g c, v j = .slice (some ⟨g, 0, none⟩) (n j) c) := Lib.hid fun j hj hn => by obtain ⟨g, c, e, _⟩ := (hrow j hj).form1 hn; exact ⟨g, c, e⟩
  have HA := Lib.hid hA
  have HL := Lib.hid hL
  have HB := Lib.hid hB
  have HLs := Lib.hid hLs
  clear hrow hcel hA hL hLs hB hn
  go_enter Tryd.func18, Tryd.ntmps18
  go_wp2_with fail
  go_loopw [4] (fun i wr => ∃ i' : Nat, i = .int .i64 (i' : Nat) ∧ i' ≤ M ∧ Hid (MaC M B L n v xs (uptoF n i') w wr)) (fun i _ => M - (intOf i).toNat)
  case atStart => exact ⟨0, rfl, by omega, Lib.hid (by rw [show uptoF n 0 = fun _ => 0 from rfl]; exact M0.out)⟩
  case round =>
    obtain ⟨i, rfl, hi2, hM⟩ := hrel
    by_cases h2 : i < M
    · have h2i : (i : Int) < (M : Int) := by omega
      have h2z : (0 : Int) ≤ (i : Int) := by omega
      have hi4 : i < 4 := by omega
      have hMo := hM.out
      rw [← uptoF_start] at hMo
      have hM := Lib.hid hMo
      have hnb := HNB.out i h2
      obtain ⟨N, hN⟩ : ∃ N, n i = N := ⟨_, rfl⟩
      have HN := Lib.hid hN
      rw [hN] at hnb
      clear hMo hN
      obtain ⟨wo, rfl⟩ : ∃ wo : World, wo = wr := ⟨_, rfl⟩
      go_wp2_with fail
      go_loopw [5] (fun k wr => ∃ k' : Nat, k = .int .i64 (k' : Nat) ∧ k' ≤ N ∧ Hid (MaC M B L n v xs (updC (uptoF n i) i k') w wr)) (fun k _ => N - (intOf k).toNat)
      case atStart => exact ⟨0, rfl, Nat.zero_le _, hM⟩
      case round =>
        clear hM
        obtain ⟨k, rfl, hk, hM⟩ := hrel
        have d0 := hM.out.cel i h2
        obtain ⟨ao, c, hv⟩ := (hM.out.row i h2).form
        rw [hv, HN.out] at d0
        by_cases hkn : k < N
        · have hki : (k : Int) < (N : Int) := by omega
          have hkz : (0 : Int) ≤ (k : Int) := by omega
          obtain ⟨g, c', hv', hBg, hgW⟩ := (hM.out.row i h2).form1 (by rw [HN.out]; omega)
          obtain ⟨rfl, rfl⟩ : ao = some ⟨g, 0, none⟩ ∧ c = c' := by rw [hv] at hv'; injection hv' with e1 e2 e3; exact ⟨e1, e3⟩
          have hr := hM.out.row i h2
          rw [hv] at hr
          have f0 := hr.frozenAt (k * 4)
          have f1 := hr.frozenAt (k * 4 + 1)
          have f2 := hr.frozenAt (k * 4 + 2)
          have f3 := hr.frozenAt (k * 4 + 3)
          have hex : ∀ j, j < 4 → ∃ u, wr.cell? ⟨g, k * 4 + j, none⟩ = some u := fun j hj => ⟨_, (hr.cellAt (k * 4 + j) (by rw [HN.out]; omega)).trans (List.getElem?_eq_getElem (by have := hr.1; rw [HN.out] at this; omega))⟩
          obtain ⟨u0, e0⟩ := hex 0 (by omega)
          obtain ⟨u1, e1⟩ := hex 1 (by omega)
          obtain ⟨u2, e2⟩ := hex 2 (by omega)
          obtain ⟨u3, e3⟩ := hex 3 (by omega)
          rw [Nat.add_zero] at e0
          have HV := Lib.hid hv
          clear hv hv' hr hex
          go_wp2_with fail
          refine ⟨⟨k + 1, by go_num, by omega, Lib.hid ?_⟩, by simp [intOf]; omega⟩
          have := hM.out.step HA.out HX.out HL.out h2 (show k < n i by rw [HN.out]; exact hkn) (updC_same _ _ _) HV.out (1000 + (i : Int)) (by omega)
          rw [updC_updC] at this
          exact this
        · obtain rfl : k = N := by omega
          have hkd : decide (k < k) = false := decide_eq_false (by omega)
          have hMo := hM.out
          rw [← HN.out, uptoF_next] at hMo
          have hM := Lib.hid hMo
          clear hMo
          go_wp2_with fail
          exact ⟨⟨i + 1, by go_num, by omega, hM⟩, by simp [intOf]; omega⟩
    · obtain rfl : i = M := by omega
      have hsz := hM.out.siz
      have hLH : L < wr.heap.size := Nat.lt_of_lt_of_le HLs.out hsz
      have hBH : B ≤ wr.heap.size := Nat.le_trans HB.out hsz
      have hvH : Hid (∀ j, j < i → ∀ g, (v j).ownBlock = some g → g < wr.heap.size) := Lib.hid fun j hj g hg => ((hM.out.row j hj).lt g hg).2
      have F0 : Hid (FpC i B L wr.heap.size n v v (uptoF (fun _ => 30) 0) w wr) := by
        have hr : ∀ j, j < i → HRow wr B 36 4 (v j) (n j) (repC (aCu j) (n j)) := fun j hj => by
          have := hM.out.row j hj
          rw [uptoF_lt _ _ _ hj, mixK_full _ _ _ (HX.out j hj)] at this
          exact this
        refine Lib.hid ⟨fun j hj => ?_, fun j hj g hg k hk => ?_, hM.out.cel, fun j hj => .inl rfl, HA.out, Nat.le_refl _, hM.out.bel⟩
        · rw [show uptoF (fun _ => 30) 0 j = 0 from if_neg (Nat.not_lt_zero _), mkG_zero]
          exact hr j hj
        · obtain ⟨g', c', e', _, _⟩ := (hr j hj).form1 (by omega)
          have h := hr j hj
          rw [e'] at h hg
          obtain rfl : g' = g := by simpa [Value.ownBlock] using hg
          rw [h.cellAt (k * 4 + 1) (by omega), repC_get _ _ _ hk]
          rfl
      obtain ⟨H, hH⟩ : ∃ H, wr.heap.size = H := ⟨_, rfl⟩
      rw [hH] at hLH hBH hvH F0
      have HLH := Lib.hid hLH
      have HBH := Lib.hid hBH
      obtain ⟨M, rfl⟩ : ∃ M, M = i := ⟨_, rfl⟩
      have hkd : decide (M < M) = false := decide_eq_false (by omega)
      clear M0 hM hH hsz hLH hBH hi2
      go_wp2_with fail
      go_loopw [3, 6] (fun gr i W => ∃ (i' : Nat) (p : Nat → Value), i = .int .i64 (i' : Nat) ∧ i' ≤ M ∧ Hid (FpC M B L H n v p (uptoF (fun _ => 30) i') w W) ∧ Hid (∀ j, i' ≤ j → p j = v j) ∧ Hid (W.ownsRow H 22 1 gr i' ((List.range i').map p))) (fun _ i _ => M - (intOf i).toNat)
      case atStart => exact ⟨0, v, rfl, by omega, F0, Lib.hid fun _ _ => rfl, Lib.hid (World.ownsRow_nil _ _ _ _)⟩
      case round =>
        clear F0 hkd
        obtain ⟨i, p0, rfl, hi2, hF, hpv, hG⟩ := hrel
        by_cases h2 : i < M
        · have h2i : (i : Int) < (M : Int) := by omega
          have h2z : (0 : Int) ≤ (i : Int) := by omega
          have hi4 : i < 4 := by omega
          have d0 := hF.out.C i h2
          have hP := hF.out.P i h2
          rw [hpv.out i (Nat.le_refl _), show uptoF (fun _ => 30) i i = 0 from if_neg (Nat.lt_irrefl _), Nat.add_zero] at hP
          obtain ⟨ao, c, hv⟩ := hP.form
          rw [hv] at d0
          have HV := Lib.hid (hv.symm.trans (hpv.out i (Nat.le_refl _)).symm)
          have hFo := hF.out
          rw [← uptoF_start] at hFo
          have hF := Lib.hid hFo
          have hnb := HNB.out i h2
          clear hFo hP hv
          obtain ⟨wo, rfl⟩ : ∃ wo : World, wo = wr := ⟨_, rfl⟩
          go_wp2_with fail
          go_loopw [7, 8] (fun g k W => ∃ (k' : Nat) (p : Nat → Value), k = .int .i64 (k' : Nat) ∧ k' ≤ 30 ∧ Hid (g = p i) ∧ Hid (FpC M B L H n v p (updC (uptoF (fun _ => 30) i) i k') w W) ∧ Hid (∀ j, j ≠ i → p j = p0 j) ∧ Hid (W.ownsRow H 22 1 u3 i ((List.range i).map p0))) (fun _ k _ => 30 - (intOf k).toNat)
          case atStart => exact ⟨0, p0, rfl, by omega, HV, hF, Lib.hid fun _ _ => rfl, hG⟩
          case round =>
            clear hF hG HV d0
            obtain ⟨k, p, rfl, hk, hgp, hF, hpp, hG⟩ := hrel
            have hP := hF.out.P i h2
            rw [← hgp.out, updC_same] at hP
            obtain ⟨a7, c7, rfl⟩ := hP.form
            have hHs := hF.out.siz
            have hBs : B ≤ wr.heap.size := Nat.le_trans HBH.out hHs
            by_cases hk7 : k < 30
            · have hki : (k : Int) < 30 := by omega
              have hrowb := Lib.hid (hP.below ((Below.refl _ _).alloc (Nat.le_refl _) (.cells #[.int .u32 0, .int .i64 (2000 + (i : Int)), .int .i64 0, .int .i64 0] 36)) (Nat.le_refl _))
              clear hP
              go_wp2_with (at_builtin; refine wpList_append_held rfl _ _ 22 rfl B 36 i0 (.agg #[.int .u32 0, .int .i64 0, .int .i64 0, .int .i64 0]) 4 32 Tryd.underlying22 hi hz0 hz1 hz2 rfl _ _ _ rfl hrowb.out ⟨wr.heap.size, 0, none⟩ 1 1 [.int .u32 0, .int .i64 (2000 + (i : Int)), .int .i64 0, .int .i64 0] rfl (by simp) (cells_new _ _ _) (by simp [Value.oneCell']) (by unfold maxLen; omega) (by omega) (by rw [World.size_alloc]; omega) (by omega) ?_; intro v4 w4 hown4 hgrow4 hwh4)
              refine ⟨⟨k + 1, updC p i v4, by go_num, by omega, Lib.hid (updC_same _ _ _).symm, Lib.hid ?_, Lib.hid fun j hj => by rw [updC_other _ _ _ _ hj]; exact hpp.out j hj, Lib.hid ?_⟩, by simp [intOf]; omega⟩
              · have hFb := hF.out.below ((Below.refl _ _).alloc (Nat.le_refl _) (.cells #[.int .u32 0, .int .i64 (2000 + (i : Int)), .int .i64 0, .int .i64 0] 36)) hBs
                have hq : updC (uptoF (fun _ => 30) i) i k i = k := updC_same _ _ _
                have := hFb.step h2 (by rw [World.size_alloc]; omega) HA.out hvH.out HLH.out HL.out (p' := v4) (by rw [hq, bCu_cells]; exact hown4) (by rw [← hgp.out]; exact hgrow4) (by rw [← hgp.out]; exact hwh4)
                rw [updC_updC, hq] at this
                exact this
              · have hGb := hG.out.alloc (.cells #[.int .u32 0, .int .i64 (2000 + (i : Int)), .int .i64 0, .int .i64 0] 36)
                exact hGb.kept hgrow4 (noneC_or ((HRow.of_own hGb).apart hrowb.out (by decide)))
            · obtain rfl : k = 30 := by omega
              have hFo := hF.out
              rw [show updC (uptoF (fun _ => 30) i) i 30 = uptoF (fun _ => 30) (i + 1) from uptoF_next (fun _ => 30) i] at hFo
              have hF := Lib.hid hFo
              have hPH := Lib.hid hP
              clear hFo hP
              go_wp2_with (at_builtin; refine wpList_append_own _ rfl _ _ 31 rfl H 22 i1 (.slice none 0 0) 1 24 Tryd.underlying31 hj hw0 hw1 hw2 rfl (by decide) u3 i _ rfl (hG.out.alloc _) ⟨wr.heap.size, 0, none⟩ 1 1 [.slice a7 (n i + 30) c7] rfl (by simp) (cells_new _ _ _) (by simp [Value.oneCell']) (by unfold maxLen; omega) (by omega) (by rw [World.size_alloc]; omega) ?_; intro v4 w4 hown4 hgrow4 _)
              refine ⟨⟨i + 1, p, by go_num, by omega, Lib.hid ?_, Lib.hid fun j hj => (hpp.out j (by omega)).trans (hpv.out j (by omega)), Lib.hid ?_⟩, by simp [intOf]; omega⟩
              · refine (hF.out.below ((Below.refl _ _).alloc (Nat.le_refl _) (.cells #[.slice a7 (n i + 30) c7] 22)) hBs).other hgrow4 (by rw [World.size_alloc]; omega) (fun g e => ⟨(hG.out.lt g e).1, Nat.le_trans HBH.out (hG.out.lt g e).1, fun j hj => ?_⟩) hvH.out HLH.out
                exact (HRow.of_own hG.out).apart (hF.out.P j hj) (by decide) g e
              · rw [List.range_succ, List.map_append, List.map_singleton, ← hgp.out]
                rw [show List.map p (List.range i) = List.map p0 (List.range i) from List.map_congr_left fun j hj => hpp.out j (by have := List.mem_range.1 hj; omega)]
                exact hown4
        · obtain rfl : i = M := by omega
          have HGC : Hid (∀ j, j < i → ∃ gp cp, wr.cell? ⟨(u3.ownBlock).getD 0, j, none⟩ = some (.slice (some ⟨gp, 0, none⟩) (n j + 30) cp) ∧ (∀ k, k < n j → wr.cell? ⟨gp, k * 4 + 1, none⟩ = some (.int .i64 ((1000 + j : Nat) : Int))) ∧ ∀ k, n j ≤ k → k < n j + 30 → wr.cell? ⟨gp, k * 4 + 1, none⟩ = some (.int .i64 ((2000 + j : Nat) : Int))) := Lib.hid fun j hj => by
            obtain ⟨i', rfl⟩ : ∃ i', i = i' + 1 := ⟨i - 1, by omega⟩
            obtain ⟨gG, cG, e5⟩ := ownsRow_succ hG.out
            have hc := hG.out
            rw [e5] at hc
            have h1 := hc.cellAt j (by omega)
            rw [List.getElem?_map, List.getElem?_range hj] at h1
            have hp := hF.out.P j hj
            rw [uptoF_lt _ _ _ hj] at hp
            obtain ⟨gp, cp, ep, _, _⟩ := hp.form1 (by omega)
            rw [e5]
            rw [ep] at hp
            refine ⟨gp, cp, h1.trans (by rw [← ep]; rfl), fun k hk => ?_, fun k hk hk2 => ?_⟩
            · rw [hp.cellAt (k * 4 + 1) (by omega), mkG_lt _ _ _ _ hk]
            · rw [hp.cellAt (k * 4 + 1) (by omega), mkG_ge _ _ _ _ hk hk2]
          obtain ⟨aG, cG, e5⟩ : ∃ a cap, u3 = .slice a i cap := (HRow.of_own hG.out).form
          have HG5 : Hid (0 < i → aG = some ⟨(u3.ownBlock).getD 0, 0, none⟩) := Lib.hid fun h0 => by
            obtain ⟨g5, c5, e6, _, _⟩ := (HRow.of_own hG.out).form1 h0
            rw [e5] at e6
            injection e6 with e7
            rw [e5, e7]
            rfl
          obtain ⟨gG, hgG⟩ : ∃ gG, (u3.ownBlock).getD 0 = gG := ⟨_, rfl⟩
          rw [hgG] at HGC HG5
          clear hgG
          subst e5
          have hBs : B ≤ wr.heap.size := Nat.le_trans HBH.out hF.out.siz
          clear hG h2
          obtain ⟨W9, hW9⟩ : ∃ W9, wr = W9 := ⟨_, rfl⟩
          rw [hW9] at hF HGC hBs ⊢
          clear hW9
          obtain ⟨M, rfl⟩ : ∃ M, M = i := ⟨_, rfl⟩
          have hkd : decide (M < M) = false := decide_eq_false (by omega)
          clear hi2
          go_wp2_with fail
          clear hkd
          go_loopw [9] (fun i W => ∃ (i' : Nat), i = .int .i64 (i' : Nat) ∧ i' ≤ M ∧ Below W9.heap.size W9 W) (fun i _ => M - (intOf i).toNat)
          case atStart => exact ⟨0, rfl, by omega, Below.refl _ _⟩
          case round =>
            obtain ⟨i, rfl, hi2, hb⟩ := hrel
            by_cases h2 : i < M
            · have h2i : (i : Int) < (M : Int) := by omega
              have h2z : (0 : Int) ≤ (i : Int) := by omega
              have hi4 : i < 4 := by omega
              obtain rfl := HG5.out (by omega)
              obtain ⟨gp, cp, hc, hcs, hct⟩ := HGC.out i h2
              have HCS := Lib.hid hcs
              have HCT := Lib.hid hct
              have hl := hF.out.C i h2
              obtain ⟨ao, c, hv⟩ := HVF.out i h2
              rw [hv] at hl
              have HVI := Lib.hid (HVG.out i h2)
              have HV := Lib.hid hv
              have HA0 := Lib.hid (hF.out.A i h2)
              have hnb := HNB.out i h2
              obtain ⟨N, hN⟩ : ∃ N, n i = N := ⟨_, rfl⟩
              rw [hN] at hc HCS HCT hl HVI HV HA0 hnb
              clear hcs hct hv hN
              obtain ⟨N3, hN3⟩ : ∃ N3, N + 30 = N3 := ⟨_, rfl⟩
              rw [hN3] at hc HCT
              have hN3b : N3 ≤ 1048606 := by omega
              have HN3 := Lib.hid hN3
              have d0 := cellKeep hc hb
              clear hN3
              obtain ⟨wo, rfl⟩ : ∃ wo : World, wo = wr := ⟨_, rfl⟩
              go_wp2_with fail
              go_loopw [10] (fun k W => ∃ (k' : Nat), k = .int .i64 (k' : Nat) ∧ k' ≤ N3 ∧ Below W9.heap.size W9 W) (fun k _ => N3 - (intOf k).toNat)
              case atStart => exact ⟨0, rfl, Nat.zero_le _, hb⟩
              case round =>
                clear d0 hb
                obtain ⟨k, rfl, hk, hb⟩ := hrel
                have d0 := cellKeep hc hb
                by_cases hkN : k < N3
                · have hki : (k : Int) < (N3 : Int) := by omega
                  have hkz : (0 : Int) ≤ (k : Int) := by omega
                  have d2 := cellKeep hl hb
                  by_cases hkn : k < N
                  · have hkj : (k : Int) < (N : Int) := by omega
                    have hkd : decide (N ≤ k) = false := decide_eq_false (by omega)
                    have d1 := cellKeep (HCS.out k hkn) hb
                    obtain ⟨g, hg⟩ : ∃ g, ao = some ⟨g, 0, none⟩ := by
                      obtain ⟨g, c', e⟩ := HVI.out (by omega)
                      rw [HV.out] at e
                      injection e with e1
                      exact ⟨g, e1⟩
                    subst hg
                    have d3 := cellKeep (HA0.out g (by rw [HV.out]; rfl) k hkn) hb
                    rw [Int.natCast_add, show ((1000 : Nat) : Int) = 1000 from rfl] at d1 d3
                    go_wp2_with fail
                    exact ⟨⟨k + 1, by go_num, by omega, hb⟩, by simp [intOf]; omega⟩
                  · have hkd : decide (k < N) = false := decide_eq_false hkn
                    have hkd2 : decide ((k : Int) < (N : Int)) = false := decide_eq_false (by omega)
                    have hkd3 : (N : Int) ≤ (k : Int) := by omega
                    have d1 := cellKeep (HCT.out k (by omega) hkN) hb
                    rw [Int.natCast_add, show ((2000 : Nat) : Int) = 2000 from rfl] at d1
                    go_wp2_with fail
                    exact ⟨⟨k + 1, by go_num, by omega, hb⟩, by simp [intOf]; omega⟩
                · obtain rfl : k = N3 := by omega
                  have hkd : decide (k < k) = false := decide_eq_false (by omega)
                  go_wp2_with fail
                  exact ⟨⟨i + 1, by go_num, by omega, hb⟩, by simp [intOf]; omega⟩
            · obtain rfl : i = M := by omega
              have hkd : decide (i < i) = false := decide_eq_false (by omega)
              go_wp2_with fail
              go_ret
              exact ⟨rfl, hF.out.bel.trans (hb.mono hBs)⟩
end Go.Proofs.YtfoppbignompkaaDoor

namespace Go.Proofs.YtfoppbignompkaaDoor
open Go.RowKit

theorem refgoes_any (p A O I : Int) (hp : 0 ≤ p) (hp2 : p ≤ 9223372036854775807) (hA : 0 ≤ A) (hO : 0 ≤ O) (hI : 0 ≤ I) (hAO : A + O ≤ 9223372036854775807) (hAI : A + I ≤ 9223372036854775807) (w : World) :
    Calls Tryd.prog 44 #[.int .i64 p, .agg #[.int .i64 A, .int .i64 O, .int .i64 I]] w fun e w' => e = .returned (.tuple #[.int .i64 (goesV p A O I).1, .bool (goesV p A O I).2]) ∧ Below w.heap.size w w' := by
  obtain ⟨d0, d1, d2⟩ := box3 w 24 (.int .i64 A) (.int .i64 O) (.int .i64 I)
  by_cases h1 : p < A
  · rw [goesV_1 h1]
    go_enter Tryd.func44, Tryd.ntmps44
    go_wp2_with fail
    go_ret2
    exact ⟨rfl, al (Below.refl _ _) _⟩
  · have h1d : decide (p < A) = false := decide_eq_false h1
    by_cases h2 : A + O < p
    · rw [goesV_2 h1 h2]
      have h2d : decide (A + O < p) = true := decide_eq_true h2
      have hw1 : IntKind.i64.wrap (9223372036854775807 - I) = 9223372036854775807 - I := IntWalk.i64_in _ (by omega)
      have hb0 : Below w.heap.size w (w.alloc (.cells #[.int .i64 A, .int .i64 O, .int .i64 I] 24)) := al (Below.refl _ _) _
      go_enter Tryd.func44, Tryd.ntmps44
      go_wp2_with fail
      go_quiet (fail)
      go_wp2_with fail
      go_ret2
      exact ⟨rfl, below_drewN' hb0 _⟩
    · rw [goesV_3 h1 h2]
      have h2d : decide (A + O < p) = false := decide_eq_false h2
      go_enter Tryd.func44, Tryd.ntmps44
      go_wp2_with fail
      go_ret2
      exact ⟨rfl, al (Below.refl _ _) _⟩
set_option maxRecDepth 100000 in
set_option maxHeartbeats 8000000 in
theorem refwrong_any (ao : Option Addr) (cap : Nat) (zs : List Cu) (n : Nat) (hl : zs.length = n) (hn : n ≤ 140737488351232) (w : World) (hR : ReadsC w ao zs) :
    Calls Tryd.prog 43 #[.slice ao n cap] w fun e w' => e = .returned (.int .i64 (wrongN zs)) ∧ Below w.heap.size w w' := by
  have HR := Lib.hid hR
  have HL := Lib.hid hl
  clear hR hl
  by_cases h8 : 8 < n
  · rw [wrongN_long (by rw [HL.out]; exact h8)]
    have h8i : (8 : Int) < (n : Int) := by omega
    go_enter Tryd.func43, Tryd.ntmps43
    go_wp2_with fail
    go_ret
    exact ⟨rfl, Below.refl _ _⟩
  · have h8i : decide (8 < (n : Int)) = false := decide_eq_false (by omega)
    have h8n : decide (8 < n) = false := decide_eq_false (by omega)
    have hn8 : n ≤ 8 := by omega
    clear h8 hn
    go_enter Tryd.func43, Tryd.ntmps43
    go_wp2_with fail
    go_loopw [3] (fun i wr => ∃ k : Nat, i = .int .i64 (k : Nat) ∧ k ≤ n ∧ Hid (∀ j, j < k → badC zs j = false) ∧ Below w.heap.size w wr) (fun i _ => n - (intOf i).toNat)
    case atStart => exact ⟨0, rfl, Nat.zero_le _, Lib.hid (fun j hj => by omega), Below.refl _ _⟩
    case round =>
      obtain ⟨k, rfl, hk, hok, hb⟩ := hrel
      by_cases hlt : k < n
      · have hki : (k : Int) < (n : Int) := by omega
        have hk0 : (0 : Int) ≤ (k : Int) := by omega
        have hkz : k < zs.length := by rw [HL.out]; exact hlt
        rcases HR.out with h0 | ⟨b, off, rfl, hcs⟩
        · rw [h0] at hkz; simp at hkz
        have HCS := Lib.hid hcs
        obtain ⟨x0, x1, x2, x3⟩ := hcs k hkz
        have x0 := cellKeep x0 hb
        have x1 := cellKeep x1 hb
        have x2 := cellKeep x2 hb
        have x3 := cellKeep x3 hb
        have hbad : badC zs k = (lowC (zs[k]?.getD cuZ) || (decide (0 < k) && decide ((zs[k]?.getD cuZ).1 ≤ (zs[k - 1]?.getD cuZ).1))) := rfl
        obtain ⟨c, hc⟩ : ∃ c, zs[k]?.getD cuZ = c := ⟨_, rfl⟩
        rw [hc] at x0 x1 x2 x3 hbad
        obtain ⟨i, a, d, g⟩ := c
        simp only at x0 x1 x2 x3 hbad
        have k0 := Later.cell x0
        have k1 := Later.cell x1
        have k2 := Later.cell x2
        have k3 := Later.cell x3
        clear hcs x0 x1 x2 x3 hc
        by_cases ha : a < 0
        · have HW := Lib.hid (wrongN_bad (zs := zs) (by rw [HL.out]; exact hn8) hkz (by rw [hbad, show lowC (i, a, d, g) = true from decide_eq_true (.inl ha)]; rfl))
          have had : decide (a < 0) = true := decide_eq_true ha
          clear hbad hkz HCS
          go_wp2_with fail
          refine wp_region_later (by kernel_rfl) (by kernel_rfl) ?_
          repeat (go_big_quiet_step (fail))
          refine wpQuiet_nil ?_
          intro _ hw'
          obtain ⟨pq, hw''⟩ := hw'
          subst hw''
          go_wp2_with fail
          go_ret
          exact ⟨by rw [HW.out]; rfl, nx hb pq.hb⟩
        · have had : decide (a < 0) = false := decide_eq_false ha
          by_cases hd : d < 0
          · have HW := Lib.hid (wrongN_bad (zs := zs) (by rw [HL.out]; exact hn8) hkz (by rw [hbad, show lowC (i, a, d, g) = true from decide_eq_true (.inr (.inl hd))]; rfl))
            have hdd : decide (d < 0) = true := decide_eq_true hd
            clear hbad hkz HCS
            go_wp2_with fail
            refine wp_region_later (by kernel_rfl) (by kernel_rfl) ?_
            repeat (go_big_quiet_step (fail))
            refine wpQuiet_nil ?_
            intro _ hw'
            obtain ⟨pq, hw''⟩ := hw'
            subst hw''
            go_wp2_with fail
            go_ret
            exact ⟨by rw [HW.out]; rfl, nx hb pq.hb⟩
          · have hdd : decide (d < 0) = false := decide_eq_false hd
            by_cases hg : g < 0
            · have HW := Lib.hid (wrongN_bad (zs := zs) (by rw [HL.out]; exact hn8) hkz (by rw [hbad, show lowC (i, a, d, g) = true from decide_eq_true (.inr (.inr hg))]; rfl))
              have hgd : decide (g < 0) = true := decide_eq_true hg
              clear hbad hkz HCS
              go_wp2_with fail
              refine wp_region_later (by kernel_rfl) (by kernel_rfl) ?_
              repeat (go_big_quiet_step (fail))
              refine wpQuiet_nil ?_
              intro _ hw'
              obtain ⟨pq, hw''⟩ := hw'
              subst hw''
              go_wp2_with fail
              go_ret
              exact ⟨by rw [HW.out]; rfl, nx hb pq.hb⟩
            · have hgd : decide (g < 0) = false := decide_eq_false hg
              rw [show lowC (i, a, d, g) = false from decide_eq_false (show ¬ (a < 0 ∨ d < 0 ∨ g < 0) by omega), Bool.false_or] at hbad
              by_cases hk1 : 0 < k
              · obtain ⟨j, hj⟩ : ∃ j : Nat, j = k - 1 := ⟨_, rfl⟩
                have hj1 : (k : Int) - 1 = (j : Int) := by omega
                have hwj : IntKind.i64.wrap (j : Int) = (j : Int) := IntWalk.i64_in _ (by omega)
                have hj0 : (0 : Int) ≤ (j : Int) := by omega
                have hjn : (j : Int) < (n : Int) := by omega
                have hkp : (0 : Int) < (k : Int) := by omega
                obtain ⟨y0, -⟩ := HCS.out j (by rw [HL.out]; omega)
                rw [← hj] at hbad
                obtain ⟨pi, hpi⟩ : ∃ x, (zs[j]?.getD cuZ).1 = x := ⟨_, rfl⟩
                rw [hpi] at y0 hbad
                have k4 := Later.cell (cellKeep y0 hb)
                clear hj hpi y0
                by_cases hle : i ≤ pi
                · have HW := Lib.hid (wrongN_bad (zs := zs) (by rw [HL.out]; exact hn8) hkz (by rw [hbad]; simp [hk1, hle]))
                  clear hbad hkz HCS
                  go_wp2_with fail
                  refine wp_region_later (by kernel_rfl) (by kernel_rfl) ?_
                  repeat (go_big_quiet_step (fail))
                  refine wpQuiet_nil ?_
                  intro _ hw'
                  obtain ⟨pq, hw''⟩ := hw'
                  subst hw''
                  go_wp2_with fail
                  go_ret
                  exact ⟨by rw [HW.out]; rfl, nx hb pq.hb⟩
                · have HNB := Lib.hid (show badC zs k = false by rw [hbad]; simp [hle])
                  have hle2 : decide (i ≤ pi) = false := decide_eq_false hle
                  clear hbad hkz HCS
                  go_wp2_with fail
                  refine wp_region_later (by kernel_rfl) (by kernel_rfl) ?_
                  repeat (go_big_quiet_step (fail))
                  refine wpQuiet_nil ?_
                  intro _ hw'
                  obtain ⟨pq, hw''⟩ := hw'
                  subst hw''
                  go_wp2_with fail
                  exact ⟨⟨k + 1, by go_num, hlt, Lib.hid (fun j hj => by rcases Nat.lt_succ_iff_lt_or_eq.1 hj with h | rfl; exact hok.out j h; exact HNB.out), nx hb pq.hb⟩, by simp [intOf]; omega⟩
              · have HNB := Lib.hid (show badC zs k = false by rw [hbad]; simp [hk1])
                have hkp : decide ((0 : Int) < (k : Int)) = false := decide_eq_false (by omega)
                have hkp2 : decide (0 < k) = false := decide_eq_false hk1
                clear hbad hkz HCS
                go_wp2_with fail
                refine wp_region_later (by kernel_rfl) (by kernel_rfl) ?_
                repeat (go_big_quiet_step (fail))
                refine wpQuiet_nil ?_
                intro _ hw'
                obtain ⟨pq, hw''⟩ := hw'
                subst hw''
                go_wp2_with fail
                exact ⟨⟨k + 1, by go_num, hlt, Lib.hid (fun j hj => by rcases Nat.lt_succ_iff_lt_or_eq.1 hj with h | rfl; exact hok.out j h; exact HNB.out), nx hb pq.hb⟩, by simp [intOf]; omega⟩
      · obtain rfl : k = n := by omega
        have HW := Lib.hid (wrongN_ok (zs := zs) (by rw [HL.out]; omega) (fun j hj => hok.out j (by rw [← HL.out]; exact hj)))
        have hkd : decide (k < k) = false := decide_eq_false (by omega)
        go_wp2_with fail
        go_ret
        exact ⟨by rw [HW.out]; rfl, hb⟩

set_option maxRecDepth 10000 in
set_option maxHeartbeats 4000000 in
theorem refshift_bad (ao : Option Addr) (cap : Nat) (zs : List Cu) (n : Nat) (hl : zs.length = n) (hn : n ≤ 140737488351232) (A O I : Int) (er : Int) (her : wrongN zs = er) (hz : er ≠ 0) (w : World) (hR : ReadsC w ao zs) :
    Calls Tryd.prog 15 #[.slice ao n cap, .agg #[.int .i64 A, .int .i64 O, .int .i64 I]] w fun e w' => e = .returned (.tuple #[.slice none 0 0, .int .i64 er]) ∧ Below w.heap.size w w' := by
  have HW := Lib.hid (fun w hR => refwrong_any ao cap zs n hl hn w hR)
  have HR := Lib.hid hR
  rw [her] at HW
  have hne : (er != 0) = true := bne_iff_ne.2 hz
  clear hl hR her hz
  obtain ⟨d0, d1, d2⟩ := box3 w 24 (.int .i64 A) (.int .i64 O) (.int .i64 I)
  have hbk := Blk.new w 24 [.int .i64 A, .int .i64 O, .int .i64 I]
  have hb0 : Below w.heap.size w (w.alloc (.cells #[.int .i64 A, .int .i64 O, .int .i64 I] 24)) := al (Below.refl _ _) _
  obtain ⟨W, hW⟩ : ∃ W, w.alloc (.cells #[.int .i64 A, .int .i64 O, .int .i64 I] 24) = W := ⟨_, rfl⟩
  replace hbk : Blk W w.heap.size 24 [.int .i64 A, .int .i64 O, .int .i64 I] := hW ▸ hbk
  rw [hW] at d0 d1 d2 hb0
  go_enter Tryd.func15, Tryd.ntmps15
  go_wp2_with (go_at_call 43; (with_reducible refine (HW.out _ (HR.out.below hb0)).mono ?_); rintro e w1 ⟨rfl, hb1⟩)
  go_ret2
  exact ⟨rfl, nx hb0 hb1⟩
set_option maxRecDepth 10000 in
set_option maxHeartbeats 4000000 in
theorem refshift_arg (ao : Option Addr) (cap : Nat) (zs : List Cu) (n : Nat) (hl : zs.length = n) (hn : n ≤ 140737488351232) (A O I : Int) (hA : -9223372036854775808 ≤ A ∧ A ≤ 9223372036854775807) (hO : -9223372036854775808 ≤ O ∧ O ≤ 9223372036854775807) (hI : -9223372036854775808 ≤ I ∧ I ≤ 9223372036854775807)
    (her : wrongN zs = 0) (hx : A < 0 ∨ O < 0 ∨ I < 0 ∨ 9223372036854775807 < A + O ∨ 9223372036854775807 < A + I) (w : World) (hR : ReadsC w ao zs) :
    Calls Tryd.prog 15 #[.slice ao n cap, .agg #[.int .i64 A, .int .i64 O, .int .i64 I]] w fun e w' => e = .returned (.tuple #[.slice none 0 0, .int .i64 2]) ∧ Below w.heap.size w w' := by
  have HW := Lib.hid (fun w hR => refwrong_any ao cap zs n hl hn w hR)
  have HR := Lib.hid hR
  rw [her] at HW
  clear hl hR her
  obtain ⟨d0, d1, d2⟩ := box3 w 24 (.int .i64 A) (.int .i64 O) (.int .i64 I)
  have hbk := Blk.new w 24 [.int .i64 A, .int .i64 O, .int .i64 I]
  have hb0 : Below w.heap.size w (w.alloc (.cells #[.int .i64 A, .int .i64 O, .int .i64 I] 24)) := al (Below.refl _ _) _
  obtain ⟨W, hW⟩ : ∃ W, w.alloc (.cells #[.int .i64 A, .int .i64 O, .int .i64 I] 24) = W := ⟨_, rfl⟩
  replace hbk : Blk W w.heap.size 24 [.int .i64 A, .int .i64 O, .int .i64 I] := hW ▸ hbk
  rw [hW] at d0 d1 d2 hb0
  obtain ⟨hA1, hA2⟩ := hA
  obtain ⟨hO1, hO2⟩ := hO
  obtain ⟨hI1, hI2⟩ := hI
  go_enter Tryd.func15, Tryd.ntmps15
  go_wp2_with (go_at_call 43; (with_reducible refine (HW.out _ (HR.out.below hb0)).mono ?_); rintro e w1 ⟨rfl, hb1⟩; have e0 := cellKeep d0 hb1; have e1 := cellKeep d1 hb1; have e2 := cellKeep d2 hb1)
  all_goals first
    | (exfalso; omega)
    | (go_ret2; exact ⟨rfl, nx hb0 hb1⟩)
end Go.Proofs.YtfoppbignompkaaDoor

namespace Go.Proofs.YtfoppbignompkaaDoor
open Go.RowKit

theorem info_rows : (Tryd.prog.info? 86).map (fun i => (i.zero, i.size, i.bytes)) = some (some (.slice none 0 0), 1, 24) := by kernel_rfl
theorem pw8 (k : Nat) : (2 : Int) ^ (8 * k) = 256 ^ k := by
  induction k with
  | zero => rfl
  | succ k ih => rw [show 8 * (k + 1) = 8 * k + 8 by omega, Int.pow_add, ih, Int.pow_succ]; rfl
set_option maxRecDepth 100000 in
set_option maxHeartbeats 4000000 in
theorem little_any (x : Int) (hx : 0 ≤ x) (hx2 : x ≤ 18446744073709551615) (w : World) :
    Calls Tryd.prog 58 #[.int .u64 x, .int .i64 8] w fun e w' => ∃ v, e = .returned v ∧ w'.ownsRow w.heap.size 5 1 v 8 ((leZ x 8).map (Value.int .u8)) ∧ Below w.heap.size w w' := by
  obtain ⟨i0, hi, hz0, hz1, hz2⟩ := info_parts info_u8p
  go_enter Tryd.func58, Tryd.ntmps58
  go_wp2_with fail
  go_loopw [5, 6] (fun v i wr => ∃ k : Nat, i = .int .i64 (k : Nat) ∧ k ≤ 8 ∧ Hid (wr.ownsRow w.heap.size 5 1 v k ((leZ x k).map (Value.int .u8))) ∧ Below w.heap.size w wr) (fun _ i _ => 8 - (intOf i).toNat)
  case atStart => exact ⟨0, rfl, by omega, Lib.hid (World.ownsRow_nil _ _ _ _), Below.refl _ _⟩
  case round =>
    obtain ⟨k, rfl, hk, hO, hb⟩ := hrel
    by_cases hlt : k < 8
    · have hki : (k : Int) < 8 := by omega
      have HS := Lib.hid (leZ_succ x k)
      have hsz := hb.size
      obtain ⟨N, hN⟩ : ∃ N, 8 * k = N := ⟨_, rfl⟩
      have h8 : (8 : Int) * (k : Int) = (N : Int) := by omega
      have hp8 := pw8 k
      rw [hN] at hp8
      obtain ⟨hy1, hy2⟩ := shift_le x hx k
      obtain ⟨y, hy⟩ : ∃ y, x / 256 ^ k = y := ⟨_, rfl⟩
      have hdv : x / 2 ^ N = y := by rw [hp8]; exact hy
      rw [hy] at HS hy1 hy2
      have hy3 : y ≤ 18446744073709551615 := by omega
      have hN64 : N ≤ 64 := by omega
      clear hp8 hy hN hy2
      go_wp2_with (at_builtin; refine wpList_append_own _ rfl _ _ 86 rfl w.heap.size 5 i0 (.int .u8 0) 1 1 Tryd.underlying86 hi hz0 hz1 hz2 rfl (by decide) u5 _ _ rfl (hO.out.alloc _) ⟨wr.heap.size, 0, none⟩ 1 1 [.int .u8 (y % 256)] rfl (by simp) (cells_new _ _ _) (by simp [Value.oneCell']) (by unfold maxLen; omega) (by omega) (by rw [World.size_alloc]; omega) ?_; intro v4 w4 hown4 hgrow4 _)
      have hb4 : Below w.heap.size w w4 := (al hb _).grown hgrow4 (by rw [World.size_alloc]; omega) (fun q e => (hO.out.lt q e).1)
      exact ⟨⟨k + 1, by go_num, by omega, Lib.hid (by rw [HS.out, List.map_append]; exact hown4), hb4⟩, by simp [intOf]; omega⟩
    · obtain rfl : k = 8 := by omega
      rw [show ((8 : Nat) : Int) = 8 from rfl]
      go_wp2_with fail
      go_ret
      exact ⟨_, rfl, hO.out, hb⟩

/-- slices of bytes that lie in a row -/
def PartsAt (w : World) (ao : Option Addr) (m : Nat) (f : Nat → List Int) : Prop := ∀ j, j < m → ∃ b off g c, ao = some ⟨b, off, none⟩ ∧ w.cell? ⟨b, off + j, none⟩ = some (.slice (some ⟨g, 0, none⟩) 8 c) ∧ ∀ i, i < 8 → w.cell? ⟨g, i, none⟩ = some (.int .u8 ((f j)[i]?.getD 0))
theorem PartsAt.below {w w' : World} {ao : Option Addr} {m : Nat} {f : Nat → List Int} (h : PartsAt w ao m f) (hb : Below w.heap.size w w') : PartsAt w' ao m f := fun j hj => by
  obtain ⟨b, off, g, c, h0, h1, h2⟩ := h j hj
  exact ⟨b, off, g, c, h0, cellKeep h1 hb, fun i hi => cellKeep (h2 i hi) hb⟩
set_option maxRecDepth 10000 in
set_option maxHeartbeats 4000000 in
theorem joinB_any (ao : Option Addr) (m cap : Nat) (f : Nat → List Int) (hf : ∀ j, j < m → (f j).length = 8) (hm : m ≤ 1048576) (w : World) (hP : PartsAt w ao m f) :
    Calls Tryd.prog 59 #[.slice ao m cap] w fun e w' => ∃ v, e = .returned v ∧ w'.ownsRow w.heap.size 5 1 v (8 * m) (((List.range m).flatMap f).map (Value.int .u8)) ∧ Below w.heap.size w w' := by
  obtain ⟨i0, hi, hz0, hz1, hz2⟩ := info_parts info_u8p
  have HP := Lib.hid hP
  have HF := Lib.hid hf
  clear hP hf
  go_enter Tryd.func59, Tryd.ntmps59
  go_wp2_with fail
  go_loopw [3, 4] (fun v i wr => ∃ k : Nat, i = .int .i64 (k : Nat) ∧ k ≤ m ∧ Hid (wr.ownsRow w.heap.size 5 1 v (8 * k) (((List.range k).flatMap f).map (Value.int .u8))) ∧ Below w.heap.size w wr) (fun _ i _ => m - (intOf i).toNat)
  case atStart => exact ⟨0, rfl, Nat.zero_le _, Lib.hid (World.ownsRow_nil _ _ _ _), Below.refl _ _⟩
  case round =>
    obtain ⟨k, rfl, hk, hO, hb⟩ := hrel
    by_cases hlt : k < m
    · have hki : (k : Int) < (m : Int) := by omega
      have hk0 : (0 : Int) ≤ (k : Int) := by omega
      obtain ⟨b, off, g, c, rfl, h1, h2⟩ := HP.out k hlt
      have d0 := cellKeep h1 hb
      have H1 := Lib.hid h1
      have H2 := Lib.hid h2
      have hfl := HF.out k hlt
      obtain ⟨F, hF⟩ : ∃ F, f k = F := ⟨_, rfl⟩
      obtain ⟨R, hR⟩ : ∃ R, (List.range k).flatMap f = R := ⟨_, rfl⟩
      rw [hF] at hfl H2
      rw [hR] at hO
      have HFL := Lib.hid hfl
      have HE := Lib.hid (show (List.range (k + 1)).flatMap f = R ++ F by rw [List.range_succ, List.flatMap_append, hR]; simp [hF])
      have HO := Lib.hid (show Hid (wr.ownsRow w.heap.size 5 1 u3 (8 * k + 0) ((R ++ F.take 0).map (Value.int .u8))) from Lib.hid (by simpa using hO.out))
      clear h1 h2 hfl hF hR hO
      obtain ⟨wo, rfl⟩ : ∃ wo : World, wo = wr := ⟨_, rfl⟩
      go_wp2_with fail
      go_loopw [3, 5] (fun v i wr => ∃ j : Nat, i = .int .i64 (j : Nat) ∧ j ≤ 8 ∧ Hid (wr.ownsRow w.heap.size 5 1 v (8 * k + j) ((R ++ F.take j).map (Value.int .u8))) ∧ Below w.heap.size w wr) (fun _ i _ => 8 - (intOf i).toNat)
      case atStart => exact ⟨0, rfl, by omega, HO.out, hb⟩
      case round =>
        clear HO hb d0
        obtain ⟨j, rfl, hj, hO, hb⟩ := hrel
        have d0 := cellKeep H1.out hb
        by_cases hj8 : j < 8
        · have hji : (j : Int) < 8 := by omega
          have hj0 : (0 : Int) ≤ (j : Int) := by omega
          have d1 := cellKeep (H2.out j hj8) hb
          have HS := Lib.hid (show F.take (j + 1) = F.take j ++ [F[j]?.getD 0] by rw [List.take_succ_eq_append_getElem (by rw [HFL.out]; exact hj8), List.getElem?_eq_getElem (by rw [HFL.out]; exact hj8)]; rfl)
          obtain ⟨y, hy⟩ : ∃ y, F[j]?.getD 0 = y := ⟨_, rfl⟩
          rw [hy] at d1 HS
          have hsz := hb.size
          clear hy
          go_wp2_with (at_builtin; refine wpList_append_own _ rfl _ _ 86 rfl w.heap.size 5 i0 (.int .u8 0) 1 1 Tryd.underlying86 hi hz0 hz1 hz2 rfl (by decide) u3 _ _ rfl (hO.out.alloc _) ⟨wr.heap.size, 0, none⟩ 1 1 [.int .u8 y] rfl (by simp) (cells_new _ _ _) (by simp [Value.oneCell']) (by unfold maxLen; omega) (by omega) (by rw [World.size_alloc]; omega) ?_; intro v4 w4 hown4 hgrow4 _)
          have hb4 : Below w.heap.size w w4 := (al hb _).grown hgrow4 (by rw [World.size_alloc]; omega) (fun q e => (hO.out.lt q e).1)
          exact ⟨⟨j + 1, by go_num, by omega, Lib.hid (by rw [HS.out, ← List.append_assoc, List.map_append]; exact hown4), hb4⟩, by simp [intOf]; omega⟩
        · obtain rfl : j = 8 := by omega
          rw [show ((8 : Nat) : Int) = 8 from rfl]
          have hO2 := hO.out
          rw [List.take_of_length_le (by rw [HFL.out]; exact Nat.le_refl _), ← HE.out] at hO2
          have HO2 := Lib.hid hO2
          clear hO2 hO
          go_wp2_with fail
          exact ⟨⟨k + 1, by go_num, by omega, Lib.hid HO2.out, hb⟩, by simp [intOf]; omega⟩
    · obtain rfl : k = m := by omega
      have hkd : decide (k < k) = false := decide_eq_false (by omega)
      go_wp2_with fail
      go_ret
      exact ⟨_, rfl, hO.out, hb⟩
end Go.Proofs.YtfoppbignompkaaDoor

namespace Go.Proofs.YtfoppbignompkaaDoor
open Go.RowKit

/-- the parts' bytes: each word of each cursor -/
def ptF (zs : List Cu) (j : Nat) : List Int := leZ ((wordC (zs[j / 4]?.getD cuZ))[j % 4]?.getD 0) 8
theorem ptF_len (zs : List Cu) (j : Nat) : (ptF zs j).length = 8 := leZ_len _ _
theorem ptF_at (zs : List Cu) (k i : Nat) (hi : i < 4) (c : Cu) (hc : zs[k]?.getD cuZ = c) : ptF zs (4 * k + i) = leZ ((wordC c)[i]?.getD 0) 8 := by
  unfold ptF
  rw [show (4 * k + i) / 4 = k by omega, show (4 * k + i) % 4 = i by omega, hc]
theorem range4 (k : Nat) : List.range (4 * (k + 1)) = List.range (4 * k) ++ [4 * k, 4 * k + 1, 4 * k + 2, 4 * k + 3] := by
  rw [show 4 * (k + 1) = 4 * k + 1 + 1 + 1 + 1 by omega, List.range_succ, List.range_succ, List.range_succ, List.range_succ]
  simp
theorem ptF_pack (zs : List Cu) : ∀ k, k ≤ zs.length → (List.range (4 * k)).flatMap (ptF zs) = packZ (zs.take k)
  | 0, _ => rfl
  | k + 1, h => by
    rw [range4, List.flatMap_append, ptF_pack zs k (by omega), packZ_succ zs k (by omega)]
    obtain ⟨c, hc⟩ : ∃ c, zs[k]?.getD cuZ = c := ⟨_, rfl⟩
    have h0 := ptF_at zs k 0 (by omega) c hc
    rw [hc]
    simp only [List.flatMap_cons, List.flatMap_nil, List.append_nil, ptF_at zs k 1 (by omega) c hc, ptF_at zs k 2 (by omega) c hc, ptF_at zs k 3 (by omega) c hc]
    rw [Nat.add_zero] at h0
    rw [h0]
    rfl
/-- parts that lie in a row of their own -/
def PartsR (W : World) (B : Nat) (v : Value) (m : Nat) (f : Nat → List Int) : Prop :=
  ∃ p : Nat → Value, W.ownsRow B 86 1 v m ((List.range m).map p) ∧ ∀ j, j < m → HRow W B 5 1 (p j) 8 ((f j).map (Value.int .u8))
theorem PartsR.four {wr W5 w6 : World} {B m : Nat} {v v' a0 a1 a2 a3 : Value} {f : Nat → List Int} {tmp : Obj} {p : Nat → Value} (hp : ∀ j, j < m → HRow wr B 5 1 (p j) 8 ((f j).map (Value.int .u8)))
    (hb : Below wr.heap.size wr W5) (h0 : HRow W5 B 5 1 a0 8 ((f m).map (Value.int .u8))) (h1 : HRow W5 B 5 1 a1 8 ((f (m + 1)).map (Value.int .u8))) (h2 : HRow W5 B 5 1 a2 8 ((f (m + 2)).map (Value.int .u8))) (h3 : HRow W5 B 5 1 a3 8 ((f (m + 3)).map (Value.int .u8)))
    {xs : List Value} {n : Nat} (hv : (W5.alloc tmp).ownsRow B 86 1 v n xs)
    (own : w6.ownsRow B 86 1 v' (m + 4) ((List.range m).map p ++ [a0, a1, a2, a3])) (hg : (W5.alloc tmp).grownBy w6 v.ownBlock) : PartsR w6 B v' (m + 4) f := by
  have key : ∀ {a : Value} {l : List Value}, HRow W5 B 5 1 a 8 l → HRow w6 B 5 1 a 8 l := fun {a l} h => by
    have h' : HRow (W5.alloc tmp) B 5 1 a 8 l := h.below ((Below.refl _ _).alloc (Nat.le_refl _) tmp) (Nat.le_refl _)
    refine h'.kept hg ?_
    rcases ha : a.ownBlock with _ | g
    · exact .inl rfl
    · exact .inr fun e => (h'.apart (HRow.of_own hv) (by decide) g ha) e.symm
  refine ⟨fun j => if j < m then p j else ([a0, a1, a2, a3][j - m]?).getD a0, ?_, fun j hj => ?_⟩
  · have e : (List.range (m + 4)).map (fun j => if j < m then p j else ([a0, a1, a2, a3][j - m]?).getD a0) = (List.range m).map p ++ [a0, a1, a2, a3] := by
      rw [show m + 4 = m + 1 + 1 + 1 + 1 from rfl, List.range_succ, List.range_succ, List.range_succ, List.range_succ]
      simp only [List.map_append, List.map_cons, List.map_nil, List.append_assoc, List.cons_append, List.nil_append]
      congr 1
      · apply List.map_congr_left
        intro j hj
        rw [if_pos (List.mem_range.1 hj)]
      · rw [if_neg (by omega), if_neg (by omega), if_neg (by omega), if_neg (by omega), Nat.sub_self, show m + 1 - m = 1 by omega, show m + 1 + 1 - m = 2 by omega, show m + 1 + 1 + 1 - m = 3 by omega]
        rfl
    rw [e]
    exact own
  · by_cases hlt : j < m
    · simp only [if_pos hlt]
      exact key ((hp j hlt).below hb (Nat.le_refl _))
    · simp only [if_neg hlt]
      obtain ⟨i, rfl⟩ : ∃ i, j = m + i := ⟨j - m, by omega⟩
      rw [Nat.add_sub_cancel_left]
      match i, (show i < 4 by omega) with
      | 0, _ => exact key h0
      | 1, _ => exact key h1
      | 2, _ => exact key h2
      | 3, _ => exact key h3
theorem PartsR.at' {W : World} {B m : Nat} {v : Value} {f : Nat → List Int} (h : PartsR W B v m f) (hf : ∀ j, (f j).length = 8) : ∃ ao c, v = .slice ao m c ∧ PartsAt W ao m f := by
  obtain ⟨p, h1, h2⟩ := h
  obtain ⟨ao, c, rfl⟩ := (HRow.of_own h1).form
  refine ⟨ao, c, rfl, fun j hj => ?_⟩
  obtain ⟨g, c', e, _, _⟩ := (HRow.of_own h1).form1 (by omega)
  injection e with e1 e2 e3
  subst e1
  obtain ⟨g2, c2, e2, _, _⟩ := (h2 j hj).form1 (by decide)
  have hp := h2 j hj
  rw [e2] at hp
  refine ⟨g, 0, g2, c2, rfl, ?_, fun i hi => ?_⟩
  · subst e3
    rw [Nat.zero_add, h1.cellAt j (by omega), List.getElem?_map, List.getElem?_range hj]
    show some (p j) = _
    rw [e2]
  · rw [hp.cellAt i (by omega), List.getElem?_map, List.getElem?_eq_getElem (by rw [hf]; exact hi)]
    rfl
theorem p4_keep {W0 W W' : World} {g i1 i2 i3 i4 : Nat} {v1 v2 v3 v4 : Value} (H : W.cell? ⟨g, i1, none⟩ = some v1 ∧ W.cell? ⟨g, i2, none⟩ = some v2 ∧ W.cell? ⟨g, i3, none⟩ = some v3 ∧ W.cell? ⟨g, i4, none⟩ = some v4 ∧ Below W0.heap.size W0 W) (hb : Below W.heap.size W W') :
    W'.cell? ⟨g, i1, none⟩ = some v1 ∧ W'.cell? ⟨g, i2, none⟩ = some v2 ∧ W'.cell? ⟨g, i3, none⟩ = some v3 ∧ W'.cell? ⟨g, i4, none⟩ = some v4 ∧ Below W0.heap.size W0 W' := ⟨cellKeep H.1 hb, cellKeep H.2.1 hb, cellKeep H.2.2.1 hb, cellKeep H.2.2.2.1 hb, nx H.2.2.2.2 hb⟩

theorem refpack_bad (ao : Option Addr) (cap : Nat) (zs : List Cu) (n : Nat) (hl : zs.length = n) (hn : n ≤ 140737488351232) (er : Int) (her : wrongN zs = er) (hz : er ≠ 0) (w : World) (hR : ReadsC w ao zs) :
    Calls Tryd.prog 32 #[.slice ao n cap] w fun e w' => e = .returned (.tuple #[.string ⟨#[]⟩, .int .i64 er]) ∧ Below w.heap.size w w' := by
  have HW := Lib.hid (fun w hR => refwrong_any ao cap zs n hl hn w hR)
  have HR := Lib.hid hR
  rw [her] at HW
  have hne : (er != 0) = true := bne_iff_ne.2 hz
  clear hl hR her hz
  go_enter Tryd.func32, Tryd.ntmps32
  go_wp2_with (go_at_call 43; (with_reducible refine (HW.out _ HR.out).mono ?_); rintro e w1 ⟨rfl, hb1⟩)
  go_ret2
  exact ⟨rfl, hb1⟩
set_option maxRecDepth 100000 in
set_option maxHeartbeats 8000000 in
theorem refpack_ok (ao : Option Addr) (cap : Nat) (zs : List Cu) (n : Nat) (hl : zs.length = n) (her : wrongN zs = 0) (hz : IntsC zs) (hz2 : WordsC zs) (w : World) (hR : ReadsC w ao zs) :
    Calls Tryd.prog 32 #[.slice ao n cap] w fun e w' => e = .returned (.tuple #[.string (strOfNums (packZ zs)), .int .i64 0]) ∧ Below w.heap.size w w' := by
  obtain ⟨hn8, hbad⟩ := wrongN_zero her
  obtain ⟨i1, hj, hw0, hw1, hw2⟩ := info_parts info_rows
  have HW := Lib.hid (fun w hR => refwrong_any ao cap zs n hl (by omega) w hR)
  have HR := Lib.hid hR
  rw [hl] at hn8
  have HL := Lib.hid hl
  have HBAD := Lib.hid hbad
  have HZ := Lib.hid hz
  have HZ2 := Lib.hid hz2
  rw [her] at HW
  clear hR her hbad hz hz2 hl
  go_enter Tryd.func32, Tryd.ntmps32
  go_wp2_with (first
    | (go_at_call 43; (with_reducible refine (HW.out _ HR.out).mono ?_); rintro e w1 ⟨rfl, hb1⟩))
  have HR1 := Lib.hid (HR.out.below hb1)
  clear HW HR
  go_loopw [5, 6] (fun v i wr => ∃ k : Nat, i = .int .i64 (k : Nat) ∧ k ≤ n ∧ Hid (PartsR wr w1.heap.size v (4 * k) (ptF zs)) ∧ Below w1.heap.size w1 wr) (fun _ i _ => n - (intOf i).toNat)
  case atStart => exact ⟨0, rfl, Nat.zero_le _, Lib.hid ⟨fun _ => .slice none 0 0, World.ownsRow_nil _ _ _ _, fun j hj => by omega⟩, Below.refl _ _⟩
  case round =>
    obtain ⟨k, rfl, hk, hO, hb⟩ := hrel
    by_cases hlt : k < n
    · have hki : (k : Int) < (n : Int) := by omega
      have hk0 : (0 : Int) ≤ (k : Int) := by omega
      have hkz : k < zs.length := by rw [HL.out]; exact hlt
      rcases HR1.out with h0 | ⟨b, off, rfl, hcs⟩
      · rw [h0] at hkz; simp at hkz
      obtain ⟨x0, x1, x2, x3⟩ := hcs k hkz
      have hlow := bad_low (HBAD.out k hkz)
      obtain ⟨hu1, hu2, hu3⟩ := HZ.out k hkz
      obtain ⟨hv1, hv2⟩ := HZ2.out k hkz
      obtain ⟨c, hc⟩ : ∃ c, zs[k]?.getD cuZ = c := ⟨_, rfl⟩
      have HP0 := Lib.hid (ptF_at zs k 0 (by omega) c hc)
      have HP1 := Lib.hid (ptF_at zs k 1 (by omega) c hc)
      have HP2 := Lib.hid (ptF_at zs k 2 (by omega) c hc)
      have HP3 := Lib.hid (ptF_at zs k 3 (by omega) c hc)
      rw [hc] at x0 x1 x2 x3 hlow hu1 hu2 hu3 hv1 hv2
      obtain ⟨i, a, d, g⟩ := c
      simp only at x0 x1 x2 x3 hlow hu1 hu2 hu3 hv1 hv2
      obtain ⟨hl1, hl2, hl3⟩ := hlow
      have e0 : IntKind.u64.wrap i = i := IntWalk.u64_in _ (by omega)
      have e1 : IntKind.u64.wrap a = a := IntWalk.u64_in _ (by omega)
      have e2 : IntKind.u64.wrap d = d := IntWalk.u64_in _ (by omega)
      have e3 : IntKind.u64.wrap g = g := IntWalk.u64_in _ (by omega)
      have HL0 := Lib.hid (fun w => little_any i hv1 (by omega) w)
      have HL1 := Lib.hid (fun w => little_any a hl1 (by omega) w)
      have HL2 := Lib.hid (fun w => little_any d hl2 (by omega) w)
      have HL3 := Lib.hid (fun w => little_any g hl3 (by omega) w)
      obtain ⟨p, hp1, hp2⟩ := hO.out
      have HP := Lib.hid hp2
      have HOW := Lib.hid hp1
      have hszr := hb.size
      obtain ⟨N, hN⟩ : ∃ N, 4 * k = N := ⟨_, rfl⟩
      have hS : wr.cell? ⟨b, off + k * 4, none⟩ = some (.int .u32 i) ∧ wr.cell? ⟨b, off + k * 4 + 1, none⟩ = some (.int .i64 a) ∧ wr.cell? ⟨b, off + k * 4 + 2, none⟩ = some (.int .i64 d) ∧ wr.cell? ⟨b, off + k * 4 + 3, none⟩ = some (.int .i64 g) ∧ Below w1.heap.size w1 wr :=
        ⟨cellKeep x0 hb, cellKeep x1 hb, cellKeep x2 hb, cellKeep x3 hb, hb⟩
      have hNb : N ≤ 32 := by omega
      rw [hN] at HOW HP
      have HN := Lib.hid hN
      have HX := Lib.hid (And.intro x0 (And.intro x1 (And.intro x2 x3)))
      clear hcs hc hkz x0 x1 x2 x3 hp1 hp2 hO hN
      go_wp2_with fail
      go_region_held_law (fun w' => w'.cell? ⟨b, off + k * 4, none⟩ = some (.int .u32 i) ∧ w'.cell? ⟨b, off + k * 4 + 1, none⟩ = some (.int .i64 a) ∧ w'.cell? ⟨b, off + k * 4 + 2, none⟩ = some (.int .i64 d) ∧ w'.cell? ⟨b, off + k * 4 + 3, none⟩ = some (.int .i64 g) ∧ Below w1.heap.size w1 w')
        (first | (with_reducible assumption) | (with_reducible exact p4_keep hS (Below.refl _ _).drew) | (with_reducible exact p4_keep hS hY2) | (with_reducible exact p4_keep hS hY3) | (with_reducible exact p4_keep hS hY4) | (with_reducible exact p4_keep hS hY5) | (with_reducible exact p4_keep (by assumption) ((Below.refl _ _).alloc (Nat.le_refl _) _)) | (with_reducible exact p4_keep hS hY6))
        (first
          | (go_at_call 58; (with_reducible refine (HL0.out _).mono ?_); rintro e w2 ⟨v2, rfl, ho2, hb2⟩; obtain ⟨g2, c2, rfl, hg2, hg2'⟩ := (HRow.of_own ho2).form1 (by decide); have hO2 := Lib.hid ho2; have hY2 := nx (Below.refl wr.heap.size wr).drew hb2; clear ho2)
          | (go_at_call 58; (with_reducible refine (HL1.out _).mono ?_); rintro e w3 ⟨v3, rfl, ho3, hb3⟩; obtain ⟨g3, c3, rfl, hg3, hg3'⟩ := (HRow.of_own ho3).form1 (by decide); have hO3 := Lib.hid ho3; have hY3 := nx hY2 hb3; clear ho3)
          | (go_at_call 58; (with_reducible refine (HL2.out _).mono ?_); rintro e w4 ⟨v4, rfl, ho4, hb4⟩; obtain ⟨g4, c4, rfl, hg4, hg4'⟩ := (HRow.of_own ho4).form1 (by decide); have hO4 := Lib.hid ho4; have hY4 := nx hY3 hb4; clear ho4)
          | (go_at_call 58; (with_reducible refine (HL3.out _).mono ?_); rintro e w5 ⟨v5, rfl, ho5, hb5⟩; obtain ⟨g5, c5, rfl, hg5, hg5'⟩ := (HRow.of_own ho5).form1 (by decide); have hO5 := Lib.hid ho5; have hY5 := nx hY4 hb5; have hz5 := Nat.le_trans hszr hY5.size; have hB15 := Lib.hid (nx hb hY5); clear ho5)
          | (refine step_append_lies _ (by rfl) _ _ _ (by rfl) w1.heap.size 86 i1 (.slice none 0 0) 1 24 Tryd.underlying90 hj hw0 hw1 hw2 rfl (by decide) u5 _ _ (by rfl) ((owns_below HOW.out hY5 (Nat.le_refl _)).alloc (.cells #[.slice (some ⟨g2, 0, none⟩) 8 c2, .slice (some ⟨g3, 0, none⟩) 8 c3, .slice (some ⟨g4, 0, none⟩) 8 c4, .slice (some ⟨g5, 0, none⟩) 8 c5] 86)) ⟨w5.heap.size, 0, none⟩ 4 4 [.slice (some ⟨g2, 0, none⟩) 8 c2, .slice (some ⟨g3, 0, none⟩) 8 c3, .slice (some ⟨g4, 0, none⟩) 8 c4, .slice (some ⟨g5, 0, none⟩) 8 c5] (by rfl) (by simp) (cells_new w5 _ _) (by simp [Value.oneCell']) (by decide) (by unfold maxLen; omega) (by omega) (by rw [World.size_alloc]; omega) _ rfl ?_; intro g7 cap7 w7 r1 r2 _ _; have hb7 := (al hB15.out (.cells #[.slice (some ⟨g2, 0, none⟩) 8 c2, .slice (some ⟨g3, 0, none⟩) 8 c3, .slice (some ⟨g4, 0, none⟩) 8 c4, .slice (some ⟨g5, 0, none⟩) 8 c5] 86)).grown r2 (by rw [World.size_alloc]; omega) (fun q e => (HOW.out.lt q e).1); have hS7 := And.intro (cellKeep HX.out.1 hb7) (And.intro (cellKeep HX.out.2.1 hb7) (And.intro (cellKeep HX.out.2.2.1 hb7) (And.intro (cellKeep HX.out.2.2.2 hb7) hb7)))))
      have hb25 := nx hb3 (nx hb4 hb5)
      have hb35 := nx hb4 hb5
      have q2 : HRow w5 w1.heap.size 5 1 (.slice (some ⟨g2, 0, none⟩) 8 c2) 8 ((ptF zs N).map (Value.int .u8)) := by
        rw [← HN.out]
        have h := HP0.out
        rw [Nat.add_zero] at h
        rw [h]
        exact (HRow.of_own (owns_below hO2.out hb25 (Nat.le_refl _))).lower hszr
      have q3 : HRow w5 w1.heap.size 5 1 (.slice (some ⟨g3, 0, none⟩) 8 c3) 8 ((ptF zs (N + 1)).map (Value.int .u8)) := by
        rw [← HN.out, HP1.out]
        exact (HRow.of_own (owns_below hO3.out hb35 (Nat.le_refl _))).lower (Nat.le_trans hszr hY2.size)
      have q4 : HRow w5 w1.heap.size 5 1 (.slice (some ⟨g4, 0, none⟩) 8 c4) 8 ((ptF zs (N + 2)).map (Value.int .u8)) := by
        rw [← HN.out, HP2.out]
        exact (HRow.of_own (owns_below hO4.out hb5 (Nat.le_refl _))).lower (Nat.le_trans hszr hY3.size)
      have q5 : HRow w5 w1.heap.size 5 1 (.slice (some ⟨g5, 0, none⟩) 8 c5) 8 ((ptF zs (N + 3)).map (Value.int .u8)) := by
        rw [← HN.out, HP3.out]
        exact (HRow.of_own hO5.out).lower (Nat.le_trans hszr hY4.size)
      have hPR := Lib.hid (PartsR.four HP.out hY5 q2 q3 q4 q5 ((owns_below HOW.out hY5 (Nat.le_refl _)).alloc (.cells #[.slice (some ⟨g2, 0, none⟩) 8 c2, .slice (some ⟨g3, 0, none⟩) 8 c3, .slice (some ⟨g4, 0, none⟩) 8 c4, .slice (some ⟨g5, 0, none⟩) 8 c5] 86)) r1 r2)
      clear q2 q3 q4 q5 hb25 hb35
      go_wp2_with fail
      exact ⟨⟨k + 1, by go_num, hlt, Lib.hid (by rw [show 4 * (k + 1) = N + 4 by rw [← HN.out]; omega]; exact hPR.out), hb7⟩, by simp [intOf]; omega⟩
    · obtain rfl : k = n := by omega
      have hkd : decide (k < k) = false := decide_eq_false (by omega)
      obtain ⟨a5, c5, e5, hPA⟩ := hO.out.at' (ptF_len zs)
      subst e5
      have HJ := Lib.hid (joinB_any a5 (4 * k) c5 (ptF zs) (fun j _ => ptF_len zs j) (by omega) wr hPA)
      rw [ptF_pack zs k (by rw [HL.out]; exact Nat.le_refl _), List.take_of_length_le (by rw [HL.out]; exact Nat.le_refl _)] at HJ
      obtain ⟨N, hN⟩ : ∃ N, 4 * k = N := ⟨_, rfl⟩
      rw [hN] at HJ ⊢
      clear hPA hO hN
      go_wp2_with (go_at_call 59; (with_reducible refine HJ.out.mono ?_); rintro e w6 ⟨v6, rfl, ho6, hb6⟩; have hcv := conv_own (P := Tryd.prog) (dst := 9) Tryd.underlying86 Tryd.underlying5 Tryd.underlying9 ho6)
      go_ret2
      exact ⟨rfl, nx hb1 (nx hb hb6)⟩
end Go.Proofs.YtfoppbignompkaaDoor

namespace Go.Proofs.YtfoppbignompkaaDoor
open Go.RowKit

theorem zB_drop (s : ByteArray) (i : Nat) : zB (s.extract i s.size) = (zB s).drop i := by
  unfold zB
  rw [bs_drop, List.map_drop]
theorem wdZ_drop (l : List Int) (i : Nat) : wdZ (l.drop i) 0 = wdZ l i := by unfold wdZ; rw [List.drop_zero]
set_option maxRecDepth 10000 in
theorem refword_any (s : ByteArray) (h8 : 8 ≤ s.size) (hs : s.size ≤ 140737488351232) (w : World) :
    Calls Tryd.prog 61 #[.string s] w fun e w' => e = .returned (.int .u64 (wdZ (zB s) 0)) ∧ w = w' := by
  have HL := Lib.hid (zB_len s)
  have HB := Lib.hid (zB_bytes s)
  go_enter Tryd.func61, Tryd.ntmps61
  go_wp2_with fail
  go_loop [3, 4] (fun u i => ∃ j : Nat, j ≤ 8 ∧ i = .int .i64 ((j : Int) - 1) ∧ u = .int .u64 (leV ((((zB s).drop 0).take 8).drop (8 - (8 - j))))) (fun _ i => (intOf i + 1).toNat)
  case atStart => exact ⟨8, by omega, rfl, by rw [show leV ((((zB s).drop 0).take 8).drop (8 - (8 - 8))) = 0 from wd_zero (zB s) 0]⟩
  case round =>
    obtain ⟨j, hj, rfl, rfl⟩ := hrel
    by_cases h0 : 0 < j
    · obtain ⟨k, rfl⟩ : ∃ k, j = k + 1 := ⟨j - 1, by omega⟩
      rw [show (((k + 1 : Nat) : Int) - 1) = (k : Int) by omega]
      obtain ⟨m, hm⟩ : ∃ m, 8 - (k + 1) = m := ⟨_, rfl⟩
      have hstep := wd_step (zB s) 0 m (by omega) (by rw [HL.out]; omega)
      obtain ⟨hu1, hu2⟩ := wd_part (zB s) HB.out 0 m (by omega)
      rw [show 0 + (7 - m) = k by omega] at hstep
      rw [hm]
      have hks : k < s.size := by omega
      have hget : (zB s)[k]?.getD 0 = ((s[k]'hks).toNat : Int) := by
        unfold zB
        rw [List.getElem?_map, List.getElem?_eq_getElem (by rw [← size_bs]; exact hks)]
        rfl
      rw [hget] at hstep
      have hxb : (s[k]'hks).toNat < 256 := (s[k]'hks).toNat_lt
      obtain ⟨u, hu⟩ : ∃ u, leV ((((zB s).drop 0).take 8).drop (8 - m)) = u := ⟨_, rfl⟩
      rw [hu] at hstep hu1 hu2 ⊢
      have HST := Lib.hid hstep
      have hki : (k : Int) < (s.size : Int) := by omega
      have hk0 : (0 : Int) ≤ (k : Int) := by omega
      clear hstep hu hget
      go_wp2_with fail
      refine ⟨⟨k, by omega, rfl, ?_⟩, by simp [intOf]⟩
      rw [show 8 - k = m + 1 by omega, HST.out]
    · obtain rfl : j = 0 := by omega
      go_wp2_with fail
      go_ret
      exact ⟨rfl, rfl⟩
end Go.Proofs.YtfoppbignompkaaDoor

namespace Go.Proofs.YtfoppbignompkaaDoor
open Go.RowKit

theorem refword_at (s : ByteArray) (hs : s.size ≤ 140737488351232) (p : Nat) (hp : p + 8 ≤ s.size) (w : World) :
    Calls Tryd.prog 61 #[.string (s.extract p s.size)] w fun e w' => e = .returned (.int .u64 (wdZ (zB s) p)) ∧ w = w' := by
  have h := refword_any (s.extract p s.size) (by rw [ByteArray.size_extract]; omega) (by rw [ByteArray.size_extract]; omega) w
  rw [zB_drop, wdZ_drop] at h
  exact h
set_option maxRecDepth 10000 in
set_option maxHeartbeats 8000000 in
theorem refunpack_any (s : ByteArray) (hs : s.size ≤ 140737488351232) (w : World) :
    Calls Tryd.prog 34 #[.string s] w fun e w' => ∃ v, e = .returned (.tuple #[v, .int .i64 (unpackV (zB s)).1]) ∧ w'.ownsRow w.heap.size 36 4 v (unpackV (zB s)).2.length ((unpackV (zB s)).2.flatMap cuC) ∧ Below w.heap.size w w' := by
  obtain ⟨i0, hi, hz0, hz1, hz2⟩ := info_parts info_cur
  obtain ⟨r, hr⟩ : ∃ r : Nat, s.size % 32 = r := ⟨_, rfl⟩
  have hri : (s.size : Int).tmod 32 = (r : Int) := by rw [← hr]; exact (Int.ofNat_tmod s.size 32).symm
  have HL := zB_len s
  by_cases h1 : r ≠ 0
  · have hv : unpackV (zB s) = (200, []) := by unfold unpackV; rw [if_pos (by rw [HL, hr]; exact h1)]
    rw [hv]
    have hr0 : ((r : Int) != 0) = true := bne_iff_ne.2 (by omega)
    clear HL hv hr
    go_enter Tryd.func34, Tryd.ntmps34
    go_wp2_with fail
    go_ret2
    exact ⟨_, rfl, World.ownsRow_nil _ _ _ _, Below.refl _ _⟩
  · obtain rfl : r = 0 := by omega
    rw [show ((0 : Nat) : Int) = 0 from rfl] at hri
    by_cases h2 : 256 < s.size
    · have hv : unpackV (zB s) = (201, []) := by unfold unpackV; rw [if_neg (by rw [HL, hr]; simp), if_pos (by rw [HL]; exact h2)]
      rw [hv]
      have h2i : (256 : Int) < (s.size : Int) := by omega
      clear HL hv hr
      go_enter Tryd.func34, Tryd.ntmps34
      go_wp2_with fail
      go_ret2
      exact ⟨_, rfl, World.ownsRow_nil _ _ _ _, Below.refl _ _⟩
    · have h2i : decide (256 < (s.size : Int)) = false := decide_eq_false (by omega)
      have h2n : decide (256 < s.size) = false := decide_eq_false h2
      have HV := Lib.hid (show unpackV (zB s) = if (unpZ (zB s) (s.size / 32)).any bigC then (200, []) else if wrongN (unpZ (zB s) (s.size / 32)) ≠ 0 then (200, []) else (0, unpZ (zB s) (s.size / 32)) by unfold unpackV; rw [if_neg (by rw [HL, hr]; simp), if_neg (by rw [HL]; omega), HL])
      obtain ⟨n, hn⟩ : ∃ n, s.size / 32 = n := ⟨_, rfl⟩
      have hsn : s.size = 32 * n := by omega
      have hn8 : n ≤ 8 := by omega
      have hs256 : s.size ≤ 256 := by omega
      rw [hn] at HV
      have HSN := Lib.hid hsn
      have HZB := Lib.hid (zB_bytes s)
      have HZL := Lib.hid HL
      have HZ := Lib.hid (show ∀ j, j < n → curZ (zB s) j = (wdZ (zB s) (32 * j), wdZ (zB s) (32 * j + 8), wdZ (zB s) (32 * j + 16), wdZ (zB s) (32 * j + 24)) from fun _ _ => rfl)
      clear hr hn hsn HL
      go_enter Tryd.func34, Tryd.ntmps34
      go_wp2_with fail
      clear h1 h2 h2i h2n hri
      go_loopw [4, 5] (fun v i wr => ∃ k p : Nat, i = .int .i64 (p : Nat) ∧ p = 32 * k ∧ k ≤ n ∧ Hid (∀ j, j < k → bigC (curZ (zB s) j) = false) ∧ Hid (wr.ownsRow w.heap.size 36 4 v k ((unpZ (zB s) k).flatMap cuC)) ∧ Below w.heap.size w wr) (fun _ i _ => s.size - (intOf i).toNat)
      case atStart => exact ⟨0, 0, rfl, rfl, Nat.zero_le _, Lib.hid (fun j hj => by omega), Lib.hid (World.ownsRow_nil _ _ _ _), Below.refl _ _⟩
      case round =>
        obtain ⟨k, p, rfl, hp, hk, hok, hO, hb⟩ := hrel
        have hsz := HSN.out
        by_cases hlt : k < n
        · have hpi : (p : Int) < (s.size : Int) := by omega
          have hpn : p + 32 ≤ s.size := by omega
          have HP := Lib.hid hp
          clear hp hsz
          have HCZ := Lib.hid (HZ.out k hlt)
          rw [← HP.out] at HCZ
          obtain ⟨b0, b0'⟩ := wdZ_bound (zB s) HZB.out p (by rw [HZL.out]; omega)
          obtain ⟨b1, b1'⟩ := wdZ_bound (zB s) HZB.out (p + 8) (by rw [HZL.out]; omega)
          obtain ⟨b2, b2'⟩ := wdZ_bound (zB s) HZB.out (p + 16) (by rw [HZL.out]; omega)
          obtain ⟨b3, b3'⟩ := wdZ_bound (zB s) HZB.out (p + 24) (by rw [HZL.out]; omega)
          have HW0 := Lib.hid (fun w => refword_at s hs p (by omega) w)
          have HW1 := Lib.hid (fun w => refword_at s hs (p + 8) (by omega) w)
          have HW2 := Lib.hid (fun w => refword_at s hs (p + 16) (by omega) w)
          have HW3 := Lib.hid (fun w => refword_at s hs (p + 24) (by omega) w)
          obtain ⟨x0, hx0⟩ : ∃ x, wdZ (zB s) p = x := ⟨_, rfl⟩
          obtain ⟨x1, hx1⟩ : ∃ x, wdZ (zB s) (p + 8) = x := ⟨_, rfl⟩
          obtain ⟨x2, hx2⟩ : ∃ x, wdZ (zB s) (p + 16) = x := ⟨_, rfl⟩
          obtain ⟨x3, hx3⟩ : ∃ x, wdZ (zB s) (p + 24) = x := ⟨_, rfl⟩
          rw [hx0] at HW0 b0 b0' HCZ
          rw [hx1] at HW1 b1 b1' HCZ
          rw [hx2] at HW2 b2 b2' HCZ
          rw [hx3] at HW3 b3 b3' HCZ
          have q1 : (p : Int) + 8 = ((p + 8 : Nat) : Int) := by omega
          have q2 : (p : Int) + 16 = ((p + 16 : Nat) : Int) := by omega
          have q3 : (p : Int) + 24 = ((p + 24 : Nat) : Int) := by omega
          obtain ⟨p1, hp1⟩ : ∃ x, p + 8 = x := ⟨_, rfl⟩
          obtain ⟨p2, hp2⟩ : ∃ x, p + 16 = x := ⟨_, rfl⟩
          obtain ⟨p3, hp3⟩ : ∃ x, p + 24 = x := ⟨_, rfl⟩
          rw [hp1] at q1 HW1
          rw [hp2] at q2 HW2
          rw [hp3] at q3 HW3
          have r1 : p1 ≤ s.size := by omega
          have r2 : p2 ≤ s.size := by omega
          have r3 : p3 ≤ s.size := by omega
          have r0 : p ≤ s.size := by omega
          have hw1 : IntKind.i64.wrap (p1 : Int) = (p1 : Int) := IntWalk.i64_in _ (by omega)
          have hw2 : IntKind.i64.wrap (p2 : Int) = (p2 : Int) := IntWalk.i64_in _ (by omega)
          have hw3 : IntKind.i64.wrap (p3 : Int) = (p3 : Int) := IntWalk.i64_in _ (by omega)
          have ii0 : (p : Int) ≤ (s.size : Int) := by omega
          have j0 : decide (s.size < p) = false := decide_eq_false (by omega)
          have z0 : (0 : Int) ≤ (p : Int) := by omega
          have i1 : (p1 : Int) ≤ (s.size : Int) := by omega
          have j1 : decide (s.size < p1) = false := decide_eq_false (by omega)
          have z1 : (0 : Int) ≤ (p1 : Int) := by omega
          have i2 : (p2 : Int) ≤ (s.size : Int) := by omega
          have j2 : decide (s.size < p2) = false := decide_eq_false (by omega)
          have z2 : (0 : Int) ≤ (p2 : Int) := by omega
          have i3 : (p3 : Int) ≤ (s.size : Int) := by omega
          have j3 : decide (s.size < p3) = false := decide_eq_false (by omega)
          have z3 : (0 : Int) ≤ (p3 : Int) := by omega
          have hS : Below w.heap.size w wr := hb
          have HBIG := Lib.hid (show bigC (curZ (zB s) k) = decide (4294967295 < x0 ∨ 9223372036854775807 < x1 ∨ 9223372036854775807 < x2 ∨ 9223372036854775807 < x3) by rw [HCZ.out]; rfl)
          clear hx0 hx1 hx2 hx3 hp1 hp2 hp3
          go_wp2_with fail
          go_region_held_law (fun w' => Below w.heap.size w w') (first | (with_reducible assumption) | exact hS.drew)
            (first
              | (go_at_call 61; (with_reducible refine (HW0.out _).mono ?_); rintro e w2 ⟨rfl, rfl⟩)
              | (go_at_call 61; (with_reducible refine (HW1.out _).mono ?_); rintro e w2 ⟨rfl, rfl⟩)
              | (go_at_call 61; (with_reducible refine (HW2.out _).mono ?_); rintro e w2 ⟨rfl, rfl⟩)
              | (go_at_call 61; (with_reducible refine (HW3.out _).mono ?_); rintro e w2 ⟨rfl, rfl⟩))
          have hbX : Below w.heap.size w wr.drew := hb.drew
          have hOX := Lib.hid (show wr.drew.ownsRow w.heap.size 36 4 u4 k ((unpZ (zB s) k).flatMap cuC) from hO.out)
          obtain ⟨X, hX⟩ : ∃ X, wr.drew = X := ⟨_, rfl⟩
          rw [hX] at hbX hOX ⊢
          clear hw1 hw2 hw3 hX hb hS hO q1 q2 q3 r0 r1 r2 r3 ii0 i1 i2 i3 j0 j1 j2 j3 z0 z1 z2 z3
          by_cases h0 : 4294967296 ≤ x0
          · skip
            have HVV := Lib.hid (show unpackV (zB s) = (200, []) by
              rw [HV.out, if_pos]
              rw [List.any_eq_true]
              refine ⟨curZ (zB s) k, List.mem_map.2 ⟨k, List.mem_range.2 hlt, rfl⟩, ?_⟩
              rw [HBIG.out, decide_eq_true_eq]
              omega)
            go_wp2_with fail
            go_ret2
            exact ⟨.slice none 0 0, by rw [HVV.out]; rfl, by rw [HVV.out]; exact World.ownsRow_nil _ _ _ _, hbX⟩
          · have d0 : decide (4294967296 ≤ x0) = false := decide_eq_false h0
            by_cases h1 : 9223372036854775807 < x1
            · skip
              have HVV := Lib.hid (show unpackV (zB s) = (200, []) by
                rw [HV.out, if_pos]
                rw [List.any_eq_true]
                refine ⟨curZ (zB s) k, List.mem_map.2 ⟨k, List.mem_range.2 hlt, rfl⟩, ?_⟩
                rw [HBIG.out, decide_eq_true_eq]
                omega)
              go_wp2_with fail
              go_ret2
              exact ⟨.slice none 0 0, by rw [HVV.out]; rfl, by rw [HVV.out]; exact World.ownsRow_nil _ _ _ _, hbX⟩
            · have d1 : decide (9223372036854775807 < x1) = false := decide_eq_false h1
              by_cases h2 : 9223372036854775807 < x2
              · skip
                have HVV := Lib.hid (show unpackV (zB s) = (200, []) by
                  rw [HV.out, if_pos]
                  rw [List.any_eq_true]
                  refine ⟨curZ (zB s) k, List.mem_map.2 ⟨k, List.mem_range.2 hlt, rfl⟩, ?_⟩
                  rw [HBIG.out, decide_eq_true_eq]
                  omega)
                go_wp2_with fail
                go_ret2
                exact ⟨.slice none 0 0, by rw [HVV.out]; rfl, by rw [HVV.out]; exact World.ownsRow_nil _ _ _ _, hbX⟩
              · have d2 : decide (9223372036854775807 < x2) = false := decide_eq_false h2
                by_cases h3 : 9223372036854775807 < x3
                · skip
                  have HVV := Lib.hid (show unpackV (zB s) = (200, []) by
                    rw [HV.out, if_pos]
                    rw [List.any_eq_true]
                    refine ⟨curZ (zB s) k, List.mem_map.2 ⟨k, List.mem_range.2 hlt, rfl⟩, ?_⟩
                    rw [HBIG.out, decide_eq_true_eq]
                    omega)
                  go_wp2_with fail
                  go_ret2
                  exact ⟨.slice none 0 0, by rw [HVV.out]; rfl, by rw [HVV.out]; exact World.ownsRow_nil _ _ _ _, hbX⟩
                · have d3 : decide (9223372036854775807 < x3) = false := decide_eq_false h3
                  have hx0' : x0 ≤ 4294967295 := by omega
                  have hx1' : x1 ≤ 9223372036854775807 := by omega
                  have hx2' : x2 ≤ 9223372036854775807 := by omega
                  have hx3' : x3 ≤ 9223372036854775807 := by omega
                  have HOK := Lib.hid (show bigC (curZ (zB s) k) = false by rw [HBIG.out]; exact decide_eq_false (by omega))
                  have HST := Lib.hid (unp_step (zB s) k)
                  rw [HCZ.out] at HST
                  have hszX := hbX.size
                  clear h0 h1 h2 h3 b0' b1' b2' b3'
                  go_wp2_with (at_builtin; refine wpList_append_own _ rfl _ _ 22 rfl w.heap.size 36 i0 (.agg #[.int .u32 0, .int .i64 0, .int .i64 0, .int .i64 0]) 4 32 Tryd.underlying22 hi hz0 hz1 hz2 rfl (by decide) u4 _ _ rfl (hOX.out.alloc _) ⟨X.heap.size, 0, none⟩ 1 1 [.int .u32 x0, .int .i64 x1, .int .i64 x2, .int .i64 x3] rfl (by simp) (cells_new _ _ _) (by simp [Value.oneCell']) (by unfold maxLen; omega) (by omega) (by rw [World.size_alloc]; omega) ?_; intro v4 w4 hown4 hgrow4 _)
                  have hb4 : Below w.heap.size w w4 := (al hbX _).grown hgrow4 (by rw [World.size_alloc]; omega) (fun q e => (hOX.out.lt q e).1)
                  exact ⟨⟨k + 1, p + 32, by go_num, by rw [HP.out]; omega, by omega, Lib.hid (fun j hj => by rcases Nat.lt_succ_iff_lt_or_eq.1 hj with h | rfl; exact hok.out j h; exact HOK.out), Lib.hid (by rw [← HST.out]; exact hown4), hb4⟩, by simp [intOf]; omega⟩
        · obtain rfl : k = n := by omega
          have hps : p = s.size := by omega
          subst hps
          have hbn : (unpZ (zB s) k).any bigC = false := by
            cases hc : (unpZ (zB s) k).any bigC
            · rfl
            · obtain ⟨x, hx, h2⟩ := List.any_eq_true.1 hc
              obtain ⟨j, hj, rfl⟩ := List.mem_map.1 hx
              rw [hok.out j (List.mem_range.1 hj)] at h2
              cases h2
          have HVV := Lib.hid (show unpackV (zB s) = if wrongN (unpZ (zB s) k) ≠ 0 then (200, []) else (0, unpZ (zB s) k) by rw [HV.out, if_neg (by rw [hbn]; simp)])
          have hlen := unpZ_len (zB s) k
          obtain ⟨a5, c5, e5, hl5, hr5⟩ := ReadsC.owned hO.out
          rw [hlen] at e5
          subst e5
          have HW := Lib.hid (refwrong_any a5 c5 (unpZ (zB s) k) k hlen (by omega) wr hr5)
          obtain ⟨er, her⟩ : ∃ er, wrongN (unpZ (zB s) k) = er := ⟨_, rfl⟩
          rw [her] at HW HVV
          have HLEN := Lib.hid hlen
          clear hbn her hl5 hr5 hlen hsz
          by_cases hz : er = 0
          · subst hz
            have HV2 := Lib.hid (show unpackV (zB s) = (0, unpZ (zB s) k) by rw [HVV.out, if_neg (by simp)])
            go_wp2_with (go_at_call 43; (with_reducible refine HW.out.mono ?_); rintro e w6 ⟨rfl, hb6⟩)
            go_ret2
            refine ⟨_, by rw [HV2.out]; rfl, ?_, nx hb hb6⟩
            rw [HV2.out]
            show w6.ownsRow _ _ _ _ (unpZ (zB s) k).length ((unpZ (zB s) k).flatMap cuC)
            rw [HLEN.out]
            exact owns_below hO.out hb6 (Nat.le_refl _)
          · have HV2 := Lib.hid (show unpackV (zB s) = (200, []) by rw [HVV.out, if_pos hz])
            have hne : (er != 0) = true := bne_iff_ne.2 hz
            clear hz
            go_wp2_with (go_at_call 43; (with_reducible refine HW.out.mono ?_); rintro e w6 ⟨rfl, hb6⟩)
            go_ret2
            exact ⟨.slice none 0 0, by rw [HV2.out]; rfl, by rw [HV2.out]; exact World.ownsRow_nil _ _ _ _, nx hb hb6⟩
end Go.Proofs.YtfoppbignompkaaDoor

namespace Go.Proofs.YtfoppbignompkaaDoor
open Go.RowKit

/-- Pack's text -/
def packS (zs : List Cu) : ByteArray := if wrongN zs = 0 then strOfNums (packZ zs) else ⟨#[]⟩
theorem pack_all (ao : Option Addr) (cap : Nat) (zs : List Cu) (n : Nat) (hl : zs.length = n) (hn : n ≤ 140737488351232) (hz : IntsC zs) (hz2 : WordsC zs) (w : World) (hR : ReadsC w ao zs) :
    Calls Tryd.prog 31 #[.slice ao n cap] w fun e w' => e = .returned (.tuple #[.string (packS zs), .int .i64 (wrongN zs)]) ∧ Below w.heap.size w w' := by
  unfold packS
  by_cases h : wrongN zs = 0
  · rw [if_pos h, h]
    exact pack_ok ao cap zs n hl h hz hz2 w hR
  · rw [if_neg h]
    exact pack_bad ao cap zs n hl hn _ rfl h w hR
theorem refpack_all (ao : Option Addr) (cap : Nat) (zs : List Cu) (n : Nat) (hl : zs.length = n) (hn : n ≤ 140737488351232) (hz : IntsC zs) (hz2 : WordsC zs) (w : World) (hR : ReadsC w ao zs) :
    Calls Tryd.prog 32 #[.slice ao n cap] w fun e w' => e = .returned (.tuple #[.string (packS zs), .int .i64 (wrongN zs)]) ∧ Below w.heap.size w w' := by
  unfold packS
  by_cases h : wrongN zs = 0
  · rw [if_pos h, h]
    exact refpack_ok ao cap zs n hl h hz hz2 w hR
  · rw [if_neg h]
    exact refpack_bad ao cap zs n hl hn _ rfl h w hR
theorem unpackV_len (l : List Int) : (unpackV l).2.length ≤ 8 := by
  unfold unpackV
  split
  · exact Nat.zero_le _
  · split
    · exact Nat.zero_le _
    · split
      · exact Nat.zero_le _
      · split
        · exact Nat.zero_le _
        · show (unpZ l (l.length / 32)).length ≤ 8
          rw [unpZ_len]
          omega
theorem readsP {w : World} {base e n : Nat} {ao : Option Addr} {c : Nat} {L : List Cu} (h : w.ownsRow base e 4 (.slice ao n c) n (L.flatMap cuC)) : ReadsC w ao L := by
  obtain ⟨a9, c9, e9, -, h9⟩ := ReadsC.owned h
  injection e9 with e1 e2 e3
  rw [e1]
  exact h9
theorem own_later {w w' : World} {base : Nat} {e : TypeId} {size : Nat} {v : Value} {n : Nat} {xs : List Value} (h : w.ownsRow base e size v n xs) (hb : Below w.heap.size w w') : w'.ownsRow base e size v n xs := owns_below h hb (Nat.le_refl _)
theorem apartP_two (n : Nat) (hn : n ≤ 1048576) (v1 v2 : Value) (xs1 xs2 : List Value) (B : Nat) (w : World) (hB : B ≤ w.heap.size)
    (h1 : HRow w B 36 4 v1 n xs1) (h2 : HRow w B 36 4 v2 n xs2) (hne : ∀ g, v1.ownBlock = some g → v2.ownBlock ≠ some g) :
    Calls Tryd.prog 18 #[.slice (some ⟨w.heap.size, 0, none⟩) 2 2] (w.alloc (.cells #[v1, v2] 22)) fun e w' => e = .returned (.bool true) ∧ Below B w w' := by
  have hal : Below w.heap.size w (w.alloc (.cells #[v1, v2] 22)) := (Below.refl _ _).alloc (Nat.le_refl _) _
  have two : ∀ j, j < 2 → j = 0 ∨ j = 1 := fun j hj => by omega
  refine (apartC_any 2 (by decide) (fun _ => n) (fun _ _ => hn) (fun j => if j = 0 then v1 else v2) (fun j => if j = 0 then xs1 else xs2) w.heap.size B _ (Nat.le_trans hB hal.size) (by rw [World.size_alloc]; omega) ?_ ?_ ?_ ?_).mono ?_
  · intro j hj
    rcases two j hj with rfl | rfl
    · exact h1.below hal (Nat.le_refl _)
    · exact h2.below hal (Nat.le_refl _)
  · intro j hj
    have := cells_new w [v1, v2] 22 j
    rw [Addr.add_lit, Nat.zero_add] at this
    rcases two j hj with rfl | rfl
    · exact this _ rfl
    · exact this _ rfl
  · intro i j g hij hi hj hg
    rcases two i hi with rfl | rfl <;> rcases two j hj with rfl | rfl
    · exact absurd rfl hij
    · exact hne g hg
    · exact fun e => hne g e hg
    · exact absurd rfl hij
  · intro j hj e
    rcases two j hj with rfl | rfl
    · exact absurd (h1.lt _ e).2 (Nat.lt_irrefl _)
    · exact absurd (h2.lt _ e).2 (Nat.lt_irrefl _)
  · rintro e w' ⟨rfl, hb⟩
    exact ⟨rfl, (hal.mono hB).trans hb⟩
theorem own_two {w2 w3 : World} {b1 e n m : Nat} {size : Nat} {v1 v2 : Value} {xs ys : List Value} (h1 : w2.ownsRow b1 e size v1 n xs) (h2 : w3.ownsRow w2.heap.size e size v2 m ys) : ∀ g, v1.ownBlock = some g → v2.ownBlock ≠ some g := fun g hg hg2 => by
  have := (h1.lt g hg).2
  have := (h2.lt g hg2).1
  omega

set_option maxRecDepth 100000 in
set_option maxHeartbeats 8000000 in
theorem cursorsPacks_any (ao : Option Addr) (n cap : Nat) (zs : List Cu) (hl : zs.length = n) (hn : n ≤ 4398046510976) (hz : IntsC zs) (hz2 : WordsC zs) (s : ByteArray) (hs : s.size ≤ 140737488351232) (w : World) (hT : Tabs w) (hS : SrcC w ao cap zs) :
    Calls Tryd.prog 10 #[.slice ao n cap, .string s] w fun e w' => e = .returned (.bool true) ∧ Below w.heap.size w w' := by
  have HT := Lib.hid hT
  have HAW := Lib.hid (fun w hT => cawake_any w hT)
  have HSP := Lib.hid (spareC_any ao cap n zs hl hn w hS)
  have HPK := Lib.hid (fun g c w hR => pack_all (some ⟨g, 0, none⟩) c zs n hl (by omega) hz hz2 w hR)
  have HRP := Lib.hid (fun w hR => refpack_all ao cap zs n hl (by omega) hz hz2 w hR)
  have HR := Lib.hid hS.reads
  have HKP := Lib.hid (fun g c hc w hA hR => keptC_any ao cap n g c zs hn hc w hA hR)
  have HL := Lib.hid hl
  have HU := Lib.hid (fun w => unpack_any s hs w)
  have HRU := Lib.hid (fun w => refunpack_any s hs w)
  have hL8 := unpackV_len (zB s)
  obtain ⟨⟨er, L⟩, hV⟩ : ∃ p, unpackV (zB s) = p := ⟨_, rfl⟩
  rw [hV] at HU HRU hL8
  obtain ⟨m, hm⟩ : ∃ m, L.length = m := ⟨_, rfl⟩
  simp only at HU HRU hL8
  rw [hm] at HU HRU hL8
  have HSM := Lib.hid (fun a b ca cb w hA hB => same_any a b m ca cb L hm (by omega) w hA hB)
  have HAP := Lib.hid (fun v1 v2 xs1 xs2 B w hB h1 h2 hne => apartP_two m (by omega) v1 v2 xs1 xs2 B w hB h1 h2 hne)
  obtain ⟨PS, hPS⟩ : ∃ x, packS zs = x := ⟨_, rfl⟩
  obtain ⟨we, hwe⟩ : ∃ x, wrongN zs = x := ⟨_, rfl⟩
  rw [hPS, hwe] at HPK HRP
  clear hT hS hl hV hm hz hz2 hPS hwe
  go_enter Tryd.func10, Tryd.ntmps10
  go_wp2_with (first
    | (go_at_call 13; (with_reducible refine HSP.out.mono ?_); rintro e w1 ⟨g, c, hc, rfl, ho1, hb1⟩; have SP1 := Lib.hid (SpareC.of_own HL.out ho1); clear ho1)
    | (go_at_call 31; (with_reducible refine (HPK.out g c w1 SP1.out.reads).mono ?_); rintro e w2 ⟨rfl, hb2⟩; have SP2 := Lib.hid (SP1.out.below hb2); have hB2 := Lib.hid (nx hb1 hb2))
    | (go_at_call 32; (with_reducible refine (HRP.out _ (HR.out.below hB2.out)).mono ?_); rintro e w3 ⟨rfl, hb3⟩; have SP3 := Lib.hid (SP2.out.below hb3); have hB3 := Lib.hid (nx hB2.out hb3))
    | (go_at_call 17; (with_reducible refine (HKP.out g c hc w3 (HR.out.below hB3.out) SP3.out).mono ?_); rintro e w4 ⟨rfl, hb4⟩; have hB4 := Lib.hid (nx hB3.out hb4))
    | (go_at_call 33; (with_reducible refine (HU.out w4).mono ?_); rintro e w5 ⟨va, rfl, ho5, hb5⟩; have hO5 := Lib.hid ho5; obtain ⟨p5, c5, rfl⟩ := (HRow.of_own ho5).form; clear ho5; have hB5 := Lib.hid (nx hB4.out hb5))
    | (go_at_call 33; (with_reducible refine (HU.out w5).mono ?_); rintro e w6 ⟨vb, rfl, ho6, hb6⟩; have hO6 := Lib.hid ho6; obtain ⟨p6, c6, rfl⟩ := (HRow.of_own ho6).form; clear ho6; have hB6 := Lib.hid (nx hB5.out hb6))
    | (go_at_call 34; (with_reducible refine (HRU.out w6).mono ?_); rintro e w7 ⟨vw, rfl, ho7, hb7⟩; have hO7 := Lib.hid ho7; obtain ⟨p7, c7, rfl⟩ := (HRow.of_own ho7).form; clear ho7; have hB7 := Lib.hid (nx hB6.out hb7))
    | (go_at_call 16; (with_reducible refine (HSM.out p5 p7 c5 c7 w7 (readsP (own_later (own_later hO5.out hb6) hb7)) (readsP hO7.out)).mono ?_); rintro e w8 ⟨rfl, hb8⟩; have hB8 := Lib.hid (nx hB7.out hb8))
    | (go_at_call 16; (with_reducible refine (HSM.out p6 p7 c6 c7 w8 (readsP (own_later (own_later hO6.out hb7) hb8)) (readsP (own_later hO7.out hb8))).mono ?_); rintro e w9 ⟨rfl, hb9⟩; have hB9 := Lib.hid (nx hB8.out hb9); have H79 := Lib.hid (nx (nx hb7 hb8) hb9); have HA9 := Lib.hid (HRow.of_own (own_later hO5.out (nx hb6 H79.out))); have HV9 := Lib.hid ((HRow.of_own (own_later hO6.out H79.out)).lower hb5.size); have HN9 := Lib.hid (own_two hO5.out hO6.out); have H49 := Lib.hid (nx (nx hb5 hb6) H79.out))
    | (go_at_call 18; (with_reducible refine (HAP.out _ _ _ _ w4.heap.size w9 H49.out.size HA9.out HV9.out HN9.out).mono ?_); rintro e w10 ⟨rfl, hb10⟩; have hB10 := Lib.hid (hB9.out.trans (hb10.mono hB4.out.size)))
    | (go_at_call 19; (with_reducible refine (HAW.out _ (HT.out.below hB10.out (Nat.le_refl _))).mono ?_); rintro e w11 ⟨rfl, hb11⟩; have hB11 := nx hB10.out hb11))
  go_ret
  exact ⟨rfl, hB11⟩
end Go.Proofs.YtfoppbignompkaaDoor

namespace Go.Proofs.YtfoppbignompkaaDoor
open Go.ChangeShapes Go.WideShapes Go.ChangeAt Go.RowKit Go.Deep

theorem arrayC4 {α : Type} {cs : Array α} (h : cs.size = 4) : ∃ c0 c1 c2 c3, cs = #[c0, c1, c2, c3] := by
  obtain ⟨l⟩ := cs
  match l, h with
  | [c0, c1, c2, c3], _ => exact ⟨c0, c1, c2, c3, rfl⟩
theorem arrayC3 {α : Type} {cs : Array α} (h : cs.size = 3) : ∃ c0 c1 c2, cs = #[c0, c1, c2] := by
  obtain ⟨l⟩ := cs
  match l, h with
  | [c0, c1, c2], _ => exact ⟨c0, c1, c2, rfl⟩
theorem listC4 {α : Type} {cs : List α} (h : cs.length = 4) : ∃ c0 c1 c2 c3, cs = [c0, c1, c2, c3] := by
  match cs, h with
  | [c0, c1, c2, c3], _ => exact ⟨c0, c1, c2, c3, rfl⟩
theorem listC3 {α : Type} {cs : List α} (h : cs.length = 3) : ∃ c0 c1 c2, cs = [c0, c1, c2] := by
  match cs, h with
  | [c0, c1, c2], _ => exact ⟨c0, c1, c2, rfl⟩
theorem cells_intC : Tryd.prog.cellsOf 3 = 1 := by kernel_rfl
theorem cells_u32C : Tryd.prog.cellsOf 34 = 1 := by kernel_rfl
theorem cells_curC : Tryd.prog.cellsOf 36 = 4 := by kernel_rfl
theorem cells_editC : Tryd.prog.cellsOf 24 = 3 := by kernel_rfl
/-- the bounds of a cursor's numbers -/
def CuB (c : Cu) : Prop := (0 ≤ c.1 ∧ c.1 ≤ 4294967295) ∧ (-9223372036854775808 ≤ c.2.1 ∧ c.2.1 ≤ 9223372036854775807) ∧ (-9223372036854775808 ≤ c.2.2.1 ∧ c.2.2.1 ≤ 9223372036854775807) ∧ (-9223372036854775808 ≤ c.2.2.2 ∧ c.2.2.2 ≤ 9223372036854775807)
theorem ints_of {zs : List Cu} (h : ∀ c ∈ zs, CuB c) : IntsC zs := fun k hk => by
  have := h _ (List.getElem_mem hk)
  rw [List.getElem?_eq_getElem hk]
  exact ⟨this.2.1.2, this.2.2.1.2, this.2.2.2.2⟩
theorem words_of {zs : List Cu} (h : ∀ c ∈ zs, CuB c) : WordsC zs := fun k hk => by
  have := h _ (List.getElem_mem hk)
  rw [List.getElem?_eq_getElem hk]
  exact this.1

theorem trod_cu {H : Type} {enc : TypeId × Value → H} {W : World} {base : Nat} {spare : Nat → Bool} {held : Bool} {fuel : Nat} {cs : List Value} {y : DataW H × List MemPlace}
    (hf : DataW.trod enc Tryd.prog W base spare held fuel 36 cs = some y) : ∃ x : Cu, cs = cuC x ∧ (∃ ps, y.1 = .agg ps) ∧ y = (.agg [.lit (.int .u32 x.1), .lit (.int .i64 x.2.1), .lit (.int .i64 x.2.2.1), .lit (.int .i64 x.2.2.2)], []) ∧ CuB x := by
  obtain ⟨xs, n, _, hx, hcl, hlen, hfs⟩ := DataW.trod_struct Tryd.underlying36 hf
  obtain ⟨c0, c1, c2, c3, rfl⟩ := listC4 (hcl.trans cells_curC)
  obtain ⟨x0, x1, x2, x3, rfl⟩ := listC4 (hlen.trans rfl)
  have t0 := hfs 0 _ rfl
  have t1 := hfs 1 _ rfl
  have t2 := hfs 2 _ rfl
  have t3 := hfs 3 _ rfl
  simp [cells_intC, cells_u32C] at t0 t1 t2 t3
  obtain ⟨i, e0, rfl, w0⟩ := DataW.trod_int Tryd.underlying34 t0
  obtain ⟨a, e1, rfl, w1⟩ := DataW.trod_int Tryd.underlying3 t1
  obtain ⟨d, e2, rfl, w2⟩ := DataW.trod_int Tryd.underlying3 t2
  obtain ⟨g, e3, rfl, w3⟩ := DataW.trod_int Tryd.underlying3 t3
  simp at e0 e1 e2 e3
  subst e0 e1 e2 e3
  exact ⟨(i, a, d, g), rfl, ⟨_, by rw [hx]⟩, by rw [hx]; rfl, bounds_u32 w0, bounds_i64 w1, bounds_i64 w2, bounds_i64 w3⟩

set_option maxRecDepth 100000 in
theorem open_cursor {H : Type} {enc : TypeId × Value → H} {W : World} {base : Nat} {spare : Nat → Bool} {held : Bool} {r : Reach} {b0 : Nat} {v : Value} {d : DataW H} {p : List MemPlace}
    (hv : Value.okWide Tryd.prog W r b0 36 v) (h : DataW.Trod enc Tryd.prog W base spare held 36 v d p) :
    ∃ c : Cu, v = .agg #[.int .u32 c.1, .int .i64 c.2.1, .int .i64 c.2.2.1, .int .i64 c.2.2.2] ∧ d = .agg [.lit (.int .u32 c.1), .lit (.int .i64 c.2.1), .lit (.int .i64 c.2.2.1), .lit (.int .i64 c.2.2.2)] ∧ p = [] ∧ CuB c := by
  obtain ⟨cs, rfl, hsz⟩ := okWide_struct Tryd.underlying36 hv
  obtain ⟨c0, c1, c2, c3, rfl⟩ := arrayC4 (hsz.trans cells_curC)
  obtain ⟨fuel, hf⟩ := h
  obtain ⟨x, hx, -, hy, hb⟩ := trod_cu hf
  have hcs : [c0, c1, c2, c3] = cuC x := by simpa [Value.cells] using hx
  simp only [cuC, List.cons.injEq, and_true] at hcs
  obtain ⟨rfl, rfl, rfl, rfl⟩ := hcs
  obtain ⟨rfl, rfl⟩ := Prod.mk.inj hy
  exact ⟨x, rfl, rfl, rfl, hb⟩
set_option maxRecDepth 100000 in
theorem open_edit {H : Type} {enc : TypeId × Value → H} {W : World} {base : Nat} {spare : Nat → Bool} {held : Bool} {r : Reach} {b0 : Nat} {v : Value} {d : DataW H} {p : List MemPlace}
    (hv : Value.okWide Tryd.prog W r b0 24 v) (h : DataW.Trod enc Tryd.prog W base spare held 24 v d p) :
    ∃ a o i : Int, v = .agg #[.int .i64 a, .int .i64 o, .int .i64 i] ∧ d = .agg [.lit (.int .i64 a), .lit (.int .i64 o), .lit (.int .i64 i)] ∧ p = [] ∧
      (-9223372036854775808 ≤ a ∧ a ≤ 9223372036854775807) ∧ (-9223372036854775808 ≤ o ∧ o ≤ 9223372036854775807) ∧ (-9223372036854775808 ≤ i ∧ i ≤ 9223372036854775807) := by
  obtain ⟨cs, rfl, hsz⟩ := okWide_struct Tryd.underlying24 hv
  obtain ⟨c0, c1, c2, rfl⟩ := arrayC3 (hsz.trans cells_editC)
  obtain ⟨fuel, hf⟩ := h
  obtain ⟨xs, n, _, hx, hcl, hlen, hfs⟩ := DataW.trod_struct Tryd.underlying24 hf
  obtain ⟨x0, x1, x2, rfl⟩ := listC3 (hlen.trans rfl)
  have t0 := hfs 0 _ rfl
  have t1 := hfs 1 _ rfl
  have t2 := hfs 2 _ rfl
  simp [Value.cells, cells_intC] at t0 t1 t2
  obtain ⟨a, e0, rfl, w0⟩ := DataW.trod_int Tryd.underlying3 t0
  obtain ⟨o, e1, rfl, w1⟩ := DataW.trod_int Tryd.underlying3 t1
  obtain ⟨i, e2, rfl, w2⟩ := DataW.trod_int Tryd.underlying3 t2
  simp at e0 e1 e2 hx
  subst e0 e1 e2
  exact ⟨a, o, i, rfl, hx.1, hx.2, bounds_i64 w0, bounds_i64 w1, bounds_i64 w2⟩

set_option maxRecDepth 100000 in
theorem open_cursors {H : Type} {enc : TypeId × Value → H} {W : World} {base : Nat} {spare : Nat → Bool} {held : Bool} {r : Reach} {b0 : Nat} {v : Value} {d : DataW H} {p : List MemPlace}
    (hv : Value.okWide Tryd.prog W r b0 22 v) (h : DataW.Trod enc Tryd.prog W base spare held 22 v d p) (hw : ∀ n ∈ DataW.weights Tryd.prog 22 d, n ≤ reachBytes) :
    ∃ (ao : Option Addr) (n cap : Nat) (zs : List Cu), v = .slice ao n cap ∧ zs.length = n ∧ n ≤ 4398046510976 ∧ SrcC W ao cap zs ∧ ∀ c ∈ zs, CuB c := by
  obtain ⟨ao, n, cap, rfl⟩ := okWide_slice Tryd.underlying22 hv
  obtain ⟨fuel, hf⟩ := h
  rcases open_slice Tryd.underlying22 hf with ⟨hcs, _⟩ | ⟨a, len, cap', m, n', D, Pl, hcs, hba, hlc, _, hm, hx, hall⟩
  · simp [Value.cells] at hcs
    obtain ⟨rfl, rfl, rfl⟩ := hcs
    exact ⟨none, 0, 0, [], rfl, rfl, by omega, .inl ⟨rfl, rfl, rfl⟩, fun c hc => by cases hc⟩
  · simp [Value.cells] at hcs
    obtain ⟨rfl, rfl, rfl⟩ := hcs
    have hd : d = .slice ((List.range n).map D) ((List.range (m - n)).map fun j => D (n + j)) := congrArg Prod.fst hx
    subst hd
    have hnm : n ≤ m := by rw [hm]; split <;> omega
    have hbytes := hw ((((List.range n).map D).length + ((List.range (m - n)).map fun j => D (n + j)).length) * Tryd.prog.bytesOf 36) (by simp [DataW.weights, Tryd.underlying22])
    have hb32 : Tryd.prog.bytesOf 36 = 32 := by kernel_rfl
    rw [hb32] at hbytes
    simp [reachBytes] at hbytes
    have key : ∀ i, i < n → ∃ x : Cu, CuB x ∧ ∀ j, j < 4 → W.cell? (a.add (i * 4 + j)) = (cuC x)[j]? := by
      intro i hi
      obtain ⟨cs', hc, ht⟩ := hall i (by omega)
      rw [cells_curC] at hc
      obtain ⟨x, rfl, -, -, hb⟩ := trod_cu ht
      obtain ⟨_, hlen, hcell⟩ := World.cells?_some hc
      refine ⟨x, hb, fun j hj => ?_⟩
      have := hcell j hj
      rwa [Addr.add_add] at this
    obtain ⟨f, hf⟩ : ∃ f : Nat → Cu, ∀ i, i < n → (CuB (f i) ∧ ∀ j, j < 4 → W.cell? (a.add (i * 4 + j)) = (cuC (f i))[j]?) := choose_lt key
    have hget : ∀ i, i < n → ((List.range n).map f)[i]?.getD cuZ = f i := fun i hi => by
      rw [List.getElem?_map, List.getElem?_range hi]
      rfl
    refine ⟨some a, n, cap, (List.range n).map f, rfl, by simp, by omega, .inr ⟨a, rfl, fun j u hj => ?_⟩, fun c hc => ?_⟩
    · obtain ⟨hjl, _⟩ := List.getElem?_eq_some_iff.1 hj
      rw [flat4c_len, List.length_map, List.length_range] at hjl
      have hi : j / 4 < n := by omega
      have h4 : j % 4 < 4 := by omega
      have hjd : j / 4 * 4 + j % 4 = j := by omega
      have h1 := flat4c_at ((List.range n).map f) (j / 4) (j % 4) (by simpa using hi) h4
      rw [hjd, hget _ hi, hj] at h1
      have h2 := (hf _ hi).2 _ h4
      rw [hjd] at h2
      rw [h2, h1]
    · obtain ⟨i, hi, rfl⟩ := List.mem_map.1 hc
      exact (hf i (List.mem_range.1 hi)).1
end Go.Proofs.YtfoppbignompkaaDoor
