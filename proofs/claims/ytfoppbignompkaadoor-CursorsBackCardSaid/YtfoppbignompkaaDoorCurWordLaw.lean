/-
  Words of eight bytes, and lists of cursors out of them: the plain law of packing there and back.
-/
import Derived.Test.YtfoppbignompkaaDoorCurCheck
namespace Go.Proofs.YtfoppbignompkaaDoor
open Go.RowKit

/-- the number of bytes, the lowest first -/
def leV : List Int → Int
  | [] => 0
  | b :: r => b + 256 * leV r
def Bytes (l : List Int) : Prop := ∀ b ∈ l, 0 ≤ b ∧ b ≤ 255
theorem Bytes.tail {b : Int} {l : List Int} (h : Bytes (b :: l)) : Bytes l := fun x hx => h x (List.mem_cons_of_mem _ hx)
theorem Bytes.drop {l : List Int} (h : Bytes l) (n : Nat) : Bytes (l.drop n) := fun x hx => h x (List.mem_of_mem_drop hx)
theorem Bytes.take {l : List Int} (h : Bytes l) (n : Nat) : Bytes (l.take n) := fun x hx => h x (List.mem_of_mem_take hx)
theorem leV_bound : ∀ l : List Int, Bytes l → 0 ≤ leV l ∧ leV l < 256 ^ l.length
  | [], _ => by simp [leV]
  | b :: l, h => by
    obtain ⟨h1, h2⟩ := leV_bound l h.tail
    obtain ⟨h3, h4⟩ := h b List.mem_cons_self
    rw [List.length_cons, Int.pow_succ]
    show 0 ≤ b + 256 * leV l ∧ b + 256 * leV l < _
    omega
theorem leZ_cons (x : Int) (m : Nat) : leZ x (m + 1) = x % 256 :: leZ (x / 256) m := by
  unfold leZ
  rw [List.range_succ_eq_map, List.map_cons, List.map_map]
  congr 1
  · simp
  · apply List.map_congr_left
    intro k _
    show x / 256 ^ (k + 1) % 256 = x / 256 / 256 ^ k % 256
    rw [Int.ediv_ediv_of_nonneg (by omega), Int.pow_succ, Int.mul_comm]
theorem leZ_leV : ∀ l : List Int, Bytes l → leZ (leV l) l.length = l
  | [], _ => rfl
  | b :: l, h => by
    obtain ⟨h3, h4⟩ := h b List.mem_cons_self
    rw [List.length_cons, leZ_cons]
    have e1 : leV (b :: l) % 256 = b := by show (b + 256 * leV l) % 256 = b; omega
    have e2 : leV (b :: l) / 256 = leV l := by show (b + 256 * leV l) / 256 = leV l; omega
    rw [e1, e2, leZ_leV l h.tail]
theorem leV_leZ (m : Nat) : ∀ x : Int, 0 ≤ x → x < 256 ^ m → leV (leZ x m) = x := by
  induction m with
  | zero => intro x h1 h2; have : x < 1 := h2; show (0 : Int) = x; omega
  | succ m ih =>
    intro x h1 h2
    rw [Int.pow_succ] at h2
    rw [leZ_cons]
    show x % 256 + 256 * leV (leZ (x / 256) m) = x
    rw [ih (x / 256) (by omega) (by omega)]
    omega
theorem leZ_bytes (x : Int) (m : Nat) : Bytes (leZ x m) := by
  intro b hb
  obtain ⟨k, _, rfl⟩ := List.mem_map.1 hb
  omega
/-- the word at a place -/
def wdZ (l : List Int) (at_ : Nat) : Int := leV ((l.drop at_).take 8)
theorem wdZ_bound (l : List Int) (h : Bytes l) (p : Nat) (hp : p + 8 ≤ l.length) : 0 ≤ wdZ l p ∧ wdZ l p ≤ 18446744073709551615 := by
  have := leV_bound _ ((h.drop p).take 8)
  rw [List.length_take, List.length_drop, Nat.min_eq_left (by omega)] at this
  unfold wdZ
  have e : (256 : Int) ^ 8 = 18446744073709551616 := by decide +kernel
  omega
theorem wdZ_le (l : List Int) (h : Bytes l) (p : Nat) (hp : p + 8 ≤ l.length) : leZ (wdZ l p) 8 = (l.drop p).take 8 := by
  have := leZ_leV _ ((h.drop p).take 8)
  rw [List.length_take, List.length_drop, Nat.min_eq_left (by omega)] at this
  exact this
/-- the last m of the eight bytes -/
theorem wd_step (l : List Int) (p m : Nat) (hm : m < 8) (hp : p + 8 ≤ l.length) :
    leV (((l.drop p).take 8).drop (8 - (m + 1))) = leV (((l.drop p).take 8).drop (8 - m)) * 256 + l[p + (7 - m)]?.getD 0 := by
  have hlen : ((l.drop p).take 8).length = 8 := by rw [List.length_take, List.length_drop]; omega
  rw [List.drop_eq_getElem_cons (by omega), show 8 - (m + 1) + 1 = 8 - m by omega]
  show _ + 256 * _ = _
  have e : ((l.drop p).take 8)[8 - (m + 1)]'(by omega) = l[p + (7 - m)]?.getD 0 := by
    rw [List.getElem_take, List.getElem_drop, List.getElem?_eq_getElem (by omega)]
    simp only [Option.getD_some]
    congr 1
    omega
  rw [e]
  omega
theorem wd_zero (l : List Int) (p : Nat) : leV (((l.drop p).take 8).drop (8 - 0)) = 0 := by
  rw [List.drop_of_length_le (by rw [List.length_take]; omega)]
  rfl
theorem wd_full (l : List Int) (p : Nat) : leV (((l.drop p).take 8).drop (8 - 8)) = wdZ l p := rfl
theorem wd_part (l : List Int) (h : Bytes l) (p m : Nat) (hm : m < 8) : 0 ≤ leV (((l.drop p).take 8).drop (8 - m)) ∧ leV (((l.drop p).take 8).drop (8 - m)) < 72057594037927936 := by
  obtain ⟨h1, h2⟩ := leV_bound _ (((h.drop p).take 8).drop (8 - m))
  refine ⟨h1, ?_⟩
  have hlen : (((l.drop p).take 8).drop (8 - m)).length ≤ 7 := by rw [List.length_drop, List.length_take]; omega
  have h3 : (256 : Int) ^ (((l.drop p).take 8).drop (8 - m)).length ≤ 256 ^ 7 := by
    obtain ⟨k, hk⟩ : ∃ k, (((l.drop p).take 8).drop (8 - m)).length = k := ⟨_, rfl⟩
    rw [hk] at hlen ⊢
    have : ∀ k, k ≤ 7 → (256 : Int) ^ k ≤ 256 ^ 7 := by decide +kernel
    exact this k hlen
  have e : (256 : Int) ^ 7 = 72057594037927936 := by decide +kernel
  omega

/-- the cursor at a number -/
def curZ (l : List Int) (k : Nat) : Cu := (wdZ l (32 * k), wdZ l (32 * k + 8), wdZ l (32 * k + 16), wdZ l (32 * k + 24))
def unpZ (l : List Int) (k : Nat) : List Cu := (List.range k).map (curZ l)
theorem unpZ_len (l : List Int) (k : Nat) : (unpZ l k).length = k := by simp [unpZ]
theorem unpZ_succ (l : List Int) (k : Nat) : unpZ l (k + 1) = unpZ l k ++ [curZ l k] := by unfold unpZ; rw [List.range_succ, List.map_append]; rfl
theorem unpZ_get (l : List Int) (n k : Nat) (h : k < n) : (unpZ l n)[k]?.getD cuZ = curZ l k := by
  unfold unpZ
  rw [List.getElem?_map, List.getElem?_range h]
  rfl
theorem packZ_append (a b : List Cu) : packZ (a ++ b) = packZ a ++ packZ b := by unfold packZ; rw [List.flatMap_append]
theorem packZ_one (c : Cu) : packZ [c] = leZ c.1 8 ++ leZ c.2.1 8 ++ leZ c.2.2.1 8 ++ leZ c.2.2.2 8 := by
  simp [packZ, wordC]
theorem four_eights (l : List Int) (p : Nat) : (l.drop p).take 8 ++ (l.drop (p + 8)).take 8 ++ (l.drop (p + 16)).take 8 ++ (l.drop (p + 24)).take 8 = (l.drop p).take 32 := by
  have e : ∀ a b : Nat, (l.drop p).take (a + b) = (l.drop p).take a ++ (l.drop (p + a)).take b := fun a b => by rw [List.take_add, List.drop_drop]
  rw [show (32 : Nat) = 24 + 8 from rfl, e 24 8, show (24 : Nat) = 16 + 8 from rfl, e 16 8, show (16 : Nat) = 8 + 8 from rfl, e 8 8]
theorem pack_unp (l : List Int) (h : Bytes l) : ∀ k, 32 * k ≤ l.length → packZ (unpZ l k) = l.take (32 * k)
  | 0, _ => rfl
  | k + 1, hk => by
    rw [unpZ_succ, packZ_append, pack_unp l h k (by omega), packZ_one]
    show _ ++ (leZ (wdZ l (32 * k)) 8 ++ leZ (wdZ l (32 * k + 8)) 8 ++ leZ (wdZ l (32 * k + 16)) 8 ++ leZ (wdZ l (32 * k + 24)) 8) = _
    rw [wdZ_le l h _ (by omega), wdZ_le l h _ (by omega), wdZ_le l h _ (by omega), wdZ_le l h _ (by omega), four_eights]
    rw [show 32 * (k + 1) = 32 * k + 32 by omega, List.take_add]
theorem packZ_drop : ∀ (zs : List Cu) (k : Nat), (packZ zs).drop (32 * k) = packZ (zs.drop k)
  | zs, 0 => rfl
  | [], k + 1 => by simp [packZ]
  | c :: zs, k + 1 => by
    have e : packZ (c :: zs) = packZ [c] ++ packZ zs := packZ_append [c] zs
    have hl : (packZ [c]).length = 32 := packZ_len [c]
    rw [e, show 32 * (k + 1) = (packZ [c]).length + 32 * k by omega, ← List.drop_drop, List.drop_left, packZ_drop zs k]
    rfl
theorem wdZ_pack (zs : List Cu) (k : Nat) (hk : k < zs.length) (c : Cu) (hc : zs[k]?.getD cuZ = c) (h0 : ∀ x ∈ wordC c, 0 ≤ x ∧ x ≤ 18446744073709551615) : curZ (packZ zs) k = c := by
  have hd : (packZ zs).drop (32 * k) = packZ [c] ++ packZ (zs.drop (k + 1)) := by
    rw [packZ_drop, List.drop_eq_getElem_cons hk]
    rw [List.getElem?_eq_getElem hk] at hc
    rw [show zs[k] = c from hc]
    exact packZ_append [c] _
  have e8 : (256 : Int) ^ 8 = 18446744073709551616 := by decide +kernel
  have hx : ∀ x ∈ wordC c, leV (leZ x 8) = x := fun x hx => leV_leZ 8 x (h0 x hx).1 (by have := (h0 x hx).2; omega)
  have key : ∀ (a : List Int) (x : Int) (b : List Int) (j : Nat), a.length = j → (packZ zs).drop (32 * k) = a ++ leZ x 8 ++ b → wdZ (packZ zs) (32 * k + j) = leV (leZ x 8) := by
    intro a x b j ha hd
    unfold wdZ
    rw [← List.drop_drop, hd, ← ha, List.append_assoc, List.drop_left, List.take_append_of_le_length (by rw [leZ_len]; omega), List.take_of_length_le (by rw [leZ_len]; omega)]
  rw [packZ_one] at hd
  obtain ⟨i, a, d, g⟩ := c
  have h1 := key [] i (leZ a 8 ++ leZ d 8 ++ leZ g 8 ++ packZ (zs.drop (k + 1))) 0 rfl (by rw [hd]; simp)
  have h2 := key (leZ i 8) a (leZ d 8 ++ leZ g 8 ++ packZ (zs.drop (k + 1))) 8 (leZ_len _ _) (by rw [hd]; simp)
  have h3 := key (leZ i 8 ++ leZ a 8) d (leZ g 8 ++ packZ (zs.drop (k + 1))) 16 (by simp [leZ_len]) (by rw [hd]; simp)
  have h4 := key (leZ i 8 ++ leZ a 8 ++ leZ d 8) g (packZ (zs.drop (k + 1))) 24 (by simp [leZ_len]) (by rw [hd])
  unfold curZ
  rw [Nat.add_zero] at h1
  rw [h1, h2, h3, h4, hx i (by simp [wordC]), hx a (by simp [wordC]), hx d (by simp [wordC]), hx g (by simp [wordC])]
theorem ext_cu {a b : List Cu} (hl : a.length = b.length) (h : ∀ k, k < a.length → a[k]?.getD cuZ = b[k]?.getD cuZ) : a = b := by
  refine List.ext_getElem hl fun k h1 h2 => ?_
  have := h k h1
  rwa [List.getElem?_eq_getElem h1, List.getElem?_eq_getElem h2] at this
/-- is a number of a cursor too great? -/
def bigC (c : Cu) : Bool := decide (4294967295 < c.1 ∨ 9223372036854775807 < c.2.1 ∨ 9223372036854775807 < c.2.2.1 ∨ 9223372036854775807 < c.2.2.2)
/-- Unpack's answer: the error, the list -/
def unpackV (l : List Int) : Int × List Cu :=
  if l.length % 32 ≠ 0 then (200, []) else if 256 < l.length then (201, []) else if (unpZ l (l.length / 32)).any bigC then (200, []) else if wrongN (unpZ l (l.length / 32)) ≠ 0 then (200, []) else (0, unpZ l (l.length / 32))
theorem bytes_pack (zs : List Cu) : Bytes (packZ zs) := by
  intro b hb
  obtain ⟨c, _, hc⟩ := List.mem_flatMap.1 hb
  obtain ⟨x, _, hx⟩ := List.mem_flatMap.1 hc
  exact leZ_bytes x 8 b hx
theorem unp_pack (zs : List Cu) (her : wrongN zs = 0) (hz : IntsC zs) (hz2 : WordsC zs) : unpackV (packZ zs) = (0, zs) := by
  obtain ⟨hn8, hbad⟩ := wrongN_zero her
  have hl := packZ_len zs
  have hu : unpZ (packZ zs) ((packZ zs).length / 32) = zs := by
    rw [hl, Nat.mul_div_cancel_left _ (by omega)]
    refine ext_cu (unpZ_len _ _) fun k hk => ?_
    rw [unpZ_len] at hk
    rw [unpZ_get _ _ _ hk]
    refine wdZ_pack zs k hk _ rfl ?_
    have h1 := bad_low (hbad k hk)
    have h2 := hz k hk
    have h3 := hz2 k hk
    intro x hx
    simp only [wordC, List.mem_cons, List.not_mem_nil, or_false] at hx
    rcases hx with rfl | rfl | rfl | rfl <;> omega
  unfold unpackV
  rw [hu, if_neg (by omega), if_neg (by omega), if_neg, if_neg (by rw [her]; simp)]
  rw [List.any_eq_true]
  rintro ⟨c, hc, h2⟩
  obtain ⟨k, hk, rfl⟩ := List.getElem_of_mem hc
  have h3 := hz k hk
  have h4 := hz2 k hk
  rw [List.getElem?_eq_getElem hk] at h3 h4
  simp only [Option.getD_some] at h3 h4
  have := of_decide_eq_true h2
  omega
theorem pack_unpack (l : List Int) (h : Bytes l) (L : List Cu) (hv : unpackV l = (0, L)) : packZ L = l ∧ wrongN L = 0 ∧ IntsC L ∧ WordsC L := by
  unfold unpackV at hv
  by_cases h1 : l.length % 32 ≠ 0
  · rw [if_pos h1] at hv; cases hv
  rw [if_neg h1] at hv
  by_cases h2 : 256 < l.length
  · rw [if_pos h2] at hv; cases hv
  rw [if_neg h2] at hv
  by_cases h3 : (unpZ l (l.length / 32)).any bigC = true
  · rw [if_pos h3] at hv; cases hv
  rw [if_neg h3] at hv
  by_cases h4 : wrongN (unpZ l (l.length / 32)) ≠ 0
  · rw [if_pos h4] at hv; cases hv
  rw [if_neg h4] at hv
  obtain ⟨-, rfl⟩ := Prod.mk.inj hv
  have hb : ∀ k, k < (unpZ l (l.length / 32)).length → bigC ((unpZ l (l.length / 32))[k]?.getD cuZ) = false := fun k hk => by
    cases hc : bigC ((unpZ l (l.length / 32))[k]?.getD cuZ)
    · rfl
    · refine absurd (List.any_eq_true.2 ⟨_, List.getElem_mem hk, ?_⟩) h3
      rwa [List.getElem?_eq_getElem hk] at hc
  refine ⟨?_, by omega, fun k hk => ?_, fun k hk => ?_⟩
  · rw [pack_unp l h _ (by omega), List.take_of_length_le (by omega)]
  · have := of_decide_eq_false (hb k hk)
    omega
  · have := of_decide_eq_false (hb k hk)
    rw [unpZ_len] at hk
    have h5 := wdZ_bound l h (32 * k) (by omega)
    rw [unpZ_get _ _ _ hk] at this ⊢
    show 0 ≤ wdZ l (32 * k) ∧ wdZ l (32 * k) ≤ _
    have h6 : ¬ (4294967295 < wdZ l (32 * k) ∨ _) := this
    omega
end Go.Proofs.YtfoppbignompkaaDoor
