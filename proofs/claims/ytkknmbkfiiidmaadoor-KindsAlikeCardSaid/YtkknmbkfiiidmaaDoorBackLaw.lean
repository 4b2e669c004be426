/-
  The plain laws under UtfBack: what is encoded is decoded again; what is mended.
-/
import Derived.Test.YtkknmbkfiiidmaaDoorIter
import Derived.Test.YtkknmbkfiiidmaaDoorEncode
import Derived.Lib.MapLaws
import Derived.Laws.Cover4
import Derived.Laws.IdiomStrings
namespace Go.Proofs.YtkknmbkfiiidmaaDoor
open Go.RowKit

/-- the bytes of runes -/
def encL (rs : List Int) : Bs := rs.flatMap Lib.encodeRune
theorem encL_cons (r : Int) (rs : List Int) : encL (r :: rs) = Lib.encodeRune r ++ encL rs := rfl
theorem bs_encS (rs : List Int) : bs (encS rs) = encL rs := by
  unfold encS encZ encL bs
  rw [strOfNums_data, List.map_flatMap]
  rfl

theorem encodeRune_len (r : Int) : (Lib.encodeRune r).length = (Lib.encodeRuneZ r).length := by simp [Lib.encodeRune]
theorem by_enc (r : Int) (rest : Bs) (i : Nat) (z : Int) (hz : (Lib.encodeRuneZ r)[i]? = some z) (h0 : 0 ≤ z) (h1 : z < 256) : (by' (Lib.encodeRune r ++ rest) i : Int) = z := by
  have hi : i < (Lib.encodeRuneZ r).length := by
    rcases Nat.lt_or_ge i (Lib.encodeRuneZ r).length with h | h
    · exact h
    · rw [List.getElem?_eq_none h] at hz; cases hz
  rw [by_append_left _ _ _ (by rw [encodeRune_len]; exact hi)]
  unfold by' Lib.encodeRune
  rw [List.getD_eq_getElem?_getD, List.getElem?_map, hz]
  simp only [Option.map_some, Option.getD_some]
  have : z.toNat < 256 := by omega
  simp
  omega

/-- A rune that may be, encoded, is read again. -/
theorem dec_enc (r : Int) (hr : mayB r = true) (rest : Bs) : Lib.decodeL (Lib.encodeRune r ++ rest) = (r.toNat, (Lib.encodeRune r).length) := by
  have h' := of_decide_eq_true hr
  have hl : (Lib.encodeRune r ++ rest).length = (Lib.encodeRuneZ r).length + rest.length := by rw [List.length_append, encodeRune_len]
  rw [encodeRune_len]
  by_cases h1 : r < 128
  · have e := Lib.encodeRuneZ_one (r := r) (by omega) (by omega)
    have b0 := by_enc r rest 0 r (by rw [e]; rfl) (by omega) (by omega)
    rw [e]
    rcases dec_cases (Lib.encodeRune r ++ rest) with ⟨a, h⟩ | ⟨a, h⟩ | ⟨a, h⟩ | ⟨a, h⟩ | ⟨a, _, _, _, h⟩
    · rw [h]
      have : by' (Lib.encodeRune r ++ rest) 0 = r.toNat := by omega
      rw [this]; rfl
    · unfold Ok2 at a; omega
    · unfold Ok3 at a; omega
    · unfold Ok4 at a; omega
    · omega
  · by_cases h2 : r < 2048
    · have e := Lib.encodeRuneZ_two (r := r) (by omega) (by omega)
      have b0 := by_enc r rest 0 (192 + r / 64) (by rw [e]; rfl) (by omega) (by omega)
      have b1 := by_enc r rest 1 (128 + r % 64) (by rw [e]; rfl) (by omega) (by omega)
      rw [e] at hl ⊢
      simp only [List.length_cons, List.length_nil] at hl
      rcases dec_cases (Lib.encodeRune r ++ rest) with ⟨a, h⟩ | ⟨a, h⟩ | ⟨a, h⟩ | ⟨a, h⟩ | ⟨a, k2, _, _, h⟩
      · omega
      · rw [h]
        have hx : n2 (by' (Lib.encodeRune r ++ rest) 0) (by' (Lib.encodeRune r ++ rest) 1) = r.toNat := by unfold n2; omega
        rw [hx]; rfl
      · unfold Ok3 at a; omega
      · unfold Ok4 at a; omega
      · exact absurd (show Ok2 _ _ _ from ⟨by omega, by omega, by omega, by omega, by omega⟩) k2
    · by_cases h3 : r < 65536
      · have e := Lib.encodeRuneZ_three (r := r) (by omega)
        have b0 := by_enc r rest 0 (224 + r / 4096) (by rw [e]; rfl) (by omega) (by omega)
        have b1 := by_enc r rest 1 (128 + r / 64 % 64) (by rw [e]; rfl) (by omega) (by omega)
        have b2 := by_enc r rest 2 (128 + r % 64) (by rw [e]; rfl) (by omega) (by omega)
        rw [e] at hl ⊢
        simp only [List.length_cons, List.length_nil] at hl
        have hn : (n3 (by' (Lib.encodeRune r ++ rest) 0) (by' (Lib.encodeRune r ++ rest) 1) (by' (Lib.encodeRune r ++ rest) 2) : Int) = r := by unfold n3; omega
        rcases dec_cases (Lib.encodeRune r ++ rest) with ⟨a, h⟩ | ⟨a, h⟩ | ⟨a, h⟩ | ⟨a, h⟩ | ⟨a, _, k3, _, h⟩
        · omega
        · unfold Ok2 at a; omega
        · rw [h]
          have hx : n3 (by' (Lib.encodeRune r ++ rest) 0) (by' (Lib.encodeRune r ++ rest) 1) (by' (Lib.encodeRune r ++ rest) 2) = r.toNat := by omega
          rw [hx]; rfl
        · unfold Ok4 at a; omega
        · exact absurd (show Ok3 _ _ _ _ from ⟨by omega, by omega, by omega, by omega, by omega, by omega, by omega, by omega, by omega⟩) k3
      · have e := Lib.encodeRuneZ_four (r := r) (by omega) (by omega)
        have b0 := by_enc r rest 0 (240 + r / 262144) (by rw [e]; rfl) (by omega) (by omega)
        have b1 := by_enc r rest 1 (128 + r / 4096 % 64) (by rw [e]; rfl) (by omega) (by omega)
        have b2 := by_enc r rest 2 (128 + r / 64 % 64) (by rw [e]; rfl) (by omega) (by omega)
        have b3 := by_enc r rest 3 (128 + r % 64) (by rw [e]; rfl) (by omega) (by omega)
        rw [e] at hl ⊢
        simp only [List.length_cons, List.length_nil] at hl
        have hn : (n4 (by' (Lib.encodeRune r ++ rest) 0) (by' (Lib.encodeRune r ++ rest) 1) (by' (Lib.encodeRune r ++ rest) 2) (by' (Lib.encodeRune r ++ rest) 3) : Int) = r := by unfold n4; omega
        rcases dec_cases (Lib.encodeRune r ++ rest) with ⟨a, h⟩ | ⟨a, h⟩ | ⟨a, h⟩ | ⟨a, h⟩ | ⟨a, _, _, k4, h⟩
        · omega
        · unfold Ok2 at a; omega
        · unfold Ok3 at a; omega
        · rw [h]
          have hx : n4 (by' (Lib.encodeRune r ++ rest) 0) (by' (Lib.encodeRune r ++ rest) 1) (by' (Lib.encodeRune r ++ rest) 2) (by' (Lib.encodeRune r ++ rest) 3) = r.toNat := by omega
          rw [hx]; rfl
        · exact absurd (show Ok4 _ _ _ _ _ from ⟨by omega, by omega, by omega, by omega, by omega, by omega, by omega, by omega, by omega, by omega, by omega⟩) k4

theorem mayB_bad : mayB 65533 = true := by decide
theorem fixR_may (r : Int) : mayB (fixR r) = true := by
  unfold fixR
  by_cases h : mayB r = true
  · rw [if_pos h]; exact h
  · rw [if_neg h]; decide
/-- What is encoded for a rune is what is encoded for FFFD where it may not be. -/
theorem enc_fix (r : Int) : Lib.encodeRuneZ (fixR r) = Lib.encodeRuneZ r := by
  rw [← seqZ_fix r, ← seqZ_fix (fixR r)]
  unfold fixR
  by_cases h : mayB r = true
  · rw [if_pos h, if_pos h]
  · rw [if_neg h, if_pos (by decide)]
theorem encRune_fix (r : Int) : Lib.encodeRune (fixR r) = Lib.encodeRune r := by unfold Lib.encodeRune; rw [enc_fix]

/-- The characters of an encoded text. -/
theorem tk_enc (rs : List Int) : tk (encL rs) = rs.map fun r => ((fixR r).toNat, (Lib.encodeRune r).length) := by
  induction rs with
  | nil => exact tk_nil
  | cons r rs ih =>
    have hp : 1 ≤ (Lib.encodeRune r).length := by rw [encodeRune_len]; exact (Lib.encodeRuneZ_length r).1
    have hne : encL (r :: rs) ≠ [] := by
      intro e
      have := congrArg List.length e
      rw [encL_cons, List.length_append, List.length_nil] at this
      omega
    have hd := dec_enc (fixR r) (fixR_may r) (encL rs)
    rw [encRune_fix] at hd
    rw [tk_cons _ hne, encL_cons, hd, List.map_cons]
    simp only [List.drop_left]
    rw [ih]
theorem runes_enc (rs : List Int) : runesZ (encL rs) = rs.map fixR := by
  unfold runesZ
  rw [tk_enc, List.map_map]
  refine List.map_congr_left (fun r _ => ?_)
  have := of_decide_eq_true (fixR_may r)
  simp only [Function.comp]
  omega
theorem enc_map_fix (rs : List Int) : encL (rs.map fixR) = encL rs := by
  induction rs with
  | nil => rfl
  | cons r rs ih => rw [List.map_cons, encL_cons, encL_cons, ih, encRune_fix]
/-- Each character of a text is one that some bytes begin with. -/
theorem tk_mem : ∀ (n : Nat) (l : Bs), l.length ≤ n → ∀ c ∈ tk l, ∃ m, m ≠ [] ∧ c = Lib.decodeL m := by
  intro n
  induction n with
  | zero => intro l hl c hc; have : l = [] := List.length_eq_zero_iff.1 (by omega); subst this; simp [tk_nil] at hc
  | succ n ih =>
    intro l hl c hc
    by_cases h : l = []
    · subst h; simp [tk_nil] at hc
    · rw [tk_cons l h] at hc
      rcases List.mem_cons.1 hc with rfl | hc
      · exact ⟨l, h, rfl⟩
      · have h1 := (wid_bounds l).1
        have : 1 ≤ l.length := by cases l; contradiction; simp
        exact ih _ (by simp; omega) c hc
theorem dec_may (m : Bs) : mayB ((Lib.decodeL m).1 : Int) = true := by
  have := by_lt m 0
  rcases dec_cases m with ⟨a, h⟩ | ⟨a, h⟩ | ⟨a, h⟩ | ⟨a, h⟩ | ⟨_, _, _, _, h⟩ <;> rw [h]
  · exact mayB_t (by simp only; omega)
  · obtain ⟨_, _, _, _, _⟩ := a
    exact mayB_t (by simp only; unfold n2; omega)
  · obtain ⟨_, _, _, _, _, _, _, _, _⟩ := a
    exact mayB_t (by simp only; unfold n3 at *; omega)
  · obtain ⟨_, _, _, _, _, _, _, _, _, _, _⟩ := a
    exact mayB_t (by simp only; omega)
  · decide
theorem runes_may (l : Bs) : (runesZ l).map fixR = runesZ l := by
  unfold runesZ
  rw [List.map_map]
  refine List.map_congr_left (fun c hc => ?_)
  obtain ⟨m, _, rfl⟩ := tk_mem l.length l (Nat.le_refl _) c hc
  simp only [Function.comp]
  unfold fixR
  rw [if_pos (dec_may m)]

/-- how many wrong bytes there are among some characters -/
def cw (t : List (Nat × Nat)) : Nat := (t.filter fun c => !(rightR (c.1 : Int) c.2)).length
theorem cw_cons (c : Nat × Nat) (t : List (Nat × Nat)) : cw (c :: t) = (if rightR (c.1 : Int) c.2 = true then 0 else 1) + cw t := by
  unfold cw
  cases h : rightR (c.1 : Int) c.2 <;> simp [h]
  omega
def encT (t : List (Nat × Nat)) : Bs := encL (t.map fun c => (c.1 : Int))
theorem encT_cons (c : Nat × Nat) (t : List (Nat × Nat)) : encT (c :: t) = Lib.encodeRune (c.1 : Int) ++ encT t := rfl
theorem enc_right (m : Bs) (hm : m ≠ []) (h : rightR ((Lib.decodeL m).1 : Int) (Lib.decodeL m).2 = true) : Lib.encodeRune ((Lib.decodeL m).1 : Int) = m.take (Lib.decodeL m).2 := by
  refine Lib.encode_decode m hm (fun hv => ?_)
  rw [hv.1, hv.2] at h
  simp [rightR] at h
theorem enc_wrong (m : Bs) (h : rightR ((Lib.decodeL m).1 : Int) (Lib.decodeL m).2 = false) : (Lib.encodeRune ((Lib.decodeL m).1 : Int)).length = 3 ∧ (Lib.decodeL m).2 = 1 := by
  obtain ⟨h1, h2⟩ := rightR_imp h
  rw [h1]
  exact ⟨by decide, h2⟩
theorem enc_len : ∀ (n : Nat) (l : Bs), l.length ≤ n → (encT (tk l)).length = l.length + 2 * cw (tk l) ∧ (cw (tk l) = 0 → encT (tk l) = l) := by
  intro n
  induction n with
  | zero => intro l hl; have : l = [] := List.length_eq_zero_iff.1 (by omega); subst this; exact ⟨rfl, fun _ => rfl⟩
  | succ n ih =>
    intro l hl
    by_cases h : l = []
    · subst h; exact ⟨rfl, fun _ => rfl⟩
    · rw [tk_cons l h, encT_cons, cw_cons]
      have h1 := (wid_bounds l).1
      have hw := wid_le l h
      have hp : 1 ≤ l.length := by cases l; contradiction; simp
      obtain ⟨i1, i2⟩ := ih (l.drop (Lib.decodeL l).2) (by simp; omega)
      rw [List.length_drop] at i1
      cases hr : rightR ((Lib.decodeL l).1 : Int) (Lib.decodeL l).2
      · obtain ⟨e1, e2⟩ := enc_wrong l hr
        rw [if_neg (by simp), List.length_append, e1]
        exact ⟨by omega, fun h0 => by omega⟩
      · have e1 := enc_right l h hr
        rw [if_pos rfl, List.length_append, e1, List.length_take]
        refine ⟨by omega, fun h0 => ?_⟩
        rw [i2 (by omega), List.take_append_drop]
theorem encL_runes (l : Bs) : encL (runesZ l) = encT (tk l) := rfl

theorem wrTo_cw (l : Bs) : (wrTo l (countN l)).length = cw (tk l) := by
  have key : ∀ (t : List (Nat × Nat)), ((List.range t.length).filter fun k => !(rightR (((t[k]?.getD (0, 0)).1 : Nat) : Int) (t[k]?.getD (0, 0)).2)).length = cw t := by
    intro t
    have e : t = (List.range t.length).map fun k => t[k]?.getD (0, 0) := by
      apply List.ext_getElem?
      intro i
      by_cases hi : i < t.length
      · simp [hi]
      · simp [hi]
    unfold cw
    conv => rhs; rw [e]
    rw [List.filter_map, List.length_map]
    rfl
  unfold wrTo
  rw [List.length_map]
  exact key (tk l)

/-- What the mended text is. -/
theorem mend_len (l : Bs) : (encL (runesZ l)).length = l.length + 2 * (wrTo l (countN l)).length := by
  rw [encL_runes, wrTo_cw]
  exact (enc_len l.length l (Nat.le_refl _)).1
theorem mend_same (l : Bs) : encL (runesZ l) = l ↔ (wrTo l (countN l)).length = 0 := by
  constructor
  · intro h
    have := mend_len l
    rw [h] at this
    omega
  · intro h
    rw [wrTo_cw] at h
    rw [encL_runes]
    exact (enc_len l.length l (Nat.le_refl _)).2 h
theorem mend_count (l : Bs) : countN (encL (runesZ l)) = countN l := by
  unfold countN
  rw [tk_enc, List.length_map]
  simp [runesZ]
theorem mend_mend (l : Bs) : encL (runesZ (encL (runesZ l))) = encL (runesZ l) := by rw [runes_enc, enc_map_fix]

/-! ### The language's own conversions -/
theorem runesFrom_tk (s : ByteArray) : ∀ (b i : Nat) (acc : Array Value), s.size - i ≤ b → Conv.runesFrom s b i acc = acc ++ ((tk ((bs s).drop i)).map fun c => Value.int .i32 (c.1 : Int)).toArray := by
  intro b
  induction b with
  | zero =>
    intro i acc h
    have : (bs s).drop i = [] := List.drop_eq_nil_of_le (by rw [← size_bs]; omega)
    rw [this, tk_nil]
    simp [Conv.runesFrom]
  | succ b ih =>
    intro i acc h
    unfold Conv.runesFrom
    by_cases hi : i < s.size
    · have hne : (bs s).drop i ≠ [] := by intro e; have := congrArg List.length e; rw [List.length_drop, ← size_bs] at this; simp at this; omega
      have hw := (wid_bounds ((bs s).drop i)).1
      rw [if_pos hi, decode_bs]
      show Conv.runesFrom s b (i + (Lib.decodeL ((bs s).drop i)).2) (acc.push (.int .i32 (Int.ofNat (Lib.decodeL ((bs s).drop i)).1))) = _
      rw [ih _ _ (by omega), tk_cons _ hne, List.drop_drop]
      simp
    · have : (bs s).drop i = [] := List.drop_eq_nil_of_le (by rw [← size_bs]; omega)
      rw [if_neg hi, this, tk_nil]
      simp
theorem runesFrom_all (s : ByteArray) : Conv.runesFrom s s.size 0 #[] = ((runesZ (bs s)).map (Value.int .i32)).toArray := by
  rw [runesFrom_tk s s.size 0 #[] (by omega)]
  simp [runesZ]
theorem u8of (n : Nat) (z : Int) (h : (n : Int) = z) : UInt8.ofNat n = z.toNat.toUInt8 := by
  subst h
  rfl
theorem enc_model (r : Int) : bs (Utf8.encode r) = Lib.encodeRune r := by
  unfold Utf8.encode Lib.encodeRune
  cases hv : Utf8.valid r
  · have h := hv
    unfold Utf8.valid at h
    simp at h
    rw [Lib.encodeRuneZ_bad (by omega)]
    simp only [Bool.false_eq_true, if_false]
    decide +kernel
  · have h := hv
    unfold Utf8.valid at h
    simp at h
    simp only [if_true]
    by_cases h1 : r.toNat < 128
    · rw [if_pos h1, Lib.encodeRuneZ_one (by omega) (by omega)]
      rfl
    · rw [if_neg h1]
      by_cases h2 : r.toNat < 2048
      · rw [if_pos h2, Lib.encodeRuneZ_two (by omega) (by omega), u8of _ (192 + r / 64) (by omega), u8of _ (128 + r % 64) (by omega)]
        rfl
      · rw [if_neg h2]
        by_cases h3 : r.toNat < 65536
        · rw [if_pos h3, Lib.encodeRuneZ_three (by omega), u8of _ (224 + r / 4096) (by omega), u8of _ (128 + r / 64 % 64) (by omega), u8of _ (128 + r % 64) (by omega)]
          rfl
        · rw [if_neg h3, Lib.encodeRuneZ_four (by omega) (by omega), u8of _ (240 + r / 262144) (by omega), u8of _ (128 + r / 4096 % 64) (by omega), u8of _ (128 + r / 64 % 64) (by omega), u8of _ (128 + r % 64) (by omega)]
          rfl
theorem bs_inj {a b : ByteArray} (h : bs a = bs b) : a = b := by
  obtain ⟨⟨a⟩⟩ := a
  obtain ⟨⟨b⟩⟩ := b
  have h1 : a = b := h
  rw [h1]
theorem runesBytes_enc (ns : List Int) : runesBytes ns = encS ns := by
  have key : ∀ (ns : List Int) (s : ByteArray), bs (ns.foldl (fun r n => r ++ Utf8.encode n) s) = bs s ++ encL ns := by
    intro ns
    induction ns with
    | nil => intro s; simp [encL]
    | cons n ns ih =>
      intro s
      rw [List.foldl_cons, ih, encL_cons, ← List.append_assoc]
      congr 1
      rw [bs_append, enc_model]
  have h := key ns ByteArray.empty
  have h2 : bs (runesBytes ns) = bs (encS ns) := by
    rw [bs_encS]
    exact h
  exact bs_inj h2
end Go.Proofs.YtkknmbkfiiidmaaDoor
