/-
  The contract of the law's folded.
-/
import Derived.Test.YtkknmbkfiiidmaaDoorFoldLaw
import Derived.Test.YtkknmbkfiiidmaaDoorEncode
import Derived.Lib.AppendStr
namespace Go.Proofs.YtkknmbkfiiidmaaDoor
open Go.RowKit

def numB (l : Bs) : List Int := l.map fun b => (b.toNat : Int)
theorem numB_append (a b : Bs) : numB (a ++ b) = numB a ++ numB b := by simp [numB]
theorem numB_len (l : Bs) : (numB l).length = l.length := by simp [numB]
theorem cells_nums (s : ByteArray) : Lib.strCells s = (numB (bs s)).map (Value.int .u8) := by
  unfold Lib.strCells numB bs
  rw [List.map_map]
  rfl
def foldS (s : ByteArray) : ByteArray := ⟨(foldB (bs s)).toArray⟩
theorem bs_foldS (s : ByteArray) : bs (foldS s) = foldB (bs s) := rfl
theorem str_nums (l : Bs) : strOfNums (numB l) = ⟨l.toArray⟩ := by
  have h : (strOfNums (numB l)).data.toList = l := by
    rw [strOfNums_data, numB, List.map_map]
    have : ((fun n : Int => UInt8.ofNat n.toNat) ∘ fun b : UInt8 => (b.toNat : Int)) = id := by
      funext b
      simp
    rw [this, List.map_id]
  have h2 : strOfNums (numB l) = ⟨(strOfNums (numB l)).data⟩ := rfl
  rw [h2]
  congr 1
  apply Array.ext'
  exact h
theorem seq_len (r : Int) : (seqZ r).length = if r < 128 then 1 else if r < 2048 then 2 else if r < 65536 then 3 else 4 := by
  by_cases h1 : r < 128
  · rw [seqZ_one h1, if_pos h1]; rfl
  · by_cases h2 : r < 2048
    · rw [seqZ_two h1 h2, if_neg h1, if_pos h2]; rfl
    · by_cases h3 : r < 65536
      · rw [seqZ_three h2 h3, if_neg h1, if_neg h2, if_pos h3]; rfl
      · rw [seqZ_four h3, if_neg h1, if_neg h2, if_neg h3]; rfl
theorem enc_lenV (r : Int) (h : mayB r = true) : (Lib.encodeRune r).length = if r < 128 then 1 else if r < 2048 then 2 else if r < 65536 then 3 else 4 := by
  rw [encodeRune_len, ← seqZ_fix]
  unfold fixR
  rw [if_pos h]
  exact seq_len r
/-- what is folded takes no more bytes -/
def rowLen (q : Int × Int × Int × Int) : Bool :=
  decide (q.2.2.2 ≤ 0) || decide (q.2.1 + q.2.2.2 < 128) || (decide (128 ≤ q.1) && decide (q.2.1 + q.2.2.2 < 2048)) || (decide (2048 ≤ q.1) && decide (q.2.1 + q.2.2.2 < 65536)) || decide (65536 ≤ q.1)
theorem rows_len' : ∀ q ∈ foldL, rowLen q = true := by decide +kernel
theorem fold_len (r : Int) (h : mayB r = true) : (Lib.encodeRune (foldZ r)).length ≤ (Lib.encodeRune r).length := by
  rcases fold_cases r with ⟨e, _⟩ | ⟨q, hq, hf, e⟩
  · rw [e]
    exact Nat.le_refl _
  · have hk := rows_len' q hq
    obtain ⟨h1, h2, _⟩ := fit_iff.1 hf
    have hm : mayB (foldZ r) = true := by
      rcases fold_may r with k | k
      · rw [k]; exact h
      · exact k.2.1
    unfold rowLen at hk
    simp only [Bool.or_eq_true, Bool.and_eq_true, decide_eq_true_eq] at hk
    rw [enc_lenV _ h, enc_lenV _ hm, e]
    split <;> split <;> (try split) <;> (try split) <;> (try split) <;> (try split) <;> omega
theorem piece_len (l : Bs) (hl : l ≠ []) : (pieceB l).length ≤ (Lib.decodeL l).2 := by
  have h1 := (wid_bounds l).1
  unfold pieceB
  split
  · rename_i hr
    have h2 := fold_len ((Lib.decodeL l).1 : Int) (dec_may l)
    have h3 := congrArg List.length (enc_right l hl hr)
    rw [List.length_take, Nat.min_eq_left (wid_le l hl)] at h3
    omega
  · rw [List.length_take]
    omega
theorem foldB_len : ∀ (n : Nat) (l : Bs), l.length ≤ n → (foldB l).length ≤ l.length
  | 0, l, h => by
    have : l = [] := List.length_eq_zero_iff.1 (by omega)
    subst this
    exact Nat.zero_le _
  | n + 1, l, h => by
    by_cases hl : l = []
    · subst hl; exact Nat.zero_le _
    · have h1 := (wid_bounds l).1
      have h2 := wid_le l hl
      have ih := foldB_len n (l.drop (Lib.decodeL l).2) (by rw [List.length_drop]; omega)
      have hp := piece_len l hl
      rw [List.length_drop] at ih
      rw [foldB_cons l hl, List.length_append]
      omega

set_option maxRecDepth 100000 in
set_option maxHeartbeats 4000000 in
theorem folded_any (s : ByteArray) (hs : s.size ≤ 140737488351232) (w : World) (hT : Tabs w) :
    Calls Tryd.prog 35 #[.string s] w fun e w' => e = .returned (.string (foldS s)) ∧ Below w.heap.size w w' := by
  obtain ⟨i0, hi, hz0, hz1, hz2⟩ := info_parts info_u8
  have HT := Lib.hid hT
  obtain ⟨R, hR⟩ : ∃ R, foldB (bs s) = R := ⟨_, rfl⟩
  have HR := Lib.hid hR
  have HFS := Lib.hid (show strOfNums (numB R) = foldS s by rw [← hR]; exact str_nums _)
  clear hT hR
  go_enter Tryd.func35, Tryd.ntmps35
  go_wp2_with fail
  go_loopw [0, 3] (fun x v wr => ∃ (A : ByteArray) (acc : Bs), x = .string A ∧ A.size ≤ s.size ∧ Hid (acc ++ foldB (bs A) = R) ∧ acc.length + A.size ≤ s.size ∧ Hid (wr.ownsRow w.heap.size 5 1 v acc.length ((numB acc).map (Value.int .u8))) ∧ Below w.heap.size w wr) (fun x _ _ => lenS x)
  case atStart => exact ⟨s, [], rfl, Nat.le_refl _, Lib.hid HR.out, by simp, Lib.hid (World.ownsRow_nil _ _ _ _), Below.refl _ _⟩
  case round =>
    obtain ⟨A, acc, rfl, hA, hacc, hlen, hO, hb⟩ := hrel
    by_cases h0 : A.size = 0
    · have hE : bs A = [] := List.length_eq_zero_iff.1 (by rw [← size_bs]; exact h0)
      have HACC := Lib.hid (show acc = R by rw [← hacc.out, hE, foldB_nil, List.append_nil])
      have hcv := conv_own (P := Tryd.prog) (dst := 9) Tryd.underlying54 Tryd.underlying5 Tryd.underlying9 hO.out
      rw [HACC.out, HFS.out] at hcv
      have h0i : (A.size : Int) = 0 := by omega
      clear hE hacc hO hlen hA h0
      go_wp2_with fail
      go_ret
      exact ⟨rfl, hb⟩
    · have hne := bs_ne h0
      have HC := Lib.hid (foldB_cons (bs A) hne)
      have hw1 := (wid_bounds (bs A)).1
      have hw2 := wid_le (bs A) hne
      rw [← size_bs] at hw2
      have hpl := piece_len (bs A) hne
      obtain ⟨d, hd⟩ : ∃ d, Lib.decodeL (bs A) = d := ⟨_, rfl⟩
      have HF := Lib.hid (fun w hT => first_some A d.1 d.2 h0 (by rw [hd]) (by rw [hd]) w hT)
      have HP := Lib.hid (show pieceB (bs A) = if rightR ((Lib.decodeL (bs A)).1 : Int) (Lib.decodeL (bs A)).2 = true then Lib.encodeRune (foldZ ((Lib.decodeL (bs A)).1 : Int)) else (bs A).take 1 from rfl)
      have HWR := Lib.hid (fun h => wrong_one (l := bs A) h)
      rw [hd] at hw1 hw2 hpl HC HP HWR
      have hdr : bs (A.extract d.2 A.size) = (bs A).drop d.2 := bs_drop A d.2
      obtain ⟨r, n⟩ := d
      simp only at hw1 hw2 hpl HC HP HF HWR hdr
      have HDR := Lib.hid hdr
      have HF0 := Lib.hid (fun w => fold_any (r : Int) w)
      obtain ⟨z, hz⟩ : ∃ z, foldZ (r : Int) = z := ⟨_, rfl⟩
      have hmz := fold_ok (bs A)
      rw [hd] at hmz
      simp only [hz] at hmz
      rw [hz] at HP HF0
      have hzb : -2147483648 ≤ z ∧ z ≤ 2147483647 := by have := of_decide_eq_true hmz; omega
      have HEN : Hid (∀ w1 : World, Calls Tryd.prog 51 #[.slice (some ⟨w1.heap.size, 0, none⟩) 1 1] (w1.alloc (.cells #[.int .i32 z] 21)) fun e w' => e = .returned (.string (encS [z])) ∧ Below (w1.alloc (.cells #[.int .i32 z] 21)).heap.size (w1.alloc (.cells #[.int .i32 z] 21)) w') := Lib.hid (fun w1 => encode_any (some ⟨w1.heap.size, 0, none⟩) 1 [z] _ (reads_new w1 .i32 [z] 21) (fun r h => by rw [List.mem_singleton.1 h]; exact hzb) (by simp))
      obtain ⟨S, hS⟩ : ∃ S, encS [z] = S := ⟨_, rfl⟩
      have hSb : bs S = Lib.encodeRune z := by
        rw [← hS, bs_encS]
        show Lib.encodeRune z ++ [] = _
        rw [List.append_nil]
      rw [hS] at HEN
      obtain ⟨q, hq⟩ : ∃ q, rightR (r : Int) n = q := ⟨_, rfl⟩
      rw [hq] at HF HP HWR
      have hA0 : (0 : Int) < (A.size : Int) := by omega
      have hn1 : decide ((n : Int) < 1) = false := decide_eq_false (by omega)
      have hn2 : decide ((A.size : Int) < (n : Int)) = false := decide_eq_false (by omega)
      have hn3 : (n : Int) ≤ (A.size : Int) := by omega
      have hn0 : (0 : Int) ≤ (n : Int) := by omega
      have hszA : A.size ≤ 140737488351232 := by omega
      have HACC := Lib.hid hacc.out
      have HO := Lib.hid hO.out
      cases q
      · -- a wrong byte
        have hn : n = 1 := congrArg Prod.snd (HWR.out rfl)
        have hP1 : bs (A.extract 0 n) = (bs A).take 1 := by rw [bs_extract, List.drop_zero, hn]
        have hP2 : pieceB (bs A) = (bs A).take 1 := by rw [HP.out, if_neg (by simp)]
        have hsz1 : (A.extract 0 n).size = 1 := by rw [ByteArray.size_extract]; omega
        obtain ⟨S1, hS1⟩ : ∃ S1, A.extract 0 n = S1 := ⟨_, rfl⟩
        rw [hS1] at hP1 hsz1
        have HN := Lib.hid (show (acc ++ bs S1) ++ foldB (bs (A.extract n A.size)) = R by rw [hP1, ← hP2, HDR.out, List.append_assoc, ← HC.out]; exact HACC.out)
        have HL := Lib.hid (show (acc ++ bs S1).length = acc.length + S1.size by rw [List.length_append, ← size_bs])
        clear hacc hO hd hne h0 hpl hmz hS hSb hz hq hP1 hP2 hdr HEN HF0 hn HWR
        go_wp2_with (first
          | (go_at_call 49; (with_reducible refine (HF.out _ (HT.out.below hb (Nat.le_refl _))).mono ?_); rintro e w1 ⟨rfl, hb1⟩; have hB1 := nx hb hb1; have hO1 := Lib.hid (owns_below HO.out hb1 (Nat.le_refl _)))
          | (at_builtin; refine Lib.wpList_append_own_string _ rfl _ _ 54 9 rfl w.heap.size 5 i0 Tryd.underlying54 Tryd.underlying9 hi hz0 hz1 hz2 u3 _ _ rfl hO1.out S1 rfl (by unfold maxLen; omega) (by omega) hB1.size ?_; intro v2 w2 hown2 hgrow2 _; have hB2 := hB1.grown hgrow2 hB1.size (fun q e => (hO1.out.lt q e).1); have hO2 := Lib.hid hown2; clear hown2 hgrow2))
        have hO3 : Hid (w2.ownsRow w.heap.size 5 1 v2 (acc ++ bs S1).length ((numB (acc ++ bs S1)).map (Value.int .u8))) := Lib.hid (by rw [HL.out, numB_append, List.map_append, ← cells_nums]; exact hO2.out)
        refine ⟨⟨A.extract n A.size, acc ++ bs S1, rfl, by rw [ByteArray.size_extract]; omega, HN, ?_, hO3, hB2⟩, ?_⟩
        · rw [HL.out, ByteArray.size_extract]
          omega
        · simp only [lenS, ByteArray.size_extract]
          omega
      · -- a right character
        have hP2 : pieceB (bs A) = Lib.encodeRune z := by rw [HP.out, if_pos rfl]
        have hSl : S.size ≤ n := by rw [size_bs, hSb, ← hP2]; exact hpl
        have HN := Lib.hid (show (acc ++ bs S) ++ foldB (bs (A.extract n A.size)) = R by rw [hSb, ← hP2, HDR.out, List.append_assoc, ← HC.out]; exact HACC.out)
        have HL := Lib.hid (show (acc ++ bs S).length = acc.length + S.size by rw [List.length_append, ← size_bs])
        clear hacc hO hd hne h0 hpl hmz hS hSb hz hq hP2 hdr
        go_wp2_with (first
          | (go_at_call 49; (with_reducible refine (HF.out _ (HT.out.below hb (Nat.le_refl _))).mono ?_); rintro e w1 ⟨rfl, hb1⟩; have hB1 := nx hb hb1; have hO1 := Lib.hid (owns_below HO.out hb1 (Nat.le_refl _)))
          | (go_at_call 20; (with_reducible refine (HF0.out _).mono ?_); rintro e w1' ⟨rfl, rfl⟩)
          | (go_at_call 51; (with_reducible refine (HEN.out w1).mono ?_); rintro e w2 ⟨rfl, hb2⟩; have hB2 := nx (al hB1 (.cells #[.int .i32 z] 21)) hb2; have hO2 := Lib.hid (owns_below (hO1.out.alloc (.cells #[.int .i32 z] 21)) hb2 (Nat.le_refl _)))
          | (at_builtin; refine Lib.wpList_append_own_string _ rfl _ _ 54 9 rfl w.heap.size 5 i0 Tryd.underlying54 Tryd.underlying9 hi hz0 hz1 hz2 u3 _ _ rfl hO2.out S rfl (by unfold maxLen; omega) (by omega) hB2.size ?_; intro v3 w3 hown3 hgrow3 _; have hB3 := hB2.grown hgrow3 hB2.size (fun q e => (hO2.out.lt q e).1); have hO3 := Lib.hid hown3; clear hown3 hgrow3))
        have hO4 : Hid (w3.ownsRow w.heap.size 5 1 v3 (acc ++ bs S).length ((numB (acc ++ bs S)).map (Value.int .u8))) := Lib.hid (by rw [HL.out, numB_append, List.map_append, ← cells_nums]; exact hO3.out)
        refine ⟨⟨A.extract n A.size, acc ++ bs S, rfl, by rw [ByteArray.size_extract]; omega, HN, ?_, hO4, hB3⟩, ?_⟩
        · rw [HL.out, ByteArray.size_extract]
          omega
        · simp only [lenS, ByteArray.size_extract]
          omega
end Go.Proofs.YtkknmbkfiiidmaaDoor
