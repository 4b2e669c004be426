/-
  The contracts of the document's Counts, head, tail and Of.
-/
import Derived.Test.YtpihmbdfhhjleaaDoorTalFn
namespace Go.Proofs.YtpihmbdfhhjleaaDoor
open Go.RowKit

theorem ends_any (r : Int) (w : World) :
    Calls Tryd.prog 40 #[.int .i32 r] w fun e w' => e = .returned (.bool (sepZ r)) ∧ w' = w := by
  by_cases h1 : r = 133
  · subst h1
    go_enter Tryd.func40, Tryd.ntmps40
    go_wp2
    go_ret
    exact ⟨rfl, rfl⟩
  · by_cases h2 : r = 8232
    · subst h2
      go_enter Tryd.func40, Tryd.ntmps40
      go_wp2
      go_ret
      exact ⟨rfl, rfl⟩
    · by_cases h3 : r = 8233
      · subst h3
        go_enter Tryd.func40, Tryd.ntmps40
        go_wp2
        go_ret
        exact ⟨rfl, rfl⟩
      · have H := Lib.hid (show sepZ r = false from decide_eq_false (by omega))
        have b1 : (r == 133) = false := beq_eq_false_iff_ne.2 h1
        have b2 : (r == 8232) = false := beq_eq_false_iff_ne.2 h2
        have b3 : (r == 8233) = false := beq_eq_false_iff_ne.2 h3
        clear h1 h2 h3
        go_enter Tryd.func40, Tryd.ntmps40
        go_wp2
        go_ret
        rw [H.out]
        exact ⟨rfl, rfl⟩
theorem ends_at (r : Nat) (b : Bool) (h : sepN r = b) (w : World) :
    Calls Tryd.prog 40 #[.int .i32 r] w fun e w' => e = .returned (.bool b) ∧ w' = w := by
  have := ends_any r w
  rwa [sepZ_nat, h] at this

theorem cut_any (s : ByteArray) (hs : s.size ≤ 140737488351232) (w : World) :
    Calls Tryd.prog 41 #[.string s, .int .i64 3] w fun e w' => e = .returned (.string (sB (hd3 (bs s)))) ∧ w' = w := by
  by_cases h : 3 < s.size
  · have H := Lib.hid (first_cut s 3 (by omega))
    go_enter Tryd.func41, Tryd.ntmps41
    go_wp2_with fail
    go_ret
    rw [H.out]
    exact ⟨rfl, rfl⟩
  · have H := Lib.hid (show sB (hd3 (bs s)) = s by
      unfold hd3; rw [List.take_of_length_le (by rw [← size_bs]; omega), sB_bs])
    go_enter Tryd.func41, Tryd.ntmps41
    go_wp2_with fail
    go_ret
    rw [H.out]
    exact ⟨rfl, rfl⟩
theorem rhead_any (s : ByteArray) (hs : s.size ≤ 140737488351232) (w : World) :
    Calls Tryd.prog 32 #[.string s] w fun e w' => e = .returned (.string (sB (hd3 (bs s)))) ∧ w' = w := by
  have HC := Lib.hid (cut_any s hs)
  go_enter Tryd.func32, Tryd.ntmps32
  go_wp2_with (go_at_call 41; (with_reducible refine (HC.out _).mono ?_); rintro e w1 ⟨rfl, rfl⟩)
  go_ret
  exact ⟨rfl, rfl⟩
theorem rtail_any (s : ByteArray) (hs : s.size ≤ 140737488351232) (w : World) :
    Calls Tryd.prog 33 #[.string s] w fun e w' => e = .returned (.string (sB (tl3 (bs s)))) ∧ w' = w := by
  by_cases h : 3 < s.size
  · have H := Lib.hid (last_cut s (s.size - 3) (by omega))
    go_enter Tryd.func33, Tryd.ntmps33
    go_wp2_with fail
    go_ret
    rw [H.out]
    exact ⟨rfl, rfl⟩
  · have H := Lib.hid (show sB (tl3 (bs s)) = s by
      unfold tl3; rw [show (bs s).length - 3 = 0 by rw [← size_bs]; omega, List.drop_zero, sB_bs])
    go_enter Tryd.func33, Tryd.ntmps33
    go_wp2_with fail
    go_ret
    rw [H.out]
    exact ⟨rfl, rfl⟩

set_option maxHeartbeats 1000000 in
theorem counts_any (s : ByteArray) (hs : s.size ≤ 140737488351232) (w : World) :
    Calls Tryd.prog 31 #[.string s] w fun e w' => e = .returned (.tuple #[.int .i64 (countN (bs s)), .int .i64 (linN (bs s))]) ∧ Below w.heap.size w w' := by
  go_enter Tryd.func31, Tryd.ntmps31
  go_wp2
  go_loopw [4, 5, 6] (fun c l i wr => ∃ done p L, Cut (bs s) done p ∧ c = .int .i64 (done.length : Nat) ∧ l = .int .i64 (L : Nat) ∧ i = .int .i64 (p : Nat) ∧ L + linT (tk ((bs s).drop p)) = linN (bs s) ∧ Below w.heap.size w wr) (fun _ _ i _ => s.size - (intOf i).toNat)
  case atStart => exact ⟨[], 0, 0, Cut.zero _, rfl, rfl, rfl, by rw [List.drop_zero]; simp [linN], Below.refl _ _⟩
  case round =>
    obtain ⟨done, p, L, hc, rfl, rfl, rfl, hl, hb⟩ := hrel
    have hle := hc.len_le
    have hpl := hc.1
    have hll : L ≤ (bs s).length := by have := linN_le (bs s); have := countN_le (bs s); omega
    rw [← size_bs] at hpl hll
    by_cases hp : p < s.size
    · have hst := hc.step (by rw [← size_bs]; exact hp)
      have hE : (s.extract p s.size).size ≠ 0 := by rw [size_bs, bs_drop]; simp; omega
      have hEs : (s.extract p s.size).size ≤ 140737488351232 := by rw [size_bs, bs_drop]; simp; omega
      have hne : (bs s).drop p ≠ [] := by intro e; have := congrArg List.length e; simp at this; omega
      have hnb := wid_bounds ((bs s).drop p)
      have hp2 := hst.1
      rw [← size_bs] at hp2
      have h10 := dec_asc ((bs s).drop p) 10 (by omega) hne
      have h13 := dec_asc ((bs s).drop p) 13 (by omega) hne
      rw [by_drop, Nat.add_zero] at h10 h13
      have h2 := dec_two (l := (bs s).drop p)
      have hx : linT (tk ((bs s).drop p)) = linT (tk ((bs s).drop p)) := rfl
      conv at hx => rhs; rw [tk_cons _ hne, linT, List.drop_drop, lfHead_tk]
      have hg := get_bs s p hp
      obtain ⟨d, hd⟩ : ∃ d, d = Lib.decodeL ((bs s).drop p) := ⟨_, rfl⟩
      have hF := fun w => reffirst_some (s.extract p s.size) hEs d.1 d.2 hE (by rw [bs_drop, ← hd]) (by rw [bs_drop, ← hd]) w
      rw [← hd] at hst hnb hp2 h10 h13 h2 hx
      obtain ⟨r, n⟩ := d
      simp only at hF hnb hp2 hst h10 h13 h2 hx
      have HF := Lib.hid hF
      have HS := Lib.hid hst
      have HL := Lib.hid hl
      have hlfb : lfB ((bs s).drop (p + n)) = decide (p + n < s.size ∧ by' (bs s) (p + n) = 10) := by
        unfold lfB
        rw [by_drop, Nat.add_zero, List.length_drop, ← size_bs]
        by_cases h : p + n < s.size
        · have : 1 ≤ s.size - (p + n) := by omega
          simp [h, this]
        · have : ¬ 1 ≤ s.size - (p + n) := by omega
          simp [h, this]
      rw [hlfb] at hx
      clear hF hst hc hd hE hEs hl hlfb hne
      obtain ⟨y, hy⟩ : ∃ y, by' (bs s) p = y := ⟨_, rfl⟩
      rw [hy] at h10 h13 hg
      by_cases e10 : y = 10
      · rw [if_pos (.inl (h10.2 e10))] at hx
        have HI := Lib.hid hx
        rw [e10] at hg
        clear hx h10 h13 h2 hy e10
        go_wp2_with (go_at_call 39; (with_reducible refine (HF.out _).mono ?_); rintro e w1 ⟨rfl, hb1⟩)
        go_roundw
        case rel => exact ⟨_, _, L + 1, HS.out, by simp, by go_num, by go_num, by have h1 := HL.out; have h2 := HI.out; rw [h2] at h1; omega, nx hb (by assumption)⟩
        case measure => simp [intOf]; omega
      · have n10 : ¬ r = 10 := fun h => e10 (h10.1 h)
        have b10 : ((y : Int) == 10) = false := beq_eq_false_iff_ne.2 (by omega)
        by_cases e13 : y = 13
        · have er := h13.2 e13
          have hn1 : n = 1 := by omega
          subst er hn1 e13
          have hsp : sepN 13 = false := by decide
          have HSP := Lib.hid (fun w => ends_at 13 false hsp w)
          have q1 : rightR ((13 : Nat) : Int) 1 = true := by decide
          have q2 : ((13 : Nat) : Int) = 13 := rfl
          have q3 : ((1 : Nat) : Int) = 1 := rfl
          rw [q1, q2, q3] at HF
          rw [q2] at HSP
          clear q1 q2 q3
          clear h10 h13 h2 n10 e10 b10
          by_cases hlast : p + 1 = s.size
          · rw [if_pos (.inr (.inl ⟨rfl, decide_eq_false (by omega)⟩))] at hx
            have HI := Lib.hid hx
            have hq : ((p : Int) + 1 == (s.size : Int)) = true := beq_iff_eq.2 (by omega)
            clear hx hsp hy
            go_wp2_with (first | (go_at_call 39; (with_reducible refine (HF.out _).mono ?_); rintro e w1 ⟨rfl, hb1⟩) | (go_at_call 40; (with_reducible refine (HSP.out _).mono ?_); rintro e w2 ⟨rfl, rfl⟩))
            go_roundw
            case rel => exact ⟨_, _, L + 1, HS.out, by simp, by go_num, by go_num, by have h1 := HL.out; have h2 := HI.out; rw [h2] at h1; omega, nx hb (by assumption)⟩
            case measure => simp [intOf]; omega
          · have hq : ((p : Int) + 1 == (s.size : Int)) = false := beq_eq_false_iff_ne.2 (by omega)
            have hp1 : p + 1 < s.size := by omega
            have hg1 := get_bs s (p + 1) hp1
            by_cases z10 : by' (bs s) (p + 1) = 10
            · rw [if_neg (by simp [z10, hp1, sepN])] at hx
              have HI := Lib.hid hx
              rw [z10] at hg1
              clear hx hsp hy z10
              go_wp2_with (first | (go_at_call 39; (with_reducible refine (HF.out _).mono ?_); rintro e w1 ⟨rfl, hb1⟩) | (go_at_call 40; (with_reducible refine (HSP.out _).mono ?_); rintro e w2 ⟨rfl, rfl⟩))
              go_roundw
              case rel => exact ⟨_, _, L, HS.out, by simp, by go_num, by go_num, by have h1 := HL.out; have h2 := HI.out; rw [h2] at h1; omega, nx hb (by assumption)⟩
              case measure => simp [intOf]; omega
            · rw [if_pos (.inr (.inl ⟨rfl, decide_eq_false (fun h => z10 h.2)⟩))] at hx
              have HI := Lib.hid hx
              obtain ⟨x, hxx⟩ : ∃ x, by' (bs s) (p + 1) = x := ⟨_, rfl⟩
              rw [hxx] at hg1 z10
              have hb10 : ((x : Int) != 10) = true := by simp; omega
              clear hx hsp hy z10 hxx
              go_wp2_with (first | (go_at_call 39; (with_reducible refine (HF.out _).mono ?_); rintro e w1 ⟨rfl, hb1⟩) | (go_at_call 40; (with_reducible refine (HSP.out _).mono ?_); rintro e w2 ⟨rfl, rfl⟩))
              go_roundw
              case rel => exact ⟨_, _, L + 1, HS.out, by simp, by go_num, by go_num, by have h1 := HL.out; have h2 := HI.out; rw [h2] at h1; omega, nx hb (by assumption)⟩
              case measure => simp [intOf]; omega
        · have n13 : ¬ r = 13 := fun h => e13 (h13.1 h)
          have b13 : ((y : Int) == 13) = false := beq_eq_false_iff_ne.2 (by omega)
          cases hsp : sepN r
          · rw [if_neg (by simp [n10, n13, hsp])] at hx
            have HI := Lib.hid hx
            have HSP := Lib.hid (fun w => ends_at r false hsp w)
            clear hx h10 h13 h2 n10 n13 e10 e13 hsp hy
            cases hr : rightR (r : Int) n
            all_goals
              rw [hr] at HF
              go_wp2_with (first | (go_at_call 39; (with_reducible refine (HF.out _).mono ?_); rintro e w1 ⟨rfl, hb1⟩) | (go_at_call 40; (with_reducible refine (HSP.out _).mono ?_); rintro e w2 ⟨rfl, rfl⟩))
              go_roundw
              case rel => exact ⟨_, _, L, HS.out, by simp, by go_num, by go_num, by have h1 := HL.out; have h2 := HI.out; rw [h2] at h1; omega, nx hb (by assumption)⟩
              case measure => simp [intOf]; omega
          · rw [if_pos (.inr (.inr hsp))] at hx
            have HI := Lib.hid hx
            have HSP := Lib.hid (fun w => ends_at r true hsp w)
            have hr : rightR (r : Int) n = true := rightR_ne (by unfold sepN at hsp; have := of_decide_eq_true hsp; omega) n
            rw [hr] at HF
            clear hx h10 h13 h2 n10 n13 e10 e13 hsp hy hr
            go_wp2_with (first | (go_at_call 39; (with_reducible refine (HF.out _).mono ?_); rintro e w1 ⟨rfl, hb1⟩) | (go_at_call 40; (with_reducible refine (HSP.out _).mono ?_); rintro e w2 ⟨rfl, rfl⟩))
            go_roundw
            case rel => exact ⟨_, _, L + 1, HS.out, by simp, by go_num, by go_num, by have h1 := HL.out; have h2 := HI.out; rw [h2] at h1; omega, nx hb (by assumption)⟩
            case measure => simp [intOf]; omega
    · have he := hc.end' (by rw [← size_bs]; exact hp)
      have h1 : countN (bs s) = done.length := by unfold countN; rw [he.1]
      have h2 : linN (bs s) = L := by rw [he.2, List.drop_length, tk_nil] at hl; simp [linT] at hl; omega
      have H1 := Lib.hid h1
      have H2 := Lib.hid h2
      clear he h1 h2 hc hl
      go_wp2
      go_ret2
      rw [H1.out, H2.out]
      exact ⟨rfl, hb⟩

/-- the cell in which a tally is handed back -/
theorem zero_cells {w w1 : World} (h : Below (w.alloc (.cells #[.int .i64 0, .int .i64 0, .int .i64 0, .string ⟨#[]⟩, .string ⟨#[]⟩] 23)).heap.size (w.alloc (.cells #[.int .i64 0, .int .i64 0, .int .i64 0, .string ⟨#[]⟩, .string ⟨#[]⟩] 23)) w1) :
    (∀ i, w1.cell? ⟨w.heap.size, i, none⟩ = #[Value.int .i64 0, .int .i64 0, .int .i64 0, .string ⟨#[]⟩, .string ⟨#[]⟩][i]?) ∧ (∀ i, w1.frozen? ⟨w.heap.size, i, none⟩ = false) := by
  refine ⟨fun i => ?_, fun i => ?_⟩
  · rw [h.cell (by show w.heap.size < _; rw [World.size_alloc]; omega), World.cell?_alloc_at _ _ _ _ rfl]
  · rw [h.frozen (by show w.heap.size < _; rw [World.size_alloc]; omega), World.frozen?_alloc_at _ _ _ _ rfl]

theorem rof_any (s : ByteArray) (hs : s.size ≤ 140737488351232) (w : World) :
    Calls Tryd.prog 12 #[.string s] w fun e w' => e = .returned (tOf (bs s)) ∧ Below w.heap.size w w' := by
  have hb := Below.refl w.heap.size w
  have HC := Lib.hid (counts_any s hs)
  have HH := Lib.hid (rhead_any s hs)
  have HT := Lib.hid (rtail_any s hs)
  obtain ⟨C, hC⟩ : ∃ C, countN (bs s) = C := ⟨_, rfl⟩
  obtain ⟨L, hL⟩ : ∃ C, linN (bs s) = C := ⟨_, rfl⟩
  rw [hC, hL] at HC
  have h1 := Lib.hid hC
  have h2 := Lib.hid hL
  clear hC hL
  go_enter Tryd.func12, Tryd.ntmps12
  go_wp2_with fail
  (with_reducible refine (HC.out _).mono ?_)
  rintro e w1 ⟨rfl, hb1⟩
  obtain ⟨hr, hz⟩ := zero_cells hb1
  have r0 := hr 0
  have r1 := hr 1
  have r2 := hr 2
  have r3 := hr 3
  have r4 := hr 4
  have z0 := hz 0
  have z1 := hz 1
  have z2 := hz 2
  have z3 := hz 3
  have z4 := hz 4
  clear hr hz
  simp only [List.getElem?_toArray, List.getElem?_cons_zero, List.getElem?_cons_succ] at r0 r1 r2 r3 r4
  have hbl := nx' (al hb _) hb1
  clear hb1
  go_wp2_with (first | (go_at_call 32; (with_reducible refine (HH.out _).mono ?_); rintro e w2 ⟨rfl, rfl⟩) | (go_at_call 33; (with_reducible refine (HT.out _).mono ?_); rintro e w3 ⟨rfl, rfl⟩))
  refine bodyPost_ret (v := .agg #[.int .i64 s.size, .int .i64 C, .int .i64 L, .string (sB (hd3 (bs s))), .string (sB (tl3 (bs s)))]) (by simp [results, Tryd.results12, go_sem, r0, r1, r2, r3, r4]) rfl ⟨?_, ?_⟩
  · unfold tOf tV
    rw [h1.out, h2.out, ← size_bs]
  · exact ((((hbl.setCell (Nat.le_refl _) _).setCell (Nat.le_refl _) _).setCell (Nat.le_refl _) _).setCell (Nat.le_refl _) _).setCell (Nat.le_refl _) _
end Go.Proofs.YtpihmbdfhhjleaaDoor
