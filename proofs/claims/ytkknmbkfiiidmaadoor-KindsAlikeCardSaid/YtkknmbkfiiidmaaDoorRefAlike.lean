/-
  Alike, as the document has it: its contract, and the walk of the law KindsLikes.
-/
import Derived.Test.YtkknmbkfiiidmaaDoorAlike
namespace Go.Proofs.YtkknmbkfiiidmaaDoor
open Go.RowKit

theorem s3_keep {W0 W W' : World} {g1 i1 g2 i2 g3 i3 : Nat} {v1 v2 v3 : Value} (H : W.cell? ⟨g1, i1, none⟩ = some v1 ∧ W.cell? ⟨g2, i2, none⟩ = some v2 ∧ W.cell? ⟨g3, i3, none⟩ = some v3 ∧ Below W0.heap.size W0 W) (hb : Below W.heap.size W W') :
    W'.cell? ⟨g1, i1, none⟩ = some v1 ∧ W'.cell? ⟨g2, i2, none⟩ = some v2 ∧ W'.cell? ⟨g3, i3, none⟩ = some v3 ∧ Below W0.heap.size W0 W' :=
  ⟨cellKeep H.1 hb, cellKeep H.2.1 hb, cellKeep H.2.2.1 hb, nx H.2.2.2 hb⟩
theorem byte_at (A : ByteArray) (p : Nat) (h : p < A.size) : by' (bs A) p = (A[p]'h).toNat := by
  obtain ⟨⟨l⟩⟩ := A
  have h' : p < l.length := h
  show (l.getD p 0).toNat = _
  rw [List.getD, List.getElem?_eq_getElem h']
  rfl
theorem rune_le (l : Bs) (k : Nat) : -2147483648 ≤ (((tk l)[k]?.getD (0, 0)).1 : Int) ∧ (((tk l)[k]?.getD (0, 0)).1 : Int) ≤ 2147483647 := by
  by_cases h : k < (tk l).length
  · exact runesZ_wf l _ (List.mem_map.2 ⟨(tk l)[k]?.getD (0, 0), by rw [List.getElem?_eq_getElem h]; exact List.getElem_mem _, rfl⟩)
  · rw [List.getElem?_eq_none (by omega)]; simp

set_option maxHeartbeats 8000000 in
theorem refalike_any (a b : ByteArray) (ha : a.size ≤ 1048576) (hb : b.size ≤ 1048576) (w : World) :
    Calls Tryd.prog 31 #[.string a, .string b] w fun e w' => e = .returned (.bool (alikeB (bs a) (bs b))) ∧ Below w.heap.size w w' := by
  have HCA := Lib.hid (chars_at a ha w)
  have HCB := Lib.hid (fun w => chars_at b hb w)
  have hla := bs_len_le a
  have hlb := bs_len_le b
  obtain ⟨la, hla'⟩ : ∃ l, bs a = l := ⟨_, rfl⟩
  obtain ⟨lb, hlb'⟩ : ∃ l, bs b = l := ⟨_, rfl⟩
  rw [hla'] at HCA hla ⊢
  rw [hlb'] at HCB hlb ⊢
  obtain ⟨na, hna⟩ : ∃ n, countN la = n := ⟨_, rfl⟩
  obtain ⟨nb, hnb⟩ : ∃ n, countN lb = n := ⟨_, rfl⟩
  rw [hna] at HCA hla
  rw [hnb] at HCB hlb
  have HLA := Lib.hid hla'
  have HLB := Lib.hid hlb'
  have HNA := Lib.hid hna
  have HNB := Lib.hid hnb
  clear hla' hlb' hna hnb
  go_enter Tryd.func31, Tryd.ntmps31
  by_cases hn : na = nb
  · subst hn
    go_wp2_with (first
      | (go_at_call 46; (with_reducible refine HCA.out.mono ?_); rintro e w1 ⟨ao, ca, rfl, hx1, hb1⟩)
      | (go_at_call 46; (with_reducible refine (HCB.out _).mono ?_); rintro e w2 ⟨bo, cb, rfl, hy2, hb2⟩; have hx2 := hx1.below hb2 (Nat.le_refl _); have hb12 := nx hb1 hb2))
    have HX := Lib.hid hx2
    have HY := Lib.hid hy2
    clear hx1 hx2 hy2
    go_loopw [7] (fun i wr => ∃ k, k ≤ na ∧ i = .int .i64 (k : Nat) ∧ Hid (∀ i, i < k → sameAt la lb i = true) ∧ Below w2.heap.size w2 wr) (fun i _ => na - (intOf i).toNat)
    case atStart => exact ⟨0, Nat.zero_le _, rfl, Lib.hid (fun i h => absurd h (Nat.not_lt_zero _)), Below.refl _ _⟩
    case round =>
      obtain ⟨k, hk, rfl, hI, hbr⟩ := hrel
      by_cases hlt : k < na
      · obtain ⟨g, rfl, x0, x1, -, x3⟩ := (HX.out.below hbr (Nat.le_refl _)) k (by rw [HNA.out]; exact hlt)
        obtain ⟨g', rfl, y0, y1, -, y3⟩ := (HY.out.below hbr (Nat.le_refl _)) k (by rw [HNB.out]; exact hlt)
        have hSA : sameAt la lb k = ((rightR ((tk la)[k]?.getD (0, 0)).1 ((tk la)[k]?.getD (0, 0)).2 == rightR ((tk lb)[k]?.getD (0, 0)).1 ((tk lb)[k]?.getD (0, 0)).2) && (if rightR ((tk la)[k]?.getD (0, 0)).1 ((tk la)[k]?.getD (0, 0)).2 = true then foldZ (((tk la)[k]?.getD (0, 0)).1 : Nat) == foldZ (((tk lb)[k]?.getD (0, 0)).1 : Nat) else by' la (atN la k) == by' lb (atN lb k))) := rfl
        have hr1 := rune_le la k
        have hq1 := rune_le lb k
        obtain ⟨r, hr⟩ : ∃ r, ((tk la)[k]?.getD (0, 0)).1 = r := ⟨_, rfl⟩
        obtain ⟨q, hq⟩ : ∃ q, ((tk lb)[k]?.getD (0, 0)).1 = q := ⟨_, rfl⟩
        obtain ⟨wa, hwa⟩ : ∃ r, ((tk la)[k]?.getD (0, 0)).2 = r := ⟨_, rfl⟩
        obtain ⟨wb, hwb⟩ : ∃ q, ((tk lb)[k]?.getD (0, 0)).2 = q := ⟨_, rfl⟩
        obtain ⟨pa, hpa'⟩ : ∃ p, atN la k = p := ⟨_, rfl⟩
        obtain ⟨pb, hpb'⟩ : ∃ p, atN lb k = p := ⟨_, rfl⟩
        have HAT := Lib.hid (show k < countN la by rw [HNA.out]; exact hlt)
        simp only [hr, hwa] at x1 x3 hSA hr1
        simp only [hq, hwb] at y1 y3 hSA hq1
        simp only [hpa'] at x0 hSA
        simp only [hpb'] at y0 hSA
        have hpa : pa < a.size := by
          have := atN_lt la HAT.out (Nat.le_refl _)
          rw [hpa', atN_full, ← HLA.out, ← size_bs] at this
          exact this
        have hpb : pb < b.size := by
          have := atN_lt lb (show k < countN lb by rw [HNB.out]; exact hlt) (Nat.le_refl _)
          rw [hpb', atN_full, ← HLB.out, ← size_bs] at this
          exact this
        have hba := byte_at a _ hpa
        have hbb := byte_at b _ hpb
        rw [HLA.out] at hba
        rw [HLB.out] at hbb
        obtain ⟨ra, hra⟩ : ∃ x, rightR (r : Int) wa = x := ⟨_, rfl⟩
        obtain ⟨rb, hrb⟩ : ∃ x, rightR (q : Int) wb = x := ⟨_, rfl⟩
        rw [hra] at x3 hSA
        rw [hrb] at y3 hSA
        rw [hba, hbb] at hSA
        have HSA := Lib.hid hSA
        have HF1 := Lib.hid (fun w => reffold_any (r : Int) hr1.1 hr1.2 w)
        have HF2 := Lib.hid (fun w => reffold_any (q : Int) hq1.1 hq1.2 w)
        have hki : (k : Int) < (na : Int) := by omega
        have hk0 : (0 : Int) ≤ (k : Int) := by omega
        have hk1 : k ≤ 1048576 := by omega
        have hbw : Below w.heap.size w wr := nx hb12 hbr
        clear hr hq hwa hwb hpa' hpb' hra hrb hba hbb hSA hr1 hq1
        cases ra <;> cases rb
        · have hpi : (pa : Int) < (a.size : Int) := by omega
          have hpj : (pb : Int) < (b.size : Int) := by omega
          by_cases hX : (a[pa]'hpa) = (b[pb]'hpb)
          · have HS := Lib.hid (show sameAt la lb k = true by rw [HSA.out, hX]; simp)
            have HI2 := Lib.hid (show ∀ i, i < k + 1 → sameAt la lb i = true by
              intro i hi
              by_cases e : i = k
              · rw [e]; exact HS.out
              · exact hI.out i (by omega))
            go_wp2_with fail
            go_quiet (fail)
            go_wp2_with fail
            go_quiet (fail)
            go_wp2_with fail
            go_quiet (fail)
            go_wp2_with fail
            exact ⟨⟨k + 1, by omega, by go_num, HI2, below_drewN hbr _⟩, by simp [intOf]; omega⟩
          · have hX' : ((((a[pa]'hpa).toNat : Nat) : Int) != (((b[pb]'hpb).toNat : Nat) : Int)) = true := bne_iff_ne.2 (fun e => hX (UInt8.toNat_inj.1 (by omega)))
            have HR := Lib.hid (alike_at HAT.out (show sameAt la lb k = false by rw [HSA.out]; simp; exact fun e => hX (UInt8.toNat_inj.1 e)))
            go_wp2_with fail
            go_quiet (fail)
            go_wp2_with fail
            go_quiet (fail)
            go_wp2_with fail
            go_quiet (fail)
            go_wp2_with fail
            go_ret
            exact ⟨ret_bool HR.out.symm, below_drewN (below_drewN (below_drewN hbw _) _) _⟩
        · have HR := Lib.hid (alike_at HAT.out (show sameAt la lb k = false by rw [HSA.out]; rfl))
          go_wp2_with fail
          go_quiet (fail)
          go_wp2_with fail
          go_ret
          exact ⟨ret_bool HR.out.symm, below_drewN hbw _⟩
        · have HR := Lib.hid (alike_at HAT.out (show sameAt la lb k = false by rw [HSA.out]; rfl))
          go_wp2_with fail
          go_quiet (fail)
          go_wp2_with fail
          go_ret
          exact ⟨ret_bool HR.out.symm, below_drewN hbw _⟩
        · obtain ⟨fr, hfr⟩ : ∃ x, foldZ (r : Int) = x := ⟨_, rfl⟩
          obtain ⟨fq, hfq⟩ : ∃ x, foldZ (q : Int) = x := ⟨_, rfl⟩
          rw [hfr] at HF1 HSA
          rw [hfq] at HF2 HSA
          clear hfr hfq
          by_cases hf : fr = fq
          · subst hf
            have HS := Lib.hid (show sameAt la lb k = true by rw [HSA.out]; simp)
            have HI2 := Lib.hid (show ∀ i, i < k + 1 → sameAt la lb i = true by
              intro i hi
              by_cases e : i = k
              · rw [e]; exact HS.out
              · exact hI.out i (by omega))
            go_wp2_with fail
            go_quiet (fail)
            go_wp2_with fail
            have hS : (wr.drewN nq).cell? ⟨g, k * 4 + 3, none⟩ = some (.bool true) ∧ (wr.drewN nq).cell? ⟨g, k * 4 + 1, none⟩ = some (.int .i32 (r : Nat)) ∧ (wr.drewN nq).cell? ⟨g', k * 4 + 1, none⟩ = some (.int .i32 (q : Nat)) ∧ Below wr.heap.size wr (wr.drewN nq) := ⟨x3, x1, y1, below_drewN (Below.refl _ _) _⟩
            obtain ⟨Y, hY⟩ : ∃ Y, wr.drewN nq = Y := ⟨_, rfl⟩
            rw [hY] at hS ⊢
            have hbY := hS.2.2.2
            clear hY
            go_region_held_law (fun w' => w'.cell? ⟨g, k * 4 + 3, none⟩ = some (.bool true) ∧ w'.cell? ⟨g, k * 4 + 1, none⟩ = some (.int .i32 (r : Nat)) ∧ w'.cell? ⟨g', k * 4 + 1, none⟩ = some (.int .i32 (q : Nat)) ∧ Below wr.heap.size wr w') (first | (with_reducible assumption) | (with_reducible exact s3_keep (by assumption) (by assumption)) | (with_reducible exact s3_keep hS (Below.refl _ _).drew))
              (first | (go_at_call 21; (with_reducible refine (HF1.out _).mono ?_); rintro e w4 ⟨rfl, hb4⟩; have hY4 : Below wr.heap.size wr w4 := nx hbY.drew hb4) | (go_at_call 21; (with_reducible refine (HF2.out _).mono ?_); rintro e w5 ⟨rfl, hb5⟩; have hY5 := nx hY4 hb5))
            all_goals
              go_wp2_with fail
              go_quiet (fail)
              go_wp2_with fail
              exact ⟨⟨k + 1, by omega, by go_num, HI2, below_drewN (hbr.trans (hY5.mono hbr.size)) _⟩, by simp [intOf]; omega⟩
          · have hf' : (fr != fq) = true := bne_iff_ne.2 hf
            have HR := Lib.hid (alike_at HAT.out (show sameAt la lb k = false by rw [HSA.out]; simp [hf]))
            clear hf
            go_wp2_with fail
            go_quiet (fail)
            go_wp2_with fail
            have hS : (wr.drewN nq).cell? ⟨g, k * 4 + 3, none⟩ = some (.bool true) ∧ (wr.drewN nq).cell? ⟨g, k * 4 + 1, none⟩ = some (.int .i32 (r : Nat)) ∧ (wr.drewN nq).cell? ⟨g', k * 4 + 1, none⟩ = some (.int .i32 (q : Nat)) ∧ Below wr.heap.size wr (wr.drewN nq) := ⟨x3, x1, y1, below_drewN (Below.refl _ _) _⟩
            obtain ⟨Y, hY⟩ : ∃ Y, wr.drewN nq = Y := ⟨_, rfl⟩
            rw [hY] at hS ⊢
            have hbY := hS.2.2.2
            clear hY
            go_region_held_law (fun w' => w'.cell? ⟨g, k * 4 + 3, none⟩ = some (.bool true) ∧ w'.cell? ⟨g, k * 4 + 1, none⟩ = some (.int .i32 (r : Nat)) ∧ w'.cell? ⟨g', k * 4 + 1, none⟩ = some (.int .i32 (q : Nat)) ∧ Below wr.heap.size wr w') (first | (with_reducible assumption) | (with_reducible exact s3_keep (by assumption) (by assumption)) | (with_reducible exact s3_keep hS (Below.refl _ _).drew))
              (first | (go_at_call 21; (with_reducible refine (HF1.out _).mono ?_); rintro e w4 ⟨rfl, hb4⟩; have hY4 : Below wr.heap.size wr w4 := nx hbY.drew hb4) | (go_at_call 21; (with_reducible refine (HF2.out _).mono ?_); rintro e w5 ⟨rfl, hb5⟩; have hY5 := nx hY4 hb5))
            all_goals
              go_wp2_with fail
              go_ret
              exact ⟨ret_bool HR.out.symm, hbw.trans (hY5.mono hbw.size)⟩
      · have hki : (na : Int) ≤ (k : Int) := by omega
        have HR := Lib.hid (alike_t (a := la) (b := lb) (by rw [HNA.out, HNB.out]) (fun i hi => hI.out i (by rw [HNA.out] at hi; omega)))
        go_wp2_with fail
        go_ret
        exact ⟨ret_bool HR.out.symm, nx hb12 hbr⟩
  · have hne : ((na : Int) != (nb : Int)) = true := bne_iff_ne.2 (by omega)
    have HR := Lib.hid (alike_len (a := la) (b := lb) (by rw [HNA.out, HNB.out]; exact hn))
    clear hn
    go_wp2_with (first
      | (go_at_call 46; (with_reducible refine HCA.out.mono ?_); rintro e w1 ⟨ao, ca, rfl, hx1, hb1⟩)
      | (go_at_call 46; (with_reducible refine (HCB.out _).mono ?_); rintro e w2 ⟨bo, cb, rfl, hy2, hb2⟩; have hb12 := nx hb1 hb2))
    go_ret
    exact ⟨ret_bool HR.out.symm, hb12⟩

/-! ### An equivalence -/
theorem same_iff (a b : Bs) (i : Nat) : sameAt a b i = true ↔
    (rightR (((tk a)[i]?.getD (0, 0)).1 : Nat) ((tk a)[i]?.getD (0, 0)).2 = rightR (((tk b)[i]?.getD (0, 0)).1 : Nat) ((tk b)[i]?.getD (0, 0)).2) ∧
    (rightR (((tk a)[i]?.getD (0, 0)).1 : Nat) ((tk a)[i]?.getD (0, 0)).2 = true → foldZ (((tk a)[i]?.getD (0, 0)).1 : Nat) = foldZ (((tk b)[i]?.getD (0, 0)).1 : Nat)) ∧
    (rightR (((tk a)[i]?.getD (0, 0)).1 : Nat) ((tk a)[i]?.getD (0, 0)).2 = false → by' a (atN a i) = by' b (atN b i)) := by
  unfold sameAt
  dsimp only
  generalize rightR (((tk a)[i]?.getD (0, 0)).1 : Nat) ((tk a)[i]?.getD (0, 0)).2 = x
  generalize rightR (((tk b)[i]?.getD (0, 0)).1 : Nat) ((tk b)[i]?.getD (0, 0)).2 = y
  cases x <;> cases y <;> simp
theorem same_symm {a b : Bs} {i : Nat} (h : sameAt a b i = true) : sameAt b a i = true := by
  rw [same_iff] at h ⊢
  exact ⟨h.1.symm, fun e => (h.2.1 (h.1.trans e)).symm, fun e => (h.2.2 (h.1.trans e)).symm⟩
theorem same_trans {a b c : Bs} {i : Nat} (h : sameAt a b i = true) (k : sameAt b c i = true) : sameAt a c i = true := by
  rw [same_iff] at h k ⊢
  exact ⟨h.1.trans k.1, fun e => (h.2.1 e).trans (k.2.1 (h.1.symm.trans e)), fun e => (h.2.2 e).trans (k.2.2 (h.1.symm.trans e))⟩
theorem alike_iff (a b : Bs) : alikeB a b = true ↔ countN a = countN b ∧ ∀ i, i < countN a → sameAt a b i = true := decide_eq_true_iff
theorem alike_refl (a : Bs) : alikeB a a = true := (alike_iff a a).2 ⟨rfl, fun i _ => (same_iff a a i).2 ⟨rfl, fun _ => rfl, fun _ => rfl⟩⟩
theorem alike_symm (a b : Bs) : alikeB b a = alikeB a b := by
  rw [Bool.eq_iff_iff, alike_iff, alike_iff]
  exact ⟨fun h => ⟨h.1.symm, fun i hi => same_symm (h.2 i (by rw [h.1]; exact hi))⟩, fun h => ⟨h.1.symm, fun i hi => same_symm (h.2 i (by rw [h.1]; exact hi))⟩⟩
theorem alike_trans {a b c : Bs} (h : alikeB a b = true) (k : alikeB b c = true) : alikeB a c = true := by
  rw [alike_iff] at h k ⊢
  exact ⟨h.1.trans k.1, fun i hi => same_trans (h.2 i hi) (k.2 i (by rw [← h.1]; exact hi))⟩

set_option maxHeartbeats 2000000 in
theorem kindsLikes_any (a : ByteArray) (ha : a.size ≤ 1048576) (b : ByteArray) (hb : b.size ≤ 1048576) (w : World) (hT : Tabs w) :
    Calls Tryd.prog 8 #[.string a, .string b] w fun e w' => e = .returned (.bool true) ∧ Below w.heap.size w w' := by
  have HT := Lib.hid hT
  have HR := Lib.hid (refalike_any a b ha hb w)
  have H1 := Lib.hid (fun w hT => alike_any a b (by omega) (by omega) w hT)
  have H2 := Lib.hid (fun w hT => alike_any b a (by omega) (by omega) w hT)
  have H3 := Lib.hid (fun w hT => alike_any a a (by omega) (by omega) w hT)
  rw [alike_symm] at H2
  rw [alike_refl] at H3
  have HAW := Lib.hid (fun w hT => kawake_any w hT)
  obtain ⟨x, hx⟩ : ∃ x, alikeB (bs a) (bs b) = x := ⟨_, rfl⟩
  rw [hx] at HR H1 H2
  clear hT hx
  go_enter Tryd.func8, Tryd.ntmps8
  go_wp2_with (first
    | (go_at_call 31; (with_reducible refine HR.out.mono ?_); rintro e w1 ⟨rfl, hb1⟩)
    | (go_at_call 32; (with_reducible refine (H1.out _ (HT.out.below hb1 (Nat.le_refl _))).mono ?_); rintro e w2 ⟨rfl, hb2⟩; have hb12 := nx hb1 hb2)
    | (go_at_call 32; (with_reducible refine (H2.out _ (HT.out.below hb12 (Nat.le_refl _))).mono ?_); rintro e w3 ⟨rfl, hb3⟩; have hb13 := nx hb12 hb3)
    | (go_at_call 32; (with_reducible refine (H3.out _ (HT.out.below hb13 (Nat.le_refl _))).mono ?_); rintro e w4 ⟨rfl, hb4⟩; have hb14 := nx hb13 hb4)
    | (go_at_call 22; (with_reducible refine (HAW.out _ (HT.out.below hb14 (Nat.le_refl _))).mono ?_); rintro e w5 ⟨rfl, hb5⟩; have hb15 := nx hb14 hb5))
  go_ret
  exact ⟨rfl, hb15⟩
end Go.Proofs.YtkknmbkfiiidmaaDoor
