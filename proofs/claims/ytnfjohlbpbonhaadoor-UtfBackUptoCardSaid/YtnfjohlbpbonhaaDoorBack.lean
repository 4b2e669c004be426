/-
  The walk of the law UtfBack: there and back.
-/
import Derived.Test.YtnfjohlbpbonhaaDoorBackLaw
import Derived.Test.YtnfjohlbpbonhaaDoorWrong
import Derived.Test.YtnfjohlbpbonhaaDoorJoinSrc
import Derived.Test.YtnfjohlbpbonhaaDoorAwake
import Derived.Deep.RegionHeldLaw
import Derived.Deep.RegionHeld3
namespace Go.Proofs.YtnfjohlbpbonhaaDoor
open Go.RowKit
attribute [local go_sem] Oper.semAt_some

set_option maxHeartbeats 400000 in
theorem lasting_any (r : Int) (b : Bool) (hb : mayB r = b) (w : World) : Calls Tryd.prog 34 #[.int .i32 r] w fun e w' => e = .returned (.bool b) ∧ w = w' := by
  by_cases h0 : 0 ≤ r
  · by_cases h1 : r ≤ 1114111
    · by_cases h2 : r < 55296
      · have e : mayB r = true := mayB_t (by omega)
        rw [e] at hb
        subst hb
        go_enter Tryd.func34, Tryd.ntmps34
        go_wp2
        go_ret
        exact ⟨rfl, rfl⟩
      · by_cases h3 : 57343 < r
        · have e : mayB r = true := mayB_t (by omega)
          rw [e] at hb
          subst hb
          go_enter Tryd.func34, Tryd.ntmps34
          go_wp2
          go_ret
          exact ⟨rfl, rfl⟩
        · have e : mayB r = false := decide_eq_false (by omega)
          rw [e] at hb
          subst hb
          go_enter Tryd.func34, Tryd.ntmps34
          go_wp2
          go_ret
          exact ⟨rfl, rfl⟩
    · have e : mayB r = false := decide_eq_false (by omega)
      rw [e] at hb
      subst hb
      go_enter Tryd.func34, Tryd.ntmps34
      go_wp2
      go_ret
      exact ⟨rfl, rfl⟩
  · have e : mayB r = false := decide_eq_false (by omega)
    rw [e] at hb
    subst hb
    go_enter Tryd.func34, Tryd.ntmps34
    go_wp2
    go_ret
    exact ⟨rfl, rfl⟩

/-- An appended row whose element is what may be. -/
theorem fix_snoc (zs : List Int) (k : Nat) (h : k < zs.length) : ((zs.take (k + 1)).map fixR).map (Value.int .i32) = ((zs.take k).map fixR).map (Value.int .i32) ++ [.int .i32 (fixR (zs[k]?.getD 0))] := by
  rw [List.take_succ_eq_append_getElem h, List.getElem?_eq_getElem h, List.map_append, List.map_append]
  rfl

theorem g3_keep {w W W' : World} {r g g' : Nat} {v v' : Value} (H : W.cell? ⟨g, 0, none⟩ = some v ∧ W.cell? ⟨g', 0, none⟩ = some v' ∧ w.grownBy W (some r)) (hb : Below W.heap.size W W') :
    W'.cell? ⟨g, 0, none⟩ = some v ∧ W'.cell? ⟨g', 0, none⟩ = some v' ∧ w.grownBy W' (some r) :=
  ⟨cellKeep H.1 hb, cellKeep H.2.1 hb, hb.os.trans H.2.2.os, hb.tape.trans H.2.2.tape, hb.output.trans H.2.2.output, Nat.le_trans H.2.2.size hb.size, fun k hk hne => (hb.block k (Nat.lt_of_lt_of_le hk H.2.2.size)).trans (H.2.2.block k hk hne)⟩
theorem g3_set {w W : World} {r g g' : Nat} {v v' : Value} (H : W.cell? ⟨g, 0, none⟩ = some v ∧ W.cell? ⟨g', 0, none⟩ = some v' ∧ w.grownBy W (some r)) (h1 : g ≠ r) (h2 : g' ≠ r) (u : Value) :
    (W.setCell ⟨r, 0, none⟩ u).cell? ⟨g, 0, none⟩ = some v ∧ (W.setCell ⟨r, 0, none⟩ u).cell? ⟨g', 0, none⟩ = some v' ∧ w.grownBy (W.setCell ⟨r, 0, none⟩ u) (some r) := by
  have hg := grownBy_setCell' W r u
  have l1 := World.block_lt_of_cell? W _ H.1
  have l2 := World.block_lt_of_cell? W _ H.2.1
  exact ⟨(World.cell?_of_block (a := ⟨g, 0, none⟩) (hg.block g l1 (fun e => h1 (by injection e)))).trans H.1, (World.cell?_of_block (a := ⟨g', 0, none⟩) (hg.block g' l2 (fun e => h2 (by injection e)))).trans H.2.1,
    hg.os.trans H.2.2.os, hg.tape.trans H.2.2.tape, hg.output.trans H.2.2.output, Nat.le_trans H.2.2.size hg.size, fun k hk hne => (hg.block k (Nat.lt_of_lt_of_le hk H.2.2.size) hne).trans (H.2.2.block k hk hne)⟩
theorem wrTo_lt (l : Bs) (k : Nat) (hk : k ≤ countN l) : ∀ x ∈ wrTo l k, x < l.length := by
  intro x hx
  obtain ⟨j, hj, rfl⟩ := List.mem_map.1 hx
  have hj' : j < k := List.mem_range.1 (List.mem_filter.1 hj).1
  have h1 := atN_succ l j (by omega)
  have h2 := (cut_at l (j + 1) (by omega)).1
  have h3 := (tk_wid l ((tk l)[j]?.getD (0, 0)) (by rw [List.getElem?_eq_getElem (show j < (tk l).length from Nat.lt_of_lt_of_le hj' hk)]; exact List.getElem_mem _)).1
  omega

set_option maxRecDepth 100000 in
set_option maxHeartbeats 4000000 in
theorem utfBack_any (ao : Option Addr) (cap : Nat) (zs : List Int) (s : ByteArray) (w : World) (hsrc : SrcI w .i32 ao cap zs) (hwf : ∀ r ∈ zs, -2147483648 ≤ r ∧ r ≤ 2147483647) (hlen : zs.length ≤ 1048576) (hs : s.size ≤ 1048576) (hT : Tabs w) :
    Calls Tryd.prog 10 #[.slice ao zs.length cap, .string s] w fun e w' => e = .returned (.bool true) ∧ Below w.heap.size w w' := by
  obtain ⟨i0, hi, hz0, hz1, hz2⟩ := info_parts info_i32
  have HT := Lib.hid hT
  have HAW := Lib.hid (fun w hT => awake_any w hT)
  have HSRC := Lib.hid hsrc
  have HWF := Lib.hid hwf
  obtain ⟨n, hn⟩ : ∃ n, zs.length = n := ⟨_, rfl⟩
  rw [hn] at hlen ⊢
  have HN := Lib.hid hn
  clear hT hsrc hwf hn
  refine callsIn_wide.1 (callsIn_of_wp_marks (n := 9) Tryd.func10 rfl trivial (wpIn_wide.2 ?_) rfl)
  simp only [Tryd.ntmps10, List.size_toArray, List.length_cons, List.length_nil, Nat.reduceAdd, Nat.reduceSub, Array.replicate_succ, Array.replicate_zero, List.push_toArray, List.append_toArray, List.nil_append, List.cons_append]
  have a3 := (Boxed.new w 9 (.string s)).alloc (.cells #[.bool false] 4)
  have a4 := Boxed.new (w.alloc (.cells #[.string s] 9)) 4 (.bool false)
  rw [World.size_alloc] at a4
  have hbA : Below w.heap.size w ((w.alloc (.cells #[.string s] 9)).alloc (.cells #[.bool false] 4)) := al (al (Below.refl _ _) _) _
  go_wp2_with (first | (go_at_call 30; (with_reducible refine (HAW.out _ (HT.out.below hbA (Nat.le_refl _))).mono ?_); rintro e w1 ⟨rfl, hb1⟩))
  have hbw1 : Below w.heap.size w w1 := hbA.trans (hb1.mono hbA.size)
  have b3c : Boxed w1 w.heap.size 9 (.string s) := (hb1.block _ a3.lt).trans a3
  have b4c : Boxed w1 (w.heap.size + 1) 4 (.bool false) := (hb1.block _ a4.lt).trans a4
  clear hb1 a3 a4 hbA
  go_loopw [5, 6, 7] (fun v b i wr => ∃ k, k ≤ n ∧ i = .int .i64 (k : Nat) ∧ b = .int .i64 ((encZ (zs.take k)).length : Nat) ∧ Hid (wr.ownsRow w1.heap.size 21 1 v k (((zs.take k).map fixR).map (Value.int .i32))) ∧ Below w1.heap.size w1 wr) (fun _ _ i _ => n - (intOf i).toNat)
  case atStart => exact ⟨0, Nat.zero_le _, rfl, rfl, World.ownsRow_nil _ _ _ _, Below.refl _ _⟩
  case round =>
    obtain ⟨k, hk, rfl, rfl, hown, hb⟩ := hrel
    by_cases hlt : k < n
    · have hkz : k < zs.length := by rw [HN.out]; exact hlt
      rcases (HSRC.out.reads).below (hbw1.trans (hb.mono hbw1.size)) (Nat.le_refl _) with h0 | ⟨g, o, rfl, hc⟩
      · rw [h0] at hkz; simp at hkz
      · have e0 := hc k hkz
        have hsn := encZ_snoc zs k hkz
        have hfx := fix_snoc zs k hkz
        have hle := encZ_take_le zs k (by omega)
        obtain ⟨x, hx⟩ : ∃ x, zs[k]?.getD 0 = x := ⟨_, rfl⟩
        rw [hx] at e0 hsn hfx
        have hlx := Lib.encodeRuneZ_length x
        obtain ⟨b, hb0⟩ : ∃ b, mayB x = b := ⟨_, rfl⟩
        have HL := Lib.hid (fun w => lasting_any x b hb0 w)
        obtain ⟨E, hE⟩ : ∃ E, Utf8.encode (fixR x) = E := ⟨_, rfl⟩
        have hEs : E.size = (Lib.encodeRuneZ x).length := by rw [← hE, size_bs, enc_model, encodeRune_len, enc_fix]
        have hfv : fixR x = if b = true then x else 65533 := by unfold fixR; rw [hb0]
        have hbs := hb.size
        have hki : (k : Int) < (n : Int) := by omega
        have hk0 : (0 : Int) ≤ (k : Int) := by omega
        have HFX := Lib.hid hfx
        have HSN := Lib.hid (congrArg List.length hsn)
        have hown' := hown.out
        clear hx hb0 hc hsn hfx hkz
        cases b
        · rw [if_neg (by simp)] at hfv
          rw [hfv] at hE HFX
          clear hfv
          go_wp2_with (first | (go_at_call 34; (with_reducible refine (HL.out _).mono ?_); rintro e w2 ⟨rfl, rfl⟩) | (at_builtin; refine wpList_append_own _ rfl _ _ 27 rfl w1.heap.size 21 i0 (.int .i32 0) 1 4 Tryd.underlying27 hi hz0 hz1 hz2 rfl (by decide) u5 _ _ rfl (hown'.alloc _) ⟨wr.heap.size, 0, none⟩ 1 1 [.int .i32 65533] rfl (by simp) (cells_new _ _ _) (by simp [Value.oneCell']) (by unfold maxLen; omega) (by omega) (by rw [World.size_alloc]; omega) ?_; intro v2 w3 hown3 hgrow3 _; have hb3 : Below w1.heap.size w1 w3 := (al hb _).grown hgrow3 (by rw [World.size_alloc]; omega) (fun q e => (hown'.lt q e).1); clear hgrow3))
          exact ⟨⟨k + 1, by omega, by go_num, by rw [HSN.out, List.length_append]; go_num, by rw [HFX.out]; exact hown3, hb3⟩, by simp [intOf]; omega⟩
        · rw [if_pos rfl] at hfv
          rw [hfv] at hE HFX
          clear hfv
          go_wp2_with (first | (go_at_call 34; (with_reducible refine (HL.out _).mono ?_); rintro e w2 ⟨rfl, rfl⟩) | (at_builtin; refine wpList_append_own _ rfl _ _ 27 rfl w1.heap.size 21 i0 (.int .i32 0) 1 4 Tryd.underlying27 hi hz0 hz1 hz2 rfl (by decide) u5 _ _ rfl (hown'.alloc _) ⟨wr.heap.size, 0, none⟩ 1 1 [.int .i32 x] rfl (by simp) (cells_new _ _ _) (by simp [Value.oneCell']) (by unfold maxLen; omega) (by omega) (by rw [World.size_alloc]; omega) ?_; intro v2 w3 hown3 hgrow3 _; have hb3 : Below w1.heap.size w1 w3 := (al hb _).grown hgrow3 (by rw [World.size_alloc]; omega) (fun q e => (hown'.lt q e).1); clear hgrow3))
          exact ⟨⟨k + 1, by omega, by go_num, by rw [HSN.out, List.length_append]; go_num, by rw [HFX.out]; exact hown3, hb3⟩, by simp [intOf]; omega⟩
    · obtain rfl : k = n := by omega
      have hzk : zs.take k = zs := by rw [← HN.out, List.take_length]
      have hown := hown.out
      rw [hzk] at hown
      have HOWN := Lib.hid hown
      have hzl := encZ_le zs
      rw [HN.out] at hzl
      rw [hzk]
      clear hzk hown
      obtain ⟨aw, cw0, ew, -, RW⟩ := ReadsI.owned (zs := zs.map fixR) HOWN.out
      rw [List.length_map, HN.out] at ew
      subst ew
      obtain ⟨T, hT⟩ : ∃ T, encS zs = T := ⟨_, rfl⟩
      have hTs : T.size = (encZ zs).length := by rw [← hT]; exact strOfNums_size _
      have hTb : bs T = encL zs := by rw [← hT, bs_encS]
      have hTr : runesZ (bs T) = zs.map fixR := by rw [hTb, runes_enc]
      have hTc : countN (bs T) = k := by rw [← runesZ_len, hTr, List.length_map, HN.out]
      have hTm : encS (runesZ (bs T)) = T := by
        apply bs_inj
        rw [bs_encS, hTr, enc_map_fix, hTb]
      obtain ⟨M, hM⟩ : ∃ M, encS (runesZ (bs s)) = M := ⟨_, rfl⟩
      have hbw0 : Below w.heap.size w wr := hbw1.trans (hb.mono hbw1.size)
      have HJ := Lib.hid (join_any ao none cap 0 zs [] (by rw [HN.out]; omega) (by simp) wr (HSRC.out.below hbw0 (Nat.le_refl _)) (.inl ⟨rfl, rfl, rfl⟩))
      have HE := Lib.hid (fun a c W (hR : ReadsI W .i32 a zs) => encode_any a c zs W hR HWF.out (by rw [HN.out]; omega))
      have HRT := Lib.hid (runes_any T (by omega))
      have HST := Lib.hid (fun a c b d W (RA : ReadsI W .i32 a (zs.map fixR)) (RB : ReadsI W .i32 b (zs.map fixR)) => sameRunes_any a b c d (zs.map fixR) (zs.map fixR) (by rw [List.length_map, HN.out]; omega) W RA RB)
      have HMT := Lib.hid (mend_any T (by omega))
      have HMS := Lib.hid (mend_any s (by omega))
      simp only [List.append_nil, List.length_nil, HN.out] at HJ
      simp only [HN.out, hT] at HE
      simp only [hTr, hTc] at HRT
      simp only [sameZ_self, List.length_map, HN.out] at HST
      rw [hTm] at HMT
      rw [hM] at HMS
      have HRW := Lib.hid RW
      have HM := Lib.hid hM
      clear RW hT hTb hTr hTc hTm hM HOWN hown
      have b3r : Boxed wr w.heap.size 9 (.string s) := (hb.block _ b3c.lt).trans b3c
      go_wp2_with (first | (go_at_call 31; (with_reducible refine HJ.out.mono ?_); rintro e w2 ⟨v, rfl, hv, hb2⟩; obtain ⟨aj, cj, ej, -, RJ⟩ := ReadsI.owned hv; rw [HN.out] at ej; subst ej) | (go_at_call 32; (with_reducible refine (HE.out aj cj w2 RJ).mono ?_); rintro e w3 ⟨rfl, hb3⟩) | (go_at_call 22; (with_reducible refine (HRT.out _).mono ?_); rintro e w4 ⟨v4, rfl, hv4, hb4⟩; obtain ⟨a4, c4, e4, -, R4⟩ := ReadsI.owned (zs := zs.map fixR) hv4; rw [List.length_map, HN.out] at e4; subst e4; have hb24 := nx (nx hb2 hb3) hb4) | (go_at_call 21; (with_reducible refine (HST.out a4 c4 aw cw0 w4 R4 (HRW.out.below hb24 (Nat.le_refl _))).mono ?_); rintro e w5 ⟨rfl, hb5⟩; have hb25 := nx hb24 hb5) | (go_at_call 26; (with_reducible refine (HMT.out _).mono ?_); rintro e w6 ⟨rfl, hb6⟩; have hb26 := nx hb25 hb6; have d3 := (show Boxed w6 w.heap.size 9 (.string s) from (hb26.block _ b3r.lt).trans b3r).cell) | (go_at_call 26; (with_reducible refine (HMS.out _).mono ?_); rintro e w7 ⟨rfl, hb7⟩; have hb27 := nx hb26 hb7; have d37 := ((show Boxed w7 w.heap.size 9 (.string s) from (hb27.block _ b3r.lt).trans b3r).alloc (.cells #[.int .i64 0] 3)).cell))
      have hb7w : Below w.heap.size w w7 := nx hbw0 hb27
      have b3V : Boxed w7 w.heap.size 9 (.string s) := (hb27.block _ b3r.lt).trans b3r
      have b4V : Boxed w7 (w.heap.size + 1) 4 (.bool false) := (hb27.block _ (Nat.lt_of_lt_of_le b4c.lt hb.size)).trans ((hb.block _ b4c.lt).trans b4c)
      clear d3 d37 hb2 hb3 hb4 hb5 hb6 hb7 hb24 hb25 hb26 hb27 hv hv4 RJ R4 HJ HRT HST HMT HRW hTs b3r b3c b4c hbw1 hb hbw0
      have B5 := (Boxed.new w7 3 (.int .i64 0)).alloc (.cells #[.string s] 9)
      have B6 := Boxed.new (w7.alloc (.cells #[.int .i64 0] 3)) 9 (.string s)
      rw [World.size_alloc] at B6
      have hbL : Below w7.heap.size w7 ((w7.alloc (.cells #[.int .i64 0] 3)).alloc (.cells #[.string s] 9)) := al (al (Below.refl _ _) _) _
      go_wp2_with ((go_at_call 35; (with_reducible refine (wrong_in s _).mono ?_); rintro e w1 ⟨rfl, rfl⟩))
      obtain ⟨X, hX⟩ : ∃ X, (w7.alloc (.cells #[.int .i64 0] 3)).alloc (.cells #[.string s] 9) = X := ⟨_, rfl⟩
      have hszX : w7.heap.size + 1 + 1 ≤ X.heap.size := by rw [← hX, World.size_alloc, World.size_alloc]; exact Nat.le_refl _
      rw [hX] at B5 B6 hbL ⊢
      have hbW := hb7w.trans (hbL.mono hb7w.size)
      have hsw := hb7w.size
      have h4lt := b4V.lt
      clear hX
      refine (wpIn_wide (n := 9)).1 ?_
      refine' wpIn_rangeFunc_ownG rfl (by decide) (gf := 55) (lb := #[.pointer (some ⟨w7.heap.size + 1, 0, none⟩)]) rfl trivial (enters_of Tryd.func55 (by kernel_rfl) rfl)
        (wrong_stops (9 - 1) (by decide) (w7.heap.size + 1) w HT.out s X hbW B6.cell) kpW_t (kpW_b (by omega) (by omega)) (Below.refl _ _) (fun _ => rfl)
        (fun (pre : List Nat) W => Boxed W w7.heap.size 3 (.int .i64 (pre.length : Nat)) ∧ Boxed W (w7.heap.size + 1) 9 (.string s) ∧ Below w7.heap.size w7 W)
        (fun c (pre : List Nat) _ => c = .ret ∧ ∃ x, x ∈ pre ∧ s.size ≤ x)
        (OwnFrom.and (Own.from (boxed_own _ _ (fun (pre : List Nat) => .int .i64 (pre.length : Nat))) _) (OwnFrom.and (Own.from (boxed_own _ _ (fun _ => .string s)) _) (ownFrom_below (Nat.le_refl _) (by omega))))
        (fun _ _ _ _ _ hs _ _ => hs)
        ⟨B5, B6, hbL⟩ _ ?assign ?body ?done ?stop
      case assign =>
        intro l x W K hK
        dsimp only [encW]
        gi_wp2
        exact hK
      case body =>
        rintro l pre x W ⟨c5, c6, hbw⟩ hlen
        have d5 := c5.cell
        have f5 := c5.frozen
        have c4 : Boxed W (w.heap.size + 1) 4 (.bool false) := (hbw.block _ b4V.lt).trans b4V
        have d3 := (show Boxed W w.heap.size 9 (.string s) from (hbw.block _ b3V.lt).trans b3V).cell
        have d4 := c4.cell
        have f4 := c4.frozen
        have hle : pre.length ≤ 1048576 := by have := bs_len_le s; omega
        have hx0 : (0 : Int) ≤ (x : Int) := by omega
        clear hlen
        by_cases hx : x < s.size
        · have hxi : (x : Int) < (s.size : Int) := by omega
          gi_wp2
          refine ⟨(KeepsOthers.setCell _ _ _).from _, ⟨⟨(KeepsOthers.setCell _ _ _).walks, (Below.refl _ W).setCell (p := ⟨w7.heap.size, 0, none⟩) hsw _⟩, (grownBy_setCell' W w7.heap.size _).block _ c6.lt (by simp)⟩, ?_, c6.kept (grownBy_setCell' W w7.heap.size _) (by simp), hbw.setCell (p := ⟨w7.heap.size, 0, none⟩) (Nat.le_refl _) _⟩
          rw [List.length_append, List.length_singleton, Int.natCast_add]
          exact c5.set _
        · have hxi : (s.size : Int) ≤ (x : Int) := by omega
          gi_wp2
          exact ⟨(KeepsOthers.setCell _ _ _).from _, rfl, x, by simp, by omega⟩
      case done =>
        rintro D ys V hD rfl ⟨c5, -, hbw⟩ hK
        obtain ⟨nw, hnw⟩ : ∃ nw, (wrTo (bs s) (countN (bs s))).length = nw := ⟨_, rfl⟩
        obtain ⟨c0, hc0⟩ : ∃ c, countN (bs s) = c := ⟨_, rfl⟩
        obtain ⟨Z, hZ⟩ : ∃ Z, runesZ (bs s) = Z := ⟨_, rfl⟩
        have hZl : Z.length = c0 := by rw [← hZ, runesZ_len, hc0]
        have HZL := Lib.hid hZl
        have hc0s : c0 ≤ s.size := by rw [← hc0]; exact bs_len_le s
        have hMb : bs M = encL (runesZ (bs s)) := by rw [← HM.out, bs_encS]
        have hMs : M.size = s.size + 2 * nw := by rw [size_bs, hMb, mend_len, size_bs, hnw]
        have hMc : countN (bs M) = c0 := by rw [hMb, mend_count, hc0]
        have hMm : encS (runesZ (bs M)) = M := bs_inj (by rw [bs_encS, hMb, mend_mend])
        have hnws : nw ≤ s.size := by rw [← hnw]; exact Nat.le_trans (wrTo_le _ _) (bs_len_le s)
        have hME : nw = 0 ↔ M = s := by
          rw [← hnw, ← mend_same (bs s), ← hMb]
          exact ⟨fun h => bs_inj h, fun h => by rw [h]⟩
        have hq : (M.toList == s.toList) = (((nw : Nat) : Int) == 0) := by
          by_cases h0 : nw = 0
          · rw [hME.1 h0, h0]
            simp
          · have h1 : ((nw : Int) == 0) = false := beq_eq_false_iff_ne.2 (by omega)
            rw [h1]
            refine beq_eq_false_iff_ne.2 (fun e => h0 (hME.2 (bs_inj ?_)))
            rw [ByteArray.toList_eq, ByteArray.toList_eq] at e
            exact e
        have hw1 : IntKind.i64.wrap (2 * (nw : Int)) = 2 * (nw : Int) := by rw [IntKind.wrap_i64]; omega
        have hw2 : IntKind.i64.wrap ((s.size : Int) + 2 * (nw : Int)) = (s.size : Int) + 2 * (nw : Int) := by rw [IntKind.wrap_i64]; omega
        rw [hnw] at c5
        have HRS := Lib.hid (runes_any s (by omega))
        have HES := Lib.hid (fun a c W (hR : ReadsI W .i32 a Z) => encode_any a c Z W hR (by rw [← hZ]; exact runesZ_wf _) (by rw [hZl]; omega))
        have hEZ : encS Z = M := by rw [← hZ]; exact HM.out
        have HMM := Lib.hid (mend_any M (by omega))
        have HCM := Lib.hid (count_any M (by omega))
        have HCS := Lib.hid (count_any s (by omega))
        simp only [hZ, hc0] at HRS
        simp only [hZl, hEZ] at HES
        rw [hMm] at HMM
        rw [hMc] at HCM
        rw [hc0] at HCS
        have hrf : Conv.runesFrom s s.size 0 #[] = (Z.map (Value.int .i32)).toArray := by rw [runesFrom_all, hZ]
        have hcv1 : ∀ W, (convert 9 27 (.string s)).run Tryd.prog W = .ok (.slice (some ⟨W.heap.size, 0, none⟩) c0 (grownCap W c0 0 21)) (W.drew.alloc (.cells ((Z.map (Value.int .i32)).toArray ++ Array.replicate (grownCap W c0 0 21 - c0) (.int .i32 0)) 21)) := by
          intro W
          have := run_runes_of_string (P := Tryd.prog) W 9 27 21 s Tryd.underlying9 Tryd.underlying27 Tryd.underlying21 (by rw [hrf]; simp [hZl]; omega)
          rw [hrf] at this
          simpa [hZl] using this
        have hcv2 : ∀ W, (convert 27 9 (.slice (some ⟨W.heap.size, 0, none⟩) c0 (grownCap W c0 0 21))).run Tryd.prog (W.drew.alloc (.cells ((Z.map (Value.int .i32)).toArray ++ Array.replicate (grownCap W c0 0 21 - c0) (.int .i32 0)) 21)) = .ok (.string M) (W.drew.alloc (.cells ((Z.map (Value.int .i32)).toArray ++ Array.replicate (grownCap W c0 0 21 - c0) (.int .i32 0)) 21)) := by
          intro W
          have := run_convert_runes (P := Tryd.prog) (W.drew.alloc (.cells ((Z.map (Value.int .i32)).toArray ++ Array.replicate (grownCap W c0 0 21 - c0) (.int .i32 0)) 21)) 27 9 21 ⟨W.heap.size, 0, none⟩ c0 (grownCap W c0 0 21) Z (by omega) Tryd.underlying27 Tryd.underlying21 Tryd.underlying9 (fun i hi => by
            rw [Addr.add_lit, Nat.zero_add]
            refine (World.cell?_alloc_at (w := W.drew) _ _ W.heap.size i rfl).trans ?_
            rw [Array.getElem?_append_left (by simpa using hi)]
            simp [List.getD, hi])
          rw [this, show Z.take c0 = Z from by rw [← hZl, List.take_length], runesBytes_enc, hEZ]
        have d3V := (show Boxed V w.heap.size 9 (.string s) from (hbw.block _ b3V.lt).trans b3V).cell
        have r4V : Boxed V (w.heap.size + 1) 4 (.bool false) := (hbw.block _ b4V.lt).trans b4V
        have d5V := c5.cell
        have hS := And.intro d3V (And.intro d5V (show V.grownBy V (some (w.heap.size + 1)) from ⟨rfl, rfl, rfl, Nat.le_refl _, fun _ _ _ => rfl⟩))
        have hcv2V : (convert 27 9 (.slice (some ⟨V.heap.size, 0, none⟩) c0 (grownCap V.drew c0 0 21))).run Tryd.prog (V.alloc (.cells ((Z.map (Value.int .i32)).toArray ++ Array.replicate (grownCap V.drew c0 0 21 - c0) (.int .i32 0)) 21)).drew.drew = .ok (.string M) (V.alloc (.cells ((Z.map (Value.int .i32)).toArray ++ Array.replicate (grownCap V.drew c0 0 21 - c0) (.int .i32 0)) 21)).drew.drew := hcv2 V.drew
        clear hcv2
        have hne3 : w.heap.size ≠ w.heap.size + 1 := by omega
        have hne5 : w7.heap.size ≠ w.heap.size + 1 := by omega
        have hbVw : Below w.heap.size w V := hb7w.trans (hbw.mono hsw)
        clear hME HM HE HMS hrf hMb hMc hMm hEZ hZ hc0 hnw hZl
        go_wp2_with fail
        refine wp_region_noPanic ?_
        go_region_held_law (fun w' => w'.cell? ⟨w.heap.size, 0, none⟩ = some (.string s) ∧ w'.cell? ⟨w7.heap.size, 0, none⟩ = some (.int .i64 (nw : Nat)) ∧ V.grownBy w' (some (w.heap.size + 1))) (first | (with_reducible exact g3_set (by assumption) hne3 hne5 _) | (with_reducible assumption) | (with_reducible exact g3_keep hS (Below.refl _ _).drew) | (with_reducible exact g3_keep (by assumption) (by assumption)) | (with_reducible exact g3_keep hS (((Below.refl _ _).alloc (Nat.le_refl _) _).drew.drew)))
          (first | (go_at_call 22; (with_reducible refine (HRS.out _).mono ?_); rintro e w8 ⟨v8, rfl, hv8, hb8⟩; obtain ⟨a8, c8, e8, -, R8⟩ := ReadsI.owned (zs := Z) hv8; rw [HZL.out] at e8; subst e8; have hV8 := nx (((Below.refl _ _).alloc (Nat.le_refl _) _).drew.drew) hb8) | (go_at_call 32; (with_reducible refine (HES.out a8 c8 w8 R8).mono ?_); rintro e w9 ⟨rfl, hb9⟩; have hV9 := nx hV8 hb9) | (go_at_call 26; (with_reducible refine (HMM.out _).mono ?_); rintro e w10 ⟨rfl, hb10⟩; have hV10 := nx hV9 hb10) | (go_at_call 19; (with_reducible refine (HCM.out _).mono ?_); rintro e w11 ⟨rfl, hb11⟩; have hV11 := nx hV10 hb11) | (go_at_call 19; (with_reducible refine (HCS.out _).mono ?_); rintro e w12 ⟨rfl, hb12⟩; have hV12 := nx hV11 hb12; have rY : Boxed w12 (w.heap.size + 1) 4 (.bool false) := (hV12.block _ r4V.lt).trans r4V; have eY := rY.cell; have fY := rY.frozen))
        all_goals
          refine NoPanic.normal ?_
          have hlD := (Array.getElem?_eq_some_iff.1 hK).1
          have hb5 : Below w.heap.size w (w12.setCell ⟨w.heap.size + 1, 0, none⟩ (.bool true)) := (hbVw.trans (hV12.mono hbVw.size)).setCell (p := ⟨w.heap.size + 1, 0, none⟩) (Nat.le_succ _) _
          have hK4 : (w12.setCell ⟨w.heap.size + 1, 0, none⟩ (.bool true)).heap[D]? = some (.deferred (some [])) := (KeepsOthers.setCell w12 ⟨w.heap.size + 1, 0, none⟩ (.bool true)).same D _ ((hV12.block _ hlD).trans hK) rfl
          have rT : Boxed (w12.setCell ⟨w.heap.size + 1, 0, none⟩ (.bool true)) (w.heap.size + 1) 4 (.bool true) := rY.set _
          clear hcv1 hcv2V hw1 hw2 hq hMs
          go_wp2_with fail
          obtain ⟨W5, hW5⟩ : ∃ W5, w12.setCell ⟨w.heap.size + 1, 0, none⟩ (.bool true) = W5 := ⟨_, rfl⟩
          rw [hW5] at hK4 hb5 rT ⊢
          clear hW5
          have c6 : Boxed (W5.putObj D (.deferred none)) (w.heap.size + 1) 4 (.bool true) := (World.putObj_heap_other (by omega)).trans rT
          have hc6 := c6.cell
          refine ⟨by simp, .inl ⟨_, _, rfl, run_takeDeferred hK4, ?_⟩⟩
          refine ⟨.bool true, ?_, rfl, hb5.trans (belowK_b (w := w) (Nat.le_refl _) W5 D _ _ (by omega) hK4 rfl rfl)⟩
          simp [results, Tryd.f10, go_sem, hc6]
      case stop =>
        rintro D c pre V hD ⟨k', hk', rfl⟩ ⟨rfl, x, hx, hxs⟩ hK
        exact absurd (wrTo_lt (bs s) k' hk' x hx) (by rw [← size_bs]; omega)
end Go.Proofs.YtnfjohlbpbonhaaDoor
