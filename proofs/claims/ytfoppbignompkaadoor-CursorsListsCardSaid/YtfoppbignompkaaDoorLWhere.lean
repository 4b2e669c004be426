/-
  The line and the column of a place: the contract of Where.
-/
import Derived.Test.YtfoppbignompkaaDoorLAllK
import Derived.Test.YtfoppbignompkaaDoorWhereLaw
namespace Go.Proofs.YtfoppbignompkaaDoor
open Go.RowKit
attribute [local go_sem] Oper.semAt_some

theorem keepsFrom_far {B M : Nat} {W X Y : World} (h : KeepsFrom B W X) (hg : X.grownBy Y (some M)) (hM : W.heap.size ≤ M) : KeepsFrom B W Y :=
  ⟨Nat.le_trans h.size hg.size, fun k o hB hk ho => by
    have h1 := h.same k o hB hk ho
    have h2 := (Array.getElem?_eq_some_iff.1 hk).1
    exact (hg.block k (by have := h.size; omega) (fun e => by injection e with e; omega)).trans h1⟩
/-- a frame with a line's variables in it -/
def LkAt (l : Bs) (T : TypeId) (B : Nat) (f : Nat → Nat → Act) (k : Nat) (a : Act) (W : World) : Prop := ∃ p, B ≤ p ∧ Two W p T (.int .i64 ((lnX l k).1 : Nat)) (.int .i64 ((lnX l k).2.1 : Nat)) ∧ a = f k p
theorem lkAt_own (l : Bs) (T : TypeId) (B : Nat) (f : Nat → Nat → Act) (k : Nat) (a : Act) (C : Nat) : OwnFrom C (fun (_ : Unit) W => LkAt l T B f k a W) := by
  rintro s W W' row ⟨p, h1, h2, h3⟩ hg hr
  exact ⟨p, h1, two_own (β := Unit) p T (fun _ => .int .i64 ((lnX l k).1 : Nat)) (fun _ => .int .i64 ((lnX l k).2.1 : Nat)) () W W' row h2 hg (fun r e => (hr r e).2), h3⟩

set_option maxHeartbeats 2000000 in
theorem lwhere_out (s : ByteArray) (hs : s.size ≤ 140737488351232) (c : Int) (hc : c < 0 ∨ (s.size : Int) < c) (w : World) :
    Calls Tryd.prog 25 #[.string s, .int .i64 c] w fun e w' => e = .returned (.tuple #[.agg #[.int .i64 0, .int .i64 0], .int .i64 6]) ∧ Below w.heap.size w w' := by
  rcases hc with h0 | h1
  · go_enter Tryd.func25, Tryd.ntmps25
    go_wp2_with fail
    exact bodyPost_ret (v := .tuple #[.agg #[.int .i64 0, .int .i64 0], .int .i64 6]) (by simp [results, Tryd.results25, go_sem]) rfl ⟨rfl, al (al (al (Below.refl _ _) _) _) _⟩
  · have h0 : ¬ c < 0 := by omega
    go_enter Tryd.func25, Tryd.ntmps25
    go_wp2_with fail
    exact bodyPost_ret (v := .tuple #[.agg #[.int .i64 0, .int .i64 0], .int .i64 6]) (by simp [results, Tryd.results25, go_sem]) rfl ⟨rfl, al (al (al (Below.refl _ _) _) _) _⟩

set_option maxRecDepth 10000 in
set_option maxHeartbeats 4000000 in
theorem lwhere_at (s : ByteArray) (hs : s.size ≤ 140737488351232) (c : Nat) (hc : c ≤ s.size) (w : World) (hT : Tabs w) :
    Calls Tryd.prog 25 #[.string s, .int .i64 (c : Nat)] w fun e w' => e = .returned (.tuple #[.agg #[.int .i64 (lnOf (bs s) c : Nat), .int .i64 (colOf (bs s) c : Nat)], .int .i64 0]) ∧ Below w.heap.size w w' := by
  have HT := Lib.hid hT
  have hN := lnN_le (bs s)
  rw [← size_bs] at hN
  clear hT
  refine callsIn_wide.1 (callsIn_of_wp_marks (n := 9) Tryd.func25 rfl trivial (wpIn_wide.2 ?_) rfl)
  simp only [Tryd.ntmps25, List.size_toArray, List.length_cons, List.length_nil, Nat.reduceAdd, Nat.reduceSub, Array.replicate_succ, Array.replicate_zero, List.push_toArray, List.append_toArray, List.nil_append, List.cons_append]
  have hc0 : decide ((c : Int) < 0) = false := decide_eq_false (by omega)
  have hc1 : decide (s.size < c) = false := decide_eq_false (by omega)
  go_wp2_with (first | (go_at_call 54; (with_reducible refine (lall_in s _).mono ?_); rintro e w2 ⟨rfl, rfl⟩))
  obtain ⟨X, hX⟩ : ∃ X, allocs w [.cells #[.string s] 9, .cells #[.int .i64 (c : Nat)] 3, .cells #[.int .i64 0, .int .i64 0] 45, .cells #[.int .i64 0, .int .i64 0] 45, .cells #[.string s] 9] = X := ⟨_, rfl⟩
  have b0 : Boxed X w.heap.size 9 (.string s) := by rw [← hX]; exact allocs_get _ w 0 _ rfl
  have b1 : Boxed X (w.heap.size + 1) 3 (.int .i64 (c : Nat)) := by rw [← hX]; exact allocs_get _ w 1 _ rfl
  have t2 : Two X (w.heap.size + 1 + 1) 45 (.int .i64 0) (.int .i64 0) := by rw [← hX]; exact allocs_get _ w 2 _ rfl
  have t3 : Two X (w.heap.size + 1 + 1 + 1) 45 (.int .i64 0) (.int .i64 0) := by rw [← hX]; exact allocs_get _ w 3 _ rfl
  have b4 : Boxed X (w.heap.size + 1 + 1 + 1 + 1) 9 (.string s) := by rw [← hX]; exact allocs_get _ w 4 _ rfl
  have hbX : Below w.heap.size w X := by rw [← hX]; exact allocs_below _ _ _ (Below.refl _ _)
  have hlt4 := b4.lt
  simp only [allocs] at hX
  rw [hX]
  clear hX
  have hstops := lallk_stops (9 - 1) (by decide) (w.heap.size + 1 + 1 + 1 + 1) w HT.out s hs X hbX b4.cell
  refine (wpIn_wide (n := 9)).1 ?_
  refine' wpIn_rangeFunc_ownH rfl (by decide) (gf := 88) (lb := #[.pointer (some ⟨w.heap.size + 1 + 1 + 1 + 1, 0, none⟩)]) rfl trivial (enters_of Tryd.func88 (by kernel_rfl) rfl)
    hstops kpW_t (kpW_b (by omega) (by omega)) (Below.refl _ _) (fun _ => rfl)
    (fun (pre : List Nat) W => (∀ y ∈ pre, Skip (bs s) c y) ∧ Two W (w.heap.size + 1 + 1 + 1) 45 (.int .i64 (pre.length : Nat)) (.int .i64 0) ∧ Boxed W (w.heap.size + 1 + 1 + 1 + 1) 9 (.string s) ∧ Below (w.heap.size + 1 + 1 + 1) X W)
    (fun cc (pre' : List Nat) W => cc = .exit 0 ∧ (∃ pre x j, pre' = pre ++ [x] ∧ (∀ y ∈ pre, Skip (bs s) c y) ∧ ¬ Skip (bs s) c x ∧ CntIs (pieceL (bs s) (lnX (bs s) x).1 ((lnX (bs s) x).2.1 + (lnX (bs s) x).2.2)) (lnX (bs s) x).1 c j ∧ Two W (w.heap.size + 1 + 1 + 1) 45 (.int .i64 (pre.length : Nat)) (.int .i64 ((j : Int) - (decN (bs s) c : Nat)))) ∧ Below (w.heap.size + 1 + 1 + 1) X W)
    (OwnFrom.and (ownFrom_pure _ (fun (pre : List Nat) => ∀ y ∈ pre, Skip (bs s) c y)) (OwnFrom.and (Own.from (two_own _ _ (fun (pre : List Nat) => .int .i64 (pre.length : Nat)) (fun _ => .int .i64 0)) _) (OwnFrom.and (Own.from (boxed_own _ _ (fun _ => .string s)) _) (ownFrom_below (by omega) (by omega)))))
    (fun cc s' A' B' row hs' hg hr => ⟨hs'.1, hs'.2.1.imp fun pre h => h.imp fun x h => h.imp fun j h => ⟨h.1, h.2.1, h.2.2.1, h.2.2.2.1, two_own (β := List Nat) _ _ (fun _ => .int .i64 (pre.length : Nat)) (fun _ => .int .i64 ((j : Int) - (decN (bs s) c : Nat))) s' A' B' row h.2.2.2.2 hg (fun r e => (hr r e).2)⟩, ownFrom_below (β := List Nat) (B := X.heap.size) (by omega) (by omega) s' A' B' row hs'.2.2 hg hr⟩)
    ⟨fun y h => (by cases h), t3, b4, Below.refl _ _⟩
    (LkAt (bs s) 49 X.heap.size (fun k p => ⟨#[.string s, .int .i64 (c : Nat), .pointer (some ⟨w.heap.size, 0, none⟩), .pointer (some ⟨w.heap.size + 1, 0, none⟩), .pointer (some ⟨w.heap.size + 1 + 1, 0, none⟩), .int .i64 0, .pointer (some ⟨w.heap.size + 1 + 1 + 1, 0, none⟩), .pointer (some ⟨p, 0, none⟩), .int .i64 ((lnX (bs s) k).2.2 : Nat), undef, undef, .int .i64 (c : Nat), .bool false, .bool false, .int .i64 (c : Nat), .string s, .int .i64 (s.size : Nat), .bool false, .bool false, undef, .string s, .func (.func 88) #[] #[.pointer (some ⟨w.heap.size + 1 + 1 + 1 + 1, 0, none⟩)], .agg #[.int .i64 ((lnX (bs s) k).1 : Nat), .int .i64 ((lnX (bs s) k).2.1 : Nat)], .int .i64 ((lnX (bs s) k).2.2 : Nat), undef, undef, undef, undef, undef, undef, undef, undef, undef, undef, undef, undef, undef, undef, undef, undef, undef, undef, undef, undef, undef, undef, undef, undef, undef, undef, undef, undef, undef, undef, undef, undef, undef, undef, undef, undef, undef, undef, undef, undef, undef, undef, undef], []⟩)) (fun x a => lkAt_own _ _ _ _ x a _) ?assign ?body ?done ?stop
  case assign =>
    rintro q pre x W K ⟨hp, c3, c4, hbW⟩ hK
    dsimp only [encK, encLn]
    gi_wp2
    have hnew := Two.new W 49 (.int .i64 ((lnX (bs s) x).1 : Nat)) (.int .i64 ((lnX (bs s) x).2.1 : Nat))
    have hszW := hbW.size
    obtain ⟨p, hpp⟩ : ∃ p, W.heap.size = p := ⟨_, rfl⟩
    rw [hpp] at hnew hszW ⊢
    exact hK _ _ ((KeepsOthers.alloc W _).from _) ⟨⟨(KeepsOthers.alloc W _).walks, (Below.refl _ W).alloc (by omega) _⟩, (c4.alloc _).trans c4.symm⟩ ⟨hp, c3.alloc _, c4.alloc _, hbW.alloc (by omega) _⟩ ⟨p, hszW, hnew, rfl⟩
  case body =>
    rintro q pre x a' W hq hqr ⟨hp, c3, c4, hbW⟩ ⟨p, hpX, tp, rfl⟩ hge
    have c0 : Boxed W w.heap.size 9 (.string s) := (hbW.block _ (by omega)).trans b0
    have c1 : Boxed W (w.heap.size + 1) 3 (.int .i64 (c : Nat)) := (hbW.block _ (by omega)).trans b1
    have d0 := c0.cell
    have d1 := c1.cell
    have d30 := c3.cell0
    have d31 := c3.cell1
    have f30 := c3.frozen0
    have f31 := c3.frozen1
    have e0 := tp.cell0
    have e1 := tp.cell1
    have hpl : pre.length ≤ 140737488351233 := by omega
    have hSK := skip_iff (l := bs s) (c := c) (k := x)
    obtain ⟨g1, g2, g3⟩ := lnX_fits (bs s) x
    rw [← size_bs] at g2
    rw [show lnE (bs s) x = (lnX (bs s) x).2.2 from rfl, show lnB (bs s) x = (lnX (bs s) x).2.1 from rfl] at hSK
    dsimp only
    obtain ⟨A, hA⟩ : ∃ A, (lnX (bs s) x).1 = A := ⟨_, rfl⟩
    obtain ⟨B, hB⟩ : ∃ A, (lnX (bs s) x).2.1 = A := ⟨_, rfl⟩
    obtain ⟨E, hE⟩ : ∃ A, (lnX (bs s) x).2.2 = A := ⟨_, rfl⟩
    rw [hA] at e0 tp g1
    rw [hB] at e1 tp g1 g2 hSK
    rw [hE] at g2 g3 hSK
    rw [hA, hB, hE]
    have HAB := Lib.hid (And.intro hA (And.intro hB hE))
    have HSK := Lib.hid hSK
    have HP := Lib.hid hp
    clear hA hB hE hSK hp
    obtain ⟨To, hTo⟩ : ∃ To, B + E = To := ⟨_, rfl⟩
    have HTO := Lib.hid hTo
    have hToi : (B : Int) + (E : Int) = (To : Int) := by omega
    rw [hTo] at g2 HSK
    have hAT : A ≤ To := by omega
    clear hTo
    by_cases h1 : To ≤ c
    · have h1i : decide (To ≤ c) = true := decide_eq_true h1
      by_cases h2 : E = 0
      · have h2i : decide (0 < E) = false := decide_eq_false (by omega)
        have HNS := Lib.hid (show ¬ Skip (bs s) c x from fun h => (HSK.out.1 h).1 h2)
        clear h2
        gi_wp2
        have HS := Lib.hid (show bs (s.extract A To) = pieceL (bs s) A To from bs_extract s A To)
        have hTs : (s.extract A To).size = To - A := by rw [ByteArray.size_extract]; omega
        obtain ⟨T, hT2⟩ : ∃ T, s.extract A To = T := ⟨_, rfl⟩
        obtain ⟨S, hS2⟩ : ∃ S, pieceL (bs s) A To = S := ⟨_, rfl⟩
        have HSS := Lib.hid hS2
        rw [hT2] at HS hTs ⊢
        rw [hS2] at HS
        clear hT2 hS2
        have hp3 : w.heap.size + 1 + 1 + 1 < W.heap.size := c3.lt
        have hpW : p < W.heap.size := tp.lt
        gi_loopw [10] (fun _ wr => ∃ done pz, Cut S done pz ∧ wr.heap[W.heap.size]? = some (.stringIter T pz) ∧ Two wr (w.heap.size + 1 + 1 + 1) 45 (.int .i64 (pre.length : Nat)) (.int .i64 (done.length : Nat)) ∧ Two wr p 49 (.int .i64 (A : Nat)) (.int .i64 (B : Nat)) ∧ Below (w.heap.size + 1 + 1 + 1) X wr ∧ Hid (done.length = 0 ∨ A + atN S (done.length - 1) ≤ c) ∧ Hid (KeepsFrom X.heap.size W wr)) (fun _ wr => T.size - wr.iterPos W.heap.size)
        case atStart => exact ⟨[], 0, Cut.zero _, World.iter_heap _ _ _, c3.alloc _, tp.alloc _, hbW.alloc (by omega) _, Lib.hid (.inl rfl), Lib.hid ((KeepsOthers.alloc W _).from _)⟩
        case round =>
          clear d0 d1 d30 d31 f30 f31 e0 e1
          obtain ⟨done, pz, hcu, hit, c3r, tpr, hbr, hdn, hkf⟩ := hrel
          have hlen : S.length = T.size := by rw [← HS.out, size_bs]
          have hdl := hcu.len_le
          have hpl2 := hcu.1
          by_cases hp : pz < T.size
          · have hp' : pz < S.length := by omega
            have hnx := fun ty => Lib.run_next_any_at (P := Tryd.prog) wr W.heap.size T pz ty hit hp
            rw [decode_bs, HS.out] at hnx
            have hcs := hcu.step hp'
            have hw := (wid_bounds (S.drop pz)).1
            have hat := hcu.at'
            have hlc := hcu.le_count
            obtain ⟨d, hd⟩ : ∃ d, d = Lib.decodeL (S.drop pz) := ⟨_, rfl⟩
            rw [← hd] at hnx hcs hw
            obtain ⟨r, n'⟩ := d
            simp only at hnx hw hcs
            have hg : wr.grownBy (wr.iterAt W.heap.size T (pz + n')) (some W.heap.size) := grownBy_putObj' _ _ _
            have hbV : Below (w.heap.size + 1 + 1 + 1) X (wr.iterAt W.heap.size T (pz + n')) := hbr.grown hg (Nat.le_trans (by omega) hbr.size) (fun k e => by cases e; omega)
            have c3V := c3r.kept hg (fun e => by injection e; omega)
            have tpV := tpr.kept hg (fun e => by injection e; omega)
            have HKF := Lib.hid (keepsFrom_far hkf.out hg (Nat.le_refl _))
            have HIT := Lib.hid (Lib.iterAt_heap wr W.heap.size T pz (pz + n') hit)
            have HIP := Lib.hid (show wr.iterPos W.heap.size = pz from iterPos_of hit)
            obtain ⟨V, hV⟩ : ∃ V, wr.iterAt W.heap.size T (pz + n') = V := ⟨_, rfl⟩
            rw [hV] at hnx HIT hbV c3V tpV HKF
            have HCS := Lib.hid hcs
            have HAT := Lib.hid hat
            have c0V : Boxed V w.heap.size 9 (.string s) := (hbV.block _ (by omega)).trans b0
            have c1V : Boxed V (w.heap.size + 1) 3 (.int .i64 (c : Nat)) := (hbV.block _ (by omega)).trans b1
            have d0 := c0V.cell
            have d1 := c1V.cell
            have d30 := c3V.cell0
            have d31 := c3V.cell1
            have f31 := c3V.frozen1
            have e0 := tpV.cell0
            have e1 := tpV.cell1
            have hdl3 : done.length ≤ 140737488351232 := by omega
            have hApz : A + pz ≤ 140737488351232 := by omega
            clear hd hcs hat hg hV hit hcu
            by_cases hgt : c < A + pz
            · have hgt1 : decide ((c : Int) < (A : Int) + (pz : Int)) = true := decide_eq_true (by omega)
              have hcl : c < s.size := by omega
              have HCN := Lib.hid (show CntIs (pieceL (bs s) A To) A c done.length from by rw [HSS.out]; exact ⟨hlc, hdn.out, .inr (by rw [HAT.out]; exact hgt)⟩)
              clear hgt
              have HD := Lib.hid (show decN (bs s) c = 1 from if_pos (by rw [← size_bs]; exact hcl))
              have hcl1 : decide (c < s.size) = true := decide_eq_true hcl
              gi_wp2
              refine ⟨?_, rfl, ⟨pre, x, done.length, rfl, HP.out, HNS.out, ?_, ?_⟩, (hbV.setCell (p := ⟨w.heap.size + 1 + 1 + 1, 1, none⟩) (Nat.le_refl _) _)⟩
              · exact HKF.out.trans ((KeepsOthers.setCell _ ⟨w.heap.size + 1 + 1 + 1, 1, none⟩ _).from _)
              · rw [HAB.out.1, HAB.out.2.1, HAB.out.2.2, HTO.out]; exact HCN.out
              · rw [HD.out]; exact c3V.set1 _
            · have hgt1 : decide ((c : Int) < (A : Int) + (pz : Int)) = false := decide_eq_false (by omega)
              have HDN := Lib.hid (show (done ++ [(r, n')]).length = 0 ∨ A + atN S ((done ++ [(r, n')]).length - 1) ≤ c by right; rw [List.length_append, List.length_singleton, Nat.add_sub_cancel, HAT.out]; omega)
              clear hgt
              gi_wp2
              refine ⟨⟨_, _, HCS.out, (Below.heap_setCell _ _ _ _ (by simp only; omega)).trans HIT.out, ?_, tpV.other (by omega) _ _, hbV.setCell (p := ⟨w.heap.size + 1 + 1 + 1, 1, none⟩) (Nat.le_refl _) _, HDN, Lib.hid (HKF.out.trans ((KeepsOthers.setCell _ ⟨w.heap.size + 1 + 1 + 1, 1, none⟩ _).from _))⟩, ?_⟩
              · rw [List.length_append, List.length_singleton]; exact c3V.set1 _
              · rw [iterPos_of ((Below.heap_setCell V ⟨w.heap.size + 1 + 1 + 1, 1, none⟩ _ _ (by simp only; omega)).trans HIT.out), HIP.out]; omega
          · have hnx := fun ty => Lib.run_next_end_at (P := Tryd.prog) wr W.heap.size T pz ty hit hp
            have hlc := hcu.le_count
            have hE2 := (hcu.end' (by omega)).1
            have HCN := Lib.hid (show CntIs (pieceL (bs s) A To) A c done.length from by rw [HSS.out]; exact ⟨hlc, hdn.out, .inl (by rw [hE2]; rfl)⟩)
            have hbV := hbr
            have c3V := c3r
            have HKF := hkf
            have c0V : Boxed wr w.heap.size 9 (.string s) := (hbV.block _ (by omega)).trans b0
            have c1V : Boxed wr (w.heap.size + 1) 3 (.int .i64 (c : Nat)) := (hbV.block _ (by omega)).trans b1
            have d0 := c0V.cell
            have d1 := c1V.cell
            have d30 := c3V.cell0
            have d31 := c3V.cell1
            have f31 := c3V.frozen1
            have hdl3 : done.length ≤ 140737488351232 := by omega
            clear hE2 hit hcu
            by_cases hcl : c < s.size
            · skip
              have HD := Lib.hid (show decN (bs s) c = 1 from if_pos (by rw [← size_bs]; exact hcl))
              have hcl1 : decide (c < s.size) = true := decide_eq_true hcl
              gi_wp2
              refine ⟨?_, rfl, ⟨pre, x, done.length, rfl, HP.out, HNS.out, ?_, ?_⟩, (hbV.setCell (p := ⟨w.heap.size + 1 + 1 + 1, 1, none⟩) (Nat.le_refl _) _)⟩
              · exact HKF.out.trans ((KeepsOthers.setCell _ ⟨w.heap.size + 1 + 1 + 1, 1, none⟩ _).from _)
              · rw [HAB.out.1, HAB.out.2.1, HAB.out.2.2, HTO.out]; exact HCN.out
              · rw [HD.out]; exact c3V.set1 _
            · skip
              have HD := Lib.hid (show decN (bs s) c = 0 from if_neg (by rw [← size_bs]; exact hcl))
              have hcl1 : decide (c < s.size) = false := decide_eq_false hcl
              gi_wp2
              refine ⟨HKF.out, rfl, ⟨pre, x, done.length, rfl, HP.out, HNS.out, ?_, ?_⟩, hbV⟩
              · rw [HAB.out.1, HAB.out.2.1, HAB.out.2.2, HTO.out]; exact HCN.out
              · rw [HD.out]; simpa using c3V
      · have h2i : decide (0 < E) = true := decide_eq_true (by omega)
        have HNS := Lib.hid (show Skip (bs s) c x from HSK.out.2 ⟨h2, h1⟩)
        gi_wp2
        have hK2 := KeepsOthers.setCell W ⟨w.heap.size + 1 + 1 + 1, 0, none⟩ (.int .i64 ((pre.length : Nat) + 1))
        refine ⟨hK2.from _, ⟨⟨hK2.walks, (Below.refl _ W).setCell (p := ⟨w.heap.size + 1 + 1 + 1, 0, none⟩) (by simp only; omega) _⟩, Eq.trans (boxOther c4 (B' := w.heap.size + 1 + 1 + 1) (by omega) 0 _) c4.symm⟩, fun y hy => ?_, ?_, boxOther c4 (by omega) _ _, hbW.setCell (p := ⟨w.heap.size + 1 + 1 + 1, 0, none⟩) (Nat.le_refl _) _⟩
        · rcases List.mem_append.1 hy with h | h
          · exact HP.out y h
          · rw [List.mem_singleton.1 h]; exact HNS.out
        · rw [List.length_append, List.length_singleton]
          exact c3.set0 _
    · have h1i : decide (To ≤ c) = false := decide_eq_false h1
      have HNS := Lib.hid (show ¬ Skip (bs s) c x from fun h => h1 (HSK.out.1 h).2)
      gi_wp2
      have HS := Lib.hid (show bs (s.extract A To) = pieceL (bs s) A To from bs_extract s A To)
      have hTs : (s.extract A To).size = To - A := by rw [ByteArray.size_extract]; omega
      obtain ⟨T, hT2⟩ : ∃ T, s.extract A To = T := ⟨_, rfl⟩
      obtain ⟨S, hS2⟩ : ∃ S, pieceL (bs s) A To = S := ⟨_, rfl⟩
      have HSS := Lib.hid hS2
      rw [hT2] at HS hTs ⊢
      rw [hS2] at HS
      clear hT2 hS2
      have hp3 : w.heap.size + 1 + 1 + 1 < W.heap.size := c3.lt
      have hpW : p < W.heap.size := tp.lt
      gi_loopw [10] (fun _ wr => ∃ done pz, Cut S done pz ∧ wr.heap[W.heap.size]? = some (.stringIter T pz) ∧ Two wr (w.heap.size + 1 + 1 + 1) 45 (.int .i64 (pre.length : Nat)) (.int .i64 (done.length : Nat)) ∧ Two wr p 49 (.int .i64 (A : Nat)) (.int .i64 (B : Nat)) ∧ Below (w.heap.size + 1 + 1 + 1) X wr ∧ Hid (done.length = 0 ∨ A + atN S (done.length - 1) ≤ c) ∧ Hid (KeepsFrom X.heap.size W wr)) (fun _ wr => T.size - wr.iterPos W.heap.size)
      case atStart => exact ⟨[], 0, Cut.zero _, World.iter_heap _ _ _, c3.alloc _, tp.alloc _, hbW.alloc (by omega) _, Lib.hid (.inl rfl), Lib.hid ((KeepsOthers.alloc W _).from _)⟩
      case round =>
        clear d0 d1 d30 d31 f30 f31 e0 e1
        obtain ⟨done, pz, hcu, hit, c3r, tpr, hbr, hdn, hkf⟩ := hrel
        have hlen : S.length = T.size := by rw [← HS.out, size_bs]
        have hdl := hcu.len_le
        have hpl2 := hcu.1
        by_cases hp : pz < T.size
        · have hp' : pz < S.length := by omega
          have hnx := fun ty => Lib.run_next_any_at (P := Tryd.prog) wr W.heap.size T pz ty hit hp
          rw [decode_bs, HS.out] at hnx
          have hcs := hcu.step hp'
          have hw := (wid_bounds (S.drop pz)).1
          have hat := hcu.at'
          have hlc := hcu.le_count
          obtain ⟨d, hd⟩ : ∃ d, d = Lib.decodeL (S.drop pz) := ⟨_, rfl⟩
          rw [← hd] at hnx hcs hw
          obtain ⟨r, n'⟩ := d
          simp only at hnx hw hcs
          have hg : wr.grownBy (wr.iterAt W.heap.size T (pz + n')) (some W.heap.size) := grownBy_putObj' _ _ _
          have hbV : Below (w.heap.size + 1 + 1 + 1) X (wr.iterAt W.heap.size T (pz + n')) := hbr.grown hg (Nat.le_trans (by omega) hbr.size) (fun k e => by cases e; omega)
          have c3V := c3r.kept hg (fun e => by injection e; omega)
          have tpV := tpr.kept hg (fun e => by injection e; omega)
          have HKF := Lib.hid (keepsFrom_far hkf.out hg (Nat.le_refl _))
          have HIT := Lib.hid (Lib.iterAt_heap wr W.heap.size T pz (pz + n') hit)
          have HIP := Lib.hid (show wr.iterPos W.heap.size = pz from iterPos_of hit)
          obtain ⟨V, hV⟩ : ∃ V, wr.iterAt W.heap.size T (pz + n') = V := ⟨_, rfl⟩
          rw [hV] at hnx HIT hbV c3V tpV HKF
          have HCS := Lib.hid hcs
          have HAT := Lib.hid hat
          have c0V : Boxed V w.heap.size 9 (.string s) := (hbV.block _ (by omega)).trans b0
          have c1V : Boxed V (w.heap.size + 1) 3 (.int .i64 (c : Nat)) := (hbV.block _ (by omega)).trans b1
          have d0 := c0V.cell
          have d1 := c1V.cell
          have d30 := c3V.cell0
          have d31 := c3V.cell1
          have f31 := c3V.frozen1
          have e0 := tpV.cell0
          have e1 := tpV.cell1
          have hdl3 : done.length ≤ 140737488351232 := by omega
          have hApz : A + pz ≤ 140737488351232 := by omega
          clear hd hcs hat hg hV hit hcu
          by_cases hgt : c < A + pz
          · have hgt1 : decide ((c : Int) < (A : Int) + (pz : Int)) = true := decide_eq_true (by omega)
            have hcl : c < s.size := by omega
            have HCN := Lib.hid (show CntIs (pieceL (bs s) A To) A c done.length from by rw [HSS.out]; exact ⟨hlc, hdn.out, .inr (by rw [HAT.out]; exact hgt)⟩)
            clear hgt
            have HD := Lib.hid (show decN (bs s) c = 1 from if_pos (by rw [← size_bs]; exact hcl))
            have hcl1 : decide (c < s.size) = true := decide_eq_true hcl
            gi_wp2
            refine ⟨?_, rfl, ⟨pre, x, done.length, rfl, HP.out, HNS.out, ?_, ?_⟩, (hbV.setCell (p := ⟨w.heap.size + 1 + 1 + 1, 1, none⟩) (Nat.le_refl _) _)⟩
            · exact HKF.out.trans ((KeepsOthers.setCell _ ⟨w.heap.size + 1 + 1 + 1, 1, none⟩ _).from _)
            · rw [HAB.out.1, HAB.out.2.1, HAB.out.2.2, HTO.out]; exact HCN.out
            · rw [HD.out]; exact c3V.set1 _
          · have hgt1 : decide ((c : Int) < (A : Int) + (pz : Int)) = false := decide_eq_false (by omega)
            have HDN := Lib.hid (show (done ++ [(r, n')]).length = 0 ∨ A + atN S ((done ++ [(r, n')]).length - 1) ≤ c by right; rw [List.length_append, List.length_singleton, Nat.add_sub_cancel, HAT.out]; omega)
            clear hgt
            gi_wp2
            refine ⟨⟨_, _, HCS.out, (Below.heap_setCell _ _ _ _ (by simp only; omega)).trans HIT.out, ?_, tpV.other (by omega) _ _, hbV.setCell (p := ⟨w.heap.size + 1 + 1 + 1, 1, none⟩) (Nat.le_refl _) _, HDN, Lib.hid (HKF.out.trans ((KeepsOthers.setCell _ ⟨w.heap.size + 1 + 1 + 1, 1, none⟩ _).from _))⟩, ?_⟩
            · rw [List.length_append, List.length_singleton]; exact c3V.set1 _
            · rw [iterPos_of ((Below.heap_setCell V ⟨w.heap.size + 1 + 1 + 1, 1, none⟩ _ _ (by simp only; omega)).trans HIT.out), HIP.out]; omega
        · have hnx := fun ty => Lib.run_next_end_at (P := Tryd.prog) wr W.heap.size T pz ty hit hp
          have hlc := hcu.le_count
          have hE2 := (hcu.end' (by omega)).1
          have HCN := Lib.hid (show CntIs (pieceL (bs s) A To) A c done.length from by rw [HSS.out]; exact ⟨hlc, hdn.out, .inl (by rw [hE2]; rfl)⟩)
          have hbV := hbr
          have c3V := c3r
          have HKF := hkf
          have c0V : Boxed wr w.heap.size 9 (.string s) := (hbV.block _ (by omega)).trans b0
          have c1V : Boxed wr (w.heap.size + 1) 3 (.int .i64 (c : Nat)) := (hbV.block _ (by omega)).trans b1
          have d0 := c0V.cell
          have d1 := c1V.cell
          have d30 := c3V.cell0
          have d31 := c3V.cell1
          have f31 := c3V.frozen1
          have hdl3 : done.length ≤ 140737488351232 := by omega
          clear hE2 hit hcu
          by_cases hcl : c < s.size
          · skip
            have HD := Lib.hid (show decN (bs s) c = 1 from if_pos (by rw [← size_bs]; exact hcl))
            have hcl1 : decide (c < s.size) = true := decide_eq_true hcl
            gi_wp2
            refine ⟨?_, rfl, ⟨pre, x, done.length, rfl, HP.out, HNS.out, ?_, ?_⟩, (hbV.setCell (p := ⟨w.heap.size + 1 + 1 + 1, 1, none⟩) (Nat.le_refl _) _)⟩
            · exact HKF.out.trans ((KeepsOthers.setCell _ ⟨w.heap.size + 1 + 1 + 1, 1, none⟩ _).from _)
            · rw [HAB.out.1, HAB.out.2.1, HAB.out.2.2, HTO.out]; exact HCN.out
            · rw [HD.out]; exact c3V.set1 _
          · skip
            have HD := Lib.hid (show decN (bs s) c = 0 from if_neg (by rw [← size_bs]; exact hcl))
            have hcl1 : decide (c < s.size) = false := decide_eq_false hcl
            gi_wp2
            refine ⟨HKF.out, rfl, ⟨pre, x, done.length, rfl, HP.out, HNS.out, ?_, ?_⟩, hbV⟩
            · rw [HAB.out.1, HAB.out.2.1, HAB.out.2.2, HTO.out]; exact HCN.out
            · rw [HD.out]; simpa using c3V
  case stop =>
    rintro D cc pre' V hD ⟨k', hk', rfl⟩ ⟨rfl, ⟨pre, x, j, he, hpre, hx, hcn, c3⟩, hbV⟩ hK
    have hl := congrArg List.length he
    rw [List.length_range, List.length_append, List.length_singleton] at hl
    subst hl
    rw [List.range_succ] at he
    obtain ⟨e1, e2⟩ := List.append_inj' he rfl
    obtain rfl : pre.length = x := by simpa using e2
    have hline : IsLn (bs s) c pre.length := skip_line (by omega) (fun j hj => hpre j (by rw [← e1]; exact List.mem_range.2 hj)) hx
    have hcol := col_cnt (by rw [← size_bs]; exact hc) hline hcn
    rw [hcol] at c3
    rw [← lnOf_eq hline] at c3
    have s2 : Two V (w.heap.size + 1 + 1) 45 (.int .i64 0) (.int .i64 0) := (hbV.block _ (by omega)).trans t2
    have d20 := s2.cell0
    have d21 := s2.cell1
    have f20 := s2.frozen0
    have f21 := s2.frozen1
    have d30 := c3.cell0
    have d31 := c3.cell1
    clear he hpre hx hcn e1 e2 hline hcol
    refine wpIn_wide.2 ?_
    obtain ⟨L, hL⟩ : ∃ L, lnOf (bs s) c = L := ⟨_, rfl⟩
    obtain ⟨C, hC⟩ : ∃ C, colOf (bs s) c = C := ⟨_, rfl⟩
    rw [hL] at c3 d30
    rw [hC] at c3 d31
    have HLC := Lib.hid (And.intro hL hC)
    clear hL hC
    go_wp2_with fail
    have hk2 := ((KeepsOthers.setCell V ⟨w.heap.size + 1 + 1, 0, none⟩ (.int .i64 (L : Nat))).trans (KeepsOthers.setCell _ ⟨w.heap.size + 1 + 1, 1, none⟩ (.int .i64 (C : Nat)))).same D _ hK rfl
    have r2 := (s2.set0 (.int .i64 (L : Nat))).set1 (.int .i64 (C : Nat))
    have hb2 := ((hbX.trans (hbV.mono (by omega))).setCell (p := ⟨w.heap.size + 1 + 1, 0, none⟩) (by simp only; omega) (.int .i64 (L : Nat))).setCell (p := ⟨w.heap.size + 1 + 1, 1, none⟩) (by simp only; omega) (.int .i64 (C : Nat))
    obtain ⟨W5, hW5⟩ : ∃ W5, (V.setCell ⟨w.heap.size + 1 + 1, 0, none⟩ (.int .i64 (L : Nat))).setCell ⟨w.heap.size + 1 + 1, 1, none⟩ (.int .i64 (C : Nat)) = W5 := ⟨_, rfl⟩
    rw [hW5] at hk2 r2 hb2 ⊢
    have s1' : Two (W5.putObj D (.deferred none)) (w.heap.size + 1 + 1) 45 (.int .i64 (L : Nat)) (.int .i64 (C : Nat)) := (World.putObj_heap_other (by omega)).trans r2
    have g0 := s1'.cell0
    have g1 := s1'.cell1
    refine ⟨by simp, .inl ⟨_, _, rfl, run_takeDeferred hk2, ?_⟩⟩
    refine ⟨.tuple #[.agg #[.int .i64 (L : Nat), .int .i64 (C : Nat)], .int .i64 0], ?_, by rw [HLC.out.1, HLC.out.2], hb2.trans (belowK_b (w := w) (Nat.le_refl _) _ D _ _ (by omega) hk2 rfl rfl)⟩
    simp [results, Tryd.f25, go_sem, g0, g1]
  case done =>
    rintro D ys V hD rfl ⟨hp, -, -, -⟩ hK
    exact absurd (fun j hj => hp j (List.mem_range.2 hj)) (skip_not_all (bs s) c)
end Go.Proofs.YtfoppbignompkaaDoor
