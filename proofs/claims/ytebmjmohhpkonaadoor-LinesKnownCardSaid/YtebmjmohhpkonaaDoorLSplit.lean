/-
  The lines as texts: the contract of Split.
-/
import Derived.Test.YtebmjmohhpkonaaDoorLAllK
import Derived.Test.YtebmjmohhpkonaaDoorLWhere
import Derived.Test.YtebmjmohhpkonaaDoorLRefAll
import Derived.Test.YtebmjmohhpkonaaDoorShelf
import Derived.Test.YtebmjmohhpkonaaDoorWrong
import Derived.Test.YtebmjmohhpkonaaDoorHeldRound
import Derived.Deep.AppendLies
namespace Go.Proofs.YtebmjmohhpkonaaDoor
open Go.RowKit
attribute [local go_sem] Oper.semAt_some

set_option maxHeartbeats 1000000 in
theorem sclone_any (s : ByteArray) (hs : s.size ≤ 140737488351232) (w : World) :
    Calls Tryd.prog 34 #[.string s] w fun e w' => e = .returned (.string s) ∧ Below w.heap.size w w' := by
  have HC := Lib.hid (fun w => Tryd.stringslite_Clone s w (by omega))
  go_enter Tryd.func34, Tryd.ntmps34
  go_wp2_with (go_at_call 38; (with_reducible refine (HC.out _).mono ?_); rintro e w1 ⟨rfl, hb1⟩)
  go_ret
  exact ⟨rfl, hb1⟩

theorem info_str : (Tryd.prog.info? 9).map (fun i => (i.zero, i.size, i.bytes)) = some (some (.string ⟨#[]⟩), 1, 16) := by kernel_rfl
/-- the line number k with its end, as a text -/
def lnT (s : ByteArray) (k : Nat) : ByteArray := s.extract (lnX (bs s) k).1 ((lnX (bs s) k).2.1 + (lnX (bs s) k).2.2)

set_option maxRecDepth 10000 in
set_option maxHeartbeats 8000000 in
theorem lsplit_any (s : ByteArray) (hs : s.size ≤ 2097152) (w : World) (hT : Tabs w) :
    Calls Tryd.prog 25 #[.string s] w fun e w' => ∃ g cap, e = .returned (.slice (some ⟨g, 0, none⟩) (lnN (bs s)) (lnN (bs s))) ∧ w'.ownsRow w.heap.size 9 1 (.slice (some ⟨g, 0, none⟩) (lnN (bs s)) cap) (lnN (bs s)) ((List.range (lnN (bs s))).map fun k => Value.string (lnT s k)) ∧ Below w.heap.size w w' := by
  obtain ⟨i0, hi, hz0, hz1, hz2⟩ := info_parts info_str
  have HT := Lib.hid hT
  have hN := lnN_le (bs s)
  rw [← size_bs] at hN
  clear hT
  refine callsIn_wide.1 (callsIn_of_wp_marks (n := 9) Tryd.func25 rfl trivial (wpIn_wide.2 ?_) rfl)
  simp only [Tryd.ntmps25, List.size_toArray, List.length_cons, List.length_nil, Nat.reduceAdd, Nat.reduceSub, Array.replicate_succ, Array.replicate_zero, List.push_toArray, List.append_toArray, List.nil_append, List.cons_append]
  go_wp2_with (first | (go_at_call 30; (with_reducible refine (lall_in s _).mono ?_); rintro e w2 ⟨rfl, rfl⟩))
  obtain ⟨X, hX⟩ : ∃ X, allocs w [.cells #[.string s] 9, .cells #[.slice none 0 0] 46, .cells #[.string s] 9] = X := ⟨_, rfl⟩
  have b0 : Boxed X w.heap.size 9 (.string s) := by rw [← hX]; exact allocs_get _ w 0 _ rfl
  have b1 : Boxed X (w.heap.size + 1) 46 (.slice none 0 0) := by rw [← hX]; exact allocs_get _ w 1 _ rfl
  have b2 : Boxed X (w.heap.size + 1 + 1) 9 (.string s) := by rw [← hX]; exact allocs_get _ w 2 _ rfl
  have hbX : Below w.heap.size w X := by rw [← hX]; exact allocs_below _ _ _ (Below.refl _ _)
  have hlt2 := b2.lt
  simp only [allocs] at hX
  rw [hX]
  clear hX
  have hstops := lallk_stops (9 - 1) (by decide) (w.heap.size + 1 + 1) w HT.out s (by omega) X hbX b2.cell
  refine (wpIn_wide (n := 9)).1 ?_
  refine' wpIn_rangeFunc_ownH rfl (by decide) (gf := 37) (lb := #[.pointer (some ⟨w.heap.size + 1 + 1, 0, none⟩)]) rfl trivial (enters_of Tryd.func37 (by kernel_rfl) rfl)
    hstops kpW_t (kpW_b (by omega) (by omega)) (Below.refl _ _) (fun _ => rfl)
    (fun (pre : List Nat) W => (∃ v, Boxed W (w.heap.size + 1) 46 v ∧ W.ownsRow X.heap.size 9 1 v pre.length (pre.map fun k => Value.string (lnT s k)) ∧ True) ∧ Boxed W (w.heap.size + 1 + 1) 9 (.string s) ∧ Below (w.heap.size + 1) X W)
    (fun _ _ _ => False)
    (OwnFrom.and (Own.from (holdsRow_own _ _ _ _ _ (fun (pre : List Nat) => pre.length) (fun (pre : List Nat) => pre.map fun k => Value.string (lnT s k)) (fun _ _ => True)) _) (OwnFrom.and (Own.from (boxed_own _ _ (fun _ => .string s)) _) (ownFrom_below (by omega) (by omega))))
    (fun _ _ _ _ _ hs _ _ => hs)
    ⟨⟨_, b1, World.ownsRow_nil _ _ _ _, trivial⟩, b2, Below.refl _ _⟩
    (LkAt (bs s) 41 X.heap.size (fun k p => ⟨#[.string s, .pointer (some ⟨w.heap.size, 0, none⟩), .slice none 0 0, .pointer (some ⟨w.heap.size + 1, 0, none⟩), .pointer (some ⟨p, 0, none⟩), .int .i64 ((lnX (bs s) k).2.2 : Nat), .string s, .func (.func 37) #[] #[.pointer (some ⟨w.heap.size + 1 + 1, 0, none⟩)], .agg #[.int .i64 ((lnX (bs s) k).1 : Nat), .int .i64 ((lnX (bs s) k).2.1 : Nat)], .int .i64 ((lnX (bs s) k).2.2 : Nat), undef, undef, undef, undef, undef, undef, undef, undef, undef, undef, undef, undef, undef, undef, undef, undef, undef, undef], []⟩)) (fun x a => lkAt_own _ _ _ _ x a _) ?assign ?body ?done ?stop
  case assign =>
    rintro q pre x W K ⟨⟨v, c1, hrow, _⟩, c2, hbW⟩ hK
    dsimp only [encK, encLn]
    gi_wp2
    have hnew := Two.new W 41 (.int .i64 ((lnX (bs s) x).1 : Nat)) (.int .i64 ((lnX (bs s) x).2.1 : Nat))
    have hszW := hbW.size
    obtain ⟨p, hpp⟩ : ∃ p, W.heap.size = p := ⟨_, rfl⟩
    rw [hpp] at hnew hszW ⊢
    exact hK _ _ ((KeepsOthers.alloc W _).from _) ⟨⟨(KeepsOthers.alloc W _).walks, (Below.refl _ W).alloc (by omega) _⟩, (c2.alloc _).trans c2.symm⟩ ⟨⟨v, c1.alloc _, hrow.alloc _, trivial⟩, c2.alloc _, hbW.alloc (by omega) _⟩ ⟨p, hszW, hnew, rfl⟩
  case body =>
    rintro q pre x a' W hq hqr ⟨⟨v, c1, hrow, _⟩, c2, hbW⟩ ⟨p, hpX, tp, rfl⟩ hge
    have c0 : Boxed W w.heap.size 9 (.string s) := (hbW.block _ (by omega)).trans b0
    have d0 := c0.cell
    have d1 := c1.cell
    have f1 := c1.frozen
    have e0 := tp.cell0
    have e1 := tp.cell1
    have hpl : pre.length ≤ 2097153 := by omega
    obtain ⟨g1, g2, g3⟩ := lnX_fits (bs s) x
    rw [← size_bs] at g2
    have HLT := Lib.hid (show lnT s x = s.extract (lnX (bs s) x).1 ((lnX (bs s) x).2.1 + (lnX (bs s) x).2.2) from rfl)
    dsimp only
    obtain ⟨A, hA⟩ : ∃ A, (lnX (bs s) x).1 = A := ⟨_, rfl⟩
    obtain ⟨B, hB⟩ : ∃ A, (lnX (bs s) x).2.1 = A := ⟨_, rfl⟩
    obtain ⟨E, hE⟩ : ∃ A, (lnX (bs s) x).2.2 = A := ⟨_, rfl⟩
    rw [hA] at e0 tp g1
    rw [hB] at e1 tp g1 g2
    rw [hE] at g2 g3
    rw [hA, hB, hE] at HLT
    rw [hA, hB, hE]
    clear hA hB hE
    obtain ⟨To, hTo⟩ : ∃ To, B + E = To := ⟨_, rfl⟩
    have hToi : (B : Int) + (E : Int) = (To : Int) := by omega
    have hwr : IntKind.i64.wrap (To : Int) = (To : Int) := IntWalk.i64_in _ (by omega)
    rw [hTo] at g2 HLT
    have hAT : A ≤ To := by omega
    clear hTo
    have hTz : (s.extract A To).size ≤ 140737488351232 := by rw [ByteArray.size_extract]; omega
    have HC := Lib.hid (fun w => sclone_any (s.extract A To) hTz w)
    have hrowD : W.drew.ownsRow X.heap.size 9 1 v pre.length (pre.map fun k => Value.string (lnT s k)) := hrow
    have c1D : Boxed W.drew (w.heap.size + 1) 46 v := c1
    have c2D : Boxed W.drew (w.heap.size + 1 + 1) 9 (.string s) := c2
    have hszW : X.heap.size ≤ W.drew.heap.size := hbW.size
    have hS0 : W.drew.cell? ⟨w.heap.size, 0, none⟩ = some (.string s) ∧ W.drew.cell? ⟨p, 0, none⟩ = some (.int .i64 (A : Nat)) ∧ W.drew.cell? ⟨p, 1, none⟩ = some (.int .i64 (B : Nat)) := ⟨d0, e0, e1⟩
    gi_wp2
    refine held_round (S := fun w' => w'.cell? ⟨w.heap.size, 0, none⟩ = some (.string s) ∧ w'.cell? ⟨p, 0, none⟩ = some (.int .i64 (A : Nat)) ∧ w'.cell? ⟨p, 1, none⟩ = some (.int .i64 (B : Nat))) (by rintro ⟨_, _, h⟩; exact h) (by kernel_rfl) (by kernel_rfl) ?_
    refine wpAnyH_take (i := 1) (v := .string s) rfl (by kernel_rfl) (by kernel_rfl) (by kernel_rfl) (fun _ _ _ h => h) (.inl ⟨by rfl, fun w' hS' => ?_⟩) hS0 ?_
    · obtain ⟨k0, k1, k2⟩ := hS'
      go_simp
    refine wpAnyH_take (i := 2) (v := .pointer (some ⟨p, 0, none⟩)) rfl (by kernel_rfl) (by kernel_rfl) (by kernel_rfl) (fun _ _ _ h => h) (.inl ⟨by rfl, fun w' hS' => ?_⟩) hS0 ?_
    · obtain ⟨k0, k1, k2⟩ := hS'
      go_simp
    refine wpAnyH_take (i := 3) (v := .int .i64 (A : Nat)) rfl (by kernel_rfl) (by kernel_rfl) (by kernel_rfl) (fun _ _ _ h => h) (.inl ⟨by rfl, fun w' hS' => ?_⟩) hS0 ?_
    · obtain ⟨k0, k1, k2⟩ := hS'
      go_simp
    refine wpAnyH_take (i := 4) (v := .pointer (some ⟨p, 1, none⟩)) rfl (by kernel_rfl) (by kernel_rfl) (by kernel_rfl) (fun _ _ _ h => h) (.inl ⟨by rfl, fun w' hS' => ?_⟩) hS0 ?_
    · obtain ⟨k0, k1, k2⟩ := hS'
      go_simp
    refine wpAnyH_take (i := 5) (v := .int .i64 (B : Nat)) rfl (by kernel_rfl) (by kernel_rfl) (by kernel_rfl) (fun _ _ _ h => h) (.inl ⟨by rfl, fun w' hS' => ?_⟩) hS0 ?_
    · obtain ⟨k0, k1, k2⟩ := hS'
      go_simp
    refine wpAnyH_take (i := 6) (v := .int .i64 (E : Nat)) rfl (by kernel_rfl) (by kernel_rfl) (by kernel_rfl) (fun _ _ _ h => h) (.inl ⟨by rfl, fun w' hS' => ?_⟩) hS0 ?_
    · obtain ⟨k0, k1, k2⟩ := hS'
      go_simp
    refine wpAnyH_take (i := 7) (v := .int .i64 (To : Nat)) rfl (by kernel_rfl) (by kernel_rfl) (by kernel_rfl) (fun _ _ _ h => h) (.inl ⟨by rfl, fun w' hS' => ?_⟩) hS0 ?_
    · obtain ⟨k0, k1, k2⟩ := hS'
      go_simp
    refine wpAnyH_take (i := 8) (v := .string (s.extract A To)) rfl (by kernel_rfl) (by kernel_rfl) (by kernel_rfl) (fun _ _ _ h => h) (.inl ⟨by rfl, fun w' hS' => ?_⟩) hS0 ?_
    · obtain ⟨k0, k1, k2⟩ := hS'
      go_simp
    simp only [Act.put, List.getElem_toArray, List.getElem_cons_succ, List.getElem_cons_zero, List.setIfInBounds_toArray, List.set_cons_succ, List.set_cons_zero]
    refine wpAnyH_ready (rs := [0, 9]) (by kernel_rfl) (by simp) (AllReadyH.cons rfl (fun K hK => ?_) (AllReadyH.cons rfl (fun K hK => ?_) AllReadyH.nil))
    · go_simp
      refine hK.out _ _ hS0 (fun _ => ?_)
      clear hK K
      refine wpAnyH_ready (rs := [9]) (by kernel_rfl) (by simp) (AllReadyH.cons rfl (fun K hK => ?_) AllReadyH.nil)
      go_simp
      refine (HC.out _).mono ?_
      rintro e w1 ⟨rfl, hb1⟩
      have hS1 := And.intro (cellKeep hS0.1 hb1) (And.intro (cellKeep hS0.2.1 hb1) (cellKeep hS0.2.2 hb1))
      have dd1 := cellKeep (W := W.drew) d1 hb1
      refine hK.out _ _ hS1 (fun _ => ?_)
      clear hK K
      refine wpAnyH_ready (rs := [10]) (by kernel_rfl) (by simp) (AllReadyH.cons rfl (fun K hK => ?_) AllReadyH.nil)
      go_simp
      have hS2 := And.intro (cellKeep hS1.1 ((Below.refl _ _).alloc (Nat.le_refl _) (.cells #[.string (s.extract A To)] 9))) (And.intro (cellKeep hS1.2.1 ((Below.refl _ _).alloc (Nat.le_refl _) (.cells #[.string (s.extract A To)] 9))) (cellKeep hS1.2.2 ((Below.refl _ _).alloc (Nat.le_refl _) (.cells #[.string (s.extract A To)] 9))))
      refine hK.out _ _ hS2 (fun _ => ?_)
      clear hK K
      have cc1 : Boxed w1 (w.heap.size + 1) 46 v := (hb1.block _ c1D.lt).trans c1D
      have cc2 : Boxed w1 (w.heap.size + 1 + 1) 9 (.string s) := (hb1.block _ c2D.lt).trans c2D
      have cc0 : Boxed w1 w.heap.size 9 (.string s) := (hb1.block _ c0.lt).trans c0
      have tp1 : Two w1 p 41 (.int .i64 (A : Nat)) (.int .i64 (B : Nat)) := (hb1.block _ tp.lt).trans tp
      have hown1 := owns_below hrowD hb1 (Nat.le_refl _)
      have hsz1 : X.heap.size ≤ w1.heap.size := Nat.le_trans hszW hb1.size
      refine wpAnyH_ready (rs := [11]) (by kernel_rfl) (by simp) (AllReadyH.cons rfl (fun K hK => ?_) AllReadyH.nil)
      refine step_append_lies _ (by rfl) _ _ _ (by rfl) X.heap.size 9 i0 (.string ⟨#[]⟩) 1 16 Tryd.underlying46 hi hz0 hz1 hz2 rfl (by decide) v _ _ (by rfl) (hown1.alloc (.cells #[.string (s.extract A To)] 9)) ⟨w1.heap.size, 0, none⟩ 1 1 [.string (s.extract A To)] (by rfl) (by simp) (cells_new w1 _ _) (by simp [Value.oneCell']) (by decide) (by unfold maxLen; omega) (by omega) (by rw [World.size_alloc]; omega) _ rfl ?_
      intro g2 cap2 w2 r1 r2 _ _
      obtain ⟨hv1, hv2, hr2, hk2, hb2, hoth⟩ := app_box (n₀ := w.heap.size + 1) cc1 (by omega) hown1 hsz1 (Nat.le_refl _) r1 r2
      have hc1 := hv1.cell
      have hf1 := hv1.frozen
      have cc02 : Boxed w2 w.heap.size 9 (.string s) := (cc0.alloc _).kept r2 (fun e => by have := (hown1.lt _ e.symm).1; omega)
      have tp2 : Two w2 p 41 (.int .i64 (A : Nat)) (.int .i64 (B : Nat)) := (tp1.alloc _).kept r2 (tp1.not_row (by decide) hown1)
      have hS3 := And.intro cc02.cell (And.intro tp2.cell0 tp2.cell1)
      refine hK.out _ _ hS3 (fun _ => ?_)
      clear hK K
      refine wpAnyH_ready (rs := [12]) (by kernel_rfl) (by simp) (AllReadyH.cons rfl (fun K hK => ?_) AllReadyH.nil)
      go_simp
      have hS4 := And.intro (cc02.other (B' := w.heap.size + 1) (by omega) (.slice (some ⟨g2, 0, none⟩) (pre.length + 1) cap2)).cell (And.intro (tp2.other (B' := w.heap.size + 1) (by omega) 0 (.slice (some ⟨g2, 0, none⟩) (pre.length + 1) cap2)).cell0 (tp2.other (B' := w.heap.size + 1) (by omega) 0 (.slice (some ⟨g2, 0, none⟩) (pre.length + 1) cap2)).cell1)
      refine hK.out _ _ hS4 (fun _ => ?_)
      clear hK K
      refine wpAnyH_done (by kernel_rfl) ?_ _
      have hbW1 : Below W.heap.size W w1 := ((Below.refl W.heap.size W).drew).trans hb1
      have hszWW : X.heap.size ≤ W.heap.size := hbW.size
      have hK3 := (keepsOthers_below hbW1).trans hk2
      have c2Y := hoth (w.heap.size + 1 + 1) 9 (.string s) (by omega) (by omega) cc2
      exact ⟨⟨hK3.size, fun k o _ hk ho => hK3.same k o hk ho⟩, ⟨⟨hK3.walks, (hbW1.mono (by omega)).trans (hb2.mono (Nat.le_succ _))⟩, Eq.trans c2Y c2.symm⟩, ⟨_, hv2, by rw [List.length_append, List.length_singleton, List.map_append, List.map_singleton, HLT.out]; exact hr2, trivial⟩, c2Y, hbW.trans ((hbW1.mono (by omega)).trans hb2)⟩
    · skip
      go_simp
      refine (HC.out _).mono ?_
      rintro e w1 ⟨rfl, hb1⟩
      have hS1 := And.intro (cellKeep hS0.1 hb1) (And.intro (cellKeep hS0.2.1 hb1) (cellKeep hS0.2.2 hb1))
      have dd1 := cellKeep (W := W.drew) d1 hb1
      refine hK.out _ _ hS1 (fun _ => ?_)
      clear hK K
      refine wpAnyH_ready (rs := [0, 10]) (by kernel_rfl) (by simp) (AllReadyH.cons rfl (fun K hK => ?_) (AllReadyH.cons rfl (fun K hK => ?_) AllReadyH.nil))
      · go_simp
        refine hK.out _ _ hS1 (fun _ => ?_)
        clear hK K
        refine wpAnyH_ready (rs := [10]) (by kernel_rfl) (by simp) (AllReadyH.cons rfl (fun K hK => ?_) AllReadyH.nil)
        go_simp
        have hS2 := And.intro (cellKeep hS1.1 ((Below.refl _ _).alloc (Nat.le_refl _) (.cells #[.string (s.extract A To)] 9))) (And.intro (cellKeep hS1.2.1 ((Below.refl _ _).alloc (Nat.le_refl _) (.cells #[.string (s.extract A To)] 9))) (cellKeep hS1.2.2 ((Below.refl _ _).alloc (Nat.le_refl _) (.cells #[.string (s.extract A To)] 9))))
        refine hK.out _ _ hS2 (fun _ => ?_)
        clear hK K
        have cc1 : Boxed w1 (w.heap.size + 1) 46 v := (hb1.block _ c1D.lt).trans c1D
        have cc2 : Boxed w1 (w.heap.size + 1 + 1) 9 (.string s) := (hb1.block _ c2D.lt).trans c2D
        have cc0 : Boxed w1 w.heap.size 9 (.string s) := (hb1.block _ c0.lt).trans c0
        have tp1 : Two w1 p 41 (.int .i64 (A : Nat)) (.int .i64 (B : Nat)) := (hb1.block _ tp.lt).trans tp
        have hown1 := owns_below hrowD hb1 (Nat.le_refl _)
        have hsz1 : X.heap.size ≤ w1.heap.size := Nat.le_trans hszW hb1.size
        refine wpAnyH_ready (rs := [11]) (by kernel_rfl) (by simp) (AllReadyH.cons rfl (fun K hK => ?_) AllReadyH.nil)
        refine step_append_lies _ (by rfl) _ _ _ (by rfl) X.heap.size 9 i0 (.string ⟨#[]⟩) 1 16 Tryd.underlying46 hi hz0 hz1 hz2 rfl (by decide) v _ _ (by rfl) (hown1.alloc (.cells #[.string (s.extract A To)] 9)) ⟨w1.heap.size, 0, none⟩ 1 1 [.string (s.extract A To)] (by rfl) (by simp) (cells_new w1 _ _) (by simp [Value.oneCell']) (by decide) (by unfold maxLen; omega) (by omega) (by rw [World.size_alloc]; omega) _ rfl ?_
        intro g2 cap2 w2 r1 r2 _ _
        obtain ⟨hv1, hv2, hr2, hk2, hb2, hoth⟩ := app_box (n₀ := w.heap.size + 1) cc1 (by omega) hown1 hsz1 (Nat.le_refl _) r1 r2
        have hc1 := hv1.cell
        have hf1 := hv1.frozen
        have cc02 : Boxed w2 w.heap.size 9 (.string s) := (cc0.alloc _).kept r2 (fun e => by have := (hown1.lt _ e.symm).1; omega)
        have tp2 : Two w2 p 41 (.int .i64 (A : Nat)) (.int .i64 (B : Nat)) := (tp1.alloc _).kept r2 (tp1.not_row (by decide) hown1)
        have hS3 := And.intro cc02.cell (And.intro tp2.cell0 tp2.cell1)
        refine hK.out _ _ hS3 (fun _ => ?_)
        clear hK K
        refine wpAnyH_ready (rs := [12]) (by kernel_rfl) (by simp) (AllReadyH.cons rfl (fun K hK => ?_) AllReadyH.nil)
        go_simp
        have hS4 := And.intro (cc02.other (B' := w.heap.size + 1) (by omega) (.slice (some ⟨g2, 0, none⟩) (pre.length + 1) cap2)).cell (And.intro (tp2.other (B' := w.heap.size + 1) (by omega) 0 (.slice (some ⟨g2, 0, none⟩) (pre.length + 1) cap2)).cell0 (tp2.other (B' := w.heap.size + 1) (by omega) 0 (.slice (some ⟨g2, 0, none⟩) (pre.length + 1) cap2)).cell1)
        refine hK.out _ _ hS4 (fun _ => ?_)
        clear hK K
        refine wpAnyH_done (by kernel_rfl) ?_ _
        have hbW1 : Below W.heap.size W w1 := ((Below.refl W.heap.size W).drew).trans hb1
        have hszWW : X.heap.size ≤ W.heap.size := hbW.size
        have hK3 := (keepsOthers_below hbW1).trans hk2
        have c2Y := hoth (w.heap.size + 1 + 1) 9 (.string s) (by omega) (by omega) cc2
        exact ⟨⟨hK3.size, fun k o _ hk ho => hK3.same k o hk ho⟩, ⟨⟨hK3.walks, (hbW1.mono (by omega)).trans (hb2.mono (Nat.le_succ _))⟩, Eq.trans c2Y c2.symm⟩, ⟨_, hv2, by rw [List.length_append, List.length_singleton, List.map_append, List.map_singleton, HLT.out]; exact hr2, trivial⟩, c2Y, hbW.trans ((hbW1.mono (by omega)).trans hb2)⟩
      · skip
        go_simp
        have hS2 := And.intro (cellKeep hS1.1 ((Below.refl _ _).alloc (Nat.le_refl _) (.cells #[.string (s.extract A To)] 9))) (And.intro (cellKeep hS1.2.1 ((Below.refl _ _).alloc (Nat.le_refl _) (.cells #[.string (s.extract A To)] 9))) (cellKeep hS1.2.2 ((Below.refl _ _).alloc (Nat.le_refl _) (.cells #[.string (s.extract A To)] 9))))
        refine hK.out _ _ hS2 (fun _ => ?_)
        clear hK K
        have dd2 := cellKeep dd1 ((Below.refl _ _).alloc (Nat.le_refl _) (.cells #[.string (s.extract A To)] 9))
        refine wpAnyH_ready (rs := [0]) (by kernel_rfl) (by simp) (AllReadyH.cons rfl (fun K hK => ?_) AllReadyH.nil)
        go_simp
        refine hK.out _ _ hS2 (fun _ => ?_)
        clear hK K dd2
        have cc1 : Boxed w1 (w.heap.size + 1) 46 v := (hb1.block _ c1D.lt).trans c1D
        have cc2 : Boxed w1 (w.heap.size + 1 + 1) 9 (.string s) := (hb1.block _ c2D.lt).trans c2D
        have cc0 : Boxed w1 w.heap.size 9 (.string s) := (hb1.block _ c0.lt).trans c0
        have tp1 : Two w1 p 41 (.int .i64 (A : Nat)) (.int .i64 (B : Nat)) := (hb1.block _ tp.lt).trans tp
        have hown1 := owns_below hrowD hb1 (Nat.le_refl _)
        have hsz1 : X.heap.size ≤ w1.heap.size := Nat.le_trans hszW hb1.size
        refine wpAnyH_ready (rs := [11]) (by kernel_rfl) (by simp) (AllReadyH.cons rfl (fun K hK => ?_) AllReadyH.nil)
        refine step_append_lies _ (by rfl) _ _ _ (by rfl) X.heap.size 9 i0 (.string ⟨#[]⟩) 1 16 Tryd.underlying46 hi hz0 hz1 hz2 rfl (by decide) v _ _ (by rfl) (hown1.alloc (.cells #[.string (s.extract A To)] 9)) ⟨w1.heap.size, 0, none⟩ 1 1 [.string (s.extract A To)] (by rfl) (by simp) (cells_new w1 _ _) (by simp [Value.oneCell']) (by decide) (by unfold maxLen; omega) (by omega) (by rw [World.size_alloc]; omega) _ rfl ?_
        intro g2 cap2 w2 r1 r2 _ _
        obtain ⟨hv1, hv2, hr2, hk2, hb2, hoth⟩ := app_box (n₀ := w.heap.size + 1) cc1 (by omega) hown1 hsz1 (Nat.le_refl _) r1 r2
        have hc1 := hv1.cell
        have hf1 := hv1.frozen
        have cc02 : Boxed w2 w.heap.size 9 (.string s) := (cc0.alloc _).kept r2 (fun e => by have := (hown1.lt _ e.symm).1; omega)
        have tp2 : Two w2 p 41 (.int .i64 (A : Nat)) (.int .i64 (B : Nat)) := (tp1.alloc _).kept r2 (tp1.not_row (by decide) hown1)
        have hS3 := And.intro cc02.cell (And.intro tp2.cell0 tp2.cell1)
        refine hK.out _ _ hS3 (fun _ => ?_)
        clear hK K
        refine wpAnyH_ready (rs := [12]) (by kernel_rfl) (by simp) (AllReadyH.cons rfl (fun K hK => ?_) AllReadyH.nil)
        go_simp
        have hS4 := And.intro (cc02.other (B' := w.heap.size + 1) (by omega) (.slice (some ⟨g2, 0, none⟩) (pre.length + 1) cap2)).cell (And.intro (tp2.other (B' := w.heap.size + 1) (by omega) 0 (.slice (some ⟨g2, 0, none⟩) (pre.length + 1) cap2)).cell0 (tp2.other (B' := w.heap.size + 1) (by omega) 0 (.slice (some ⟨g2, 0, none⟩) (pre.length + 1) cap2)).cell1)
        refine hK.out _ _ hS4 (fun _ => ?_)
        clear hK K
        refine wpAnyH_done (by kernel_rfl) ?_ _
        have hbW1 : Below W.heap.size W w1 := ((Below.refl W.heap.size W).drew).trans hb1
        have hszWW : X.heap.size ≤ W.heap.size := hbW.size
        have hK3 := (keepsOthers_below hbW1).trans hk2
        have c2Y := hoth (w.heap.size + 1 + 1) 9 (.string s) (by omega) (by omega) cc2
        exact ⟨⟨hK3.size, fun k o _ hk ho => hK3.same k o hk ho⟩, ⟨⟨hK3.walks, (hbW1.mono (by omega)).trans (hb2.mono (Nat.le_succ _))⟩, Eq.trans c2Y c2.symm⟩, ⟨_, hv2, by rw [List.length_append, List.length_singleton, List.map_append, List.map_singleton, HLT.out]; exact hr2, trivial⟩, c2Y, hbW.trans ((hbW1.mono (by omega)).trans hb2)⟩
  case stop =>
    rintro D cc pre' V hD _ h _
    exact h.elim
  case done =>
    rintro D ys V hD rfl ⟨⟨v, c1, hrow, _⟩, c2, hbV⟩ hK
    rw [List.length_range] at hrow
    have hN1 := lnN_pos (bs s)
    obtain ⟨n, hn⟩ : ∃ n, lnN (bs s) = n := ⟨_, rfl⟩
    rw [hn] at hrow hN1 hN
    have HNN := Lib.hid hn
    clear hn
    obtain ⟨n', rfl⟩ : ∃ n', n = n' + 1 := ⟨n - 1, by omega⟩
    obtain ⟨g, cap, rfl⟩ := ownsRow_succ hrow
    obtain ⟨v2, -, hrow2, h2⟩ := (holdsRow_own X.heap.size (w.heap.size + 1) 46 9 1 (fun (_ : Unit) => n' + 1) (fun _ => (List.range (n' + 1)).map fun k => Value.string (lnT s k)) (fun _ v => v = .slice (some ⟨g, 0, none⟩) (n' + 1) cap)).putObj (s := ()) (.deferred none) ⟨_, c1, hrow, rfl⟩ hK rfl
    subst h2
    have hcap : n' + 1 ≤ cap := by
      rcases hrow.2 with ⟨h, _⟩ | ⟨g', cap', cur, h, _, _, h3, _⟩
      · cases h
      · injection h with e1 e2 e3
        omega
    have d1 := c1.cell
    obtain ⟨n, hn⟩ : ∃ n, n' + 1 = n := ⟨_, rfl⟩
    rw [hn] at d1 hcap hN hrow2 HNN
    have HR := Lib.hid hrow2
    clear hrow hrow2 hn hN1
    go_wp2_with fail
    refine ⟨by simp, .inl ⟨_, _, rfl, run_takeDeferred hK, ?_⟩⟩
    refine ⟨.slice (some ⟨g, 0, none⟩) n n, ?_, ⟨g, cap, by rw [HNN.out], by rw [HNN.out]; exact owns_base HR.out hbX.size, hbX.trans ((hbV.mono (by omega)).trans (belowK_b (w := w) (Nat.le_refl _) _ D _ _ (by omega) hK rfl rfl))⟩⟩
    simp [results, Tryd.f25, go_sem]
end Go.Proofs.YtebmjmohhpkonaaDoor
