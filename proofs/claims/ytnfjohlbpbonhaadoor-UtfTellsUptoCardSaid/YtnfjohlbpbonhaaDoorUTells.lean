/-
  The walk of the law UtfTells: the iterators All and Back against the document's characters, whole and left early.
-/
import Derived.Test.YtnfjohlbpbonhaaDoorWrong
import Derived.Test.YtnfjohlbpbonhaaDoorAwake
namespace Go.Proofs.YtnfjohlbpbonhaaDoor
open Go.RowKit
attribute [local go_sem] Oper.semAt_some

theorem gr_refl (W : World) (b : Nat) : W.grownBy W (some b) := ⟨rfl, rfl, rfl, Nat.le_refl _, fun _ _ _ => rfl⟩
theorem gr_trans {X Y Z : World} {b : Nat} (h : X.grownBy Y (some b)) (k : Y.grownBy Z (some b)) : X.grownBy Z (some b) :=
  ⟨k.os.trans h.os, k.tape.trans h.tape, k.output.trans h.output, Nat.le_trans h.size k.size, fun i hi hne => (k.block i (Nat.lt_of_lt_of_le hi h.size) hne).trans (h.block i hi hne)⟩
theorem ownFrom_gr {β : Type} (W1 : World) (b : Nat) : OwnFrom W1.heap.size (fun (_ : β) W => W1.grownBy W (some b)) := fun _ A B row hs hg hr =>
  ⟨hg.os.trans hs.os, hg.tape.trans hs.tape, hg.output.trans hs.output, Nat.le_trans hs.size hg.size, fun i hi hne => (hg.block i (Nat.lt_of_lt_of_le hi hs.size) (fun e => by have := (hr i e.symm).1; omega)).trans (hs.block i hi hne)⟩
theorem gr_below {B : Nat} {a W W' : World} {b : Nat} (h : Below B a W) (hg : W.grownBy W' (some b)) (hB : B ≤ W.heap.size) (hb : B ≤ b) : Below B a W' := h.grown hg hB (fun k e => by cases e; exact hb)
theorem ups_prefix {α : Type} (f : Nat → α) {a b : Nat} (h : a ≤ b) : ups f a <+: ups f b := by
  induction b with
  | zero => obtain rfl : a = 0 := by omega
            exact List.prefix_refl _
  | succ b ih =>
    by_cases e : a = b + 1
    · subst e; exact List.prefix_refl _
    · rw [ups_succ]
      exact (ih (by omega)).trans (List.prefix_append _ _)
theorem ups_step {α : Type} {f : Nat → α} {pre : List α} (h : pre = ups f pre.length) : pre ++ [f pre.length] = ups f (pre ++ [f pre.length]).length := by
  rw [List.length_append, List.length_singleton, ups_succ, ← h]
theorem ups_mism {α : Type} {f : Nat → α} {pre : List α} {x : α} (h : x ≠ f pre.length) (k : Nat) : ¬ pre ++ [x] <+: ups f k := by
  rintro ⟨r, hr⟩
  have hl := congrArg List.length hr
  simp only [List.length_append, List.length_singleton, ups_length] at hl
  have := ups_get f k pre.length (by omega)
  rw [← hr, List.append_assoc, List.getElem?_append_right (Nat.le_refl _), Nat.sub_self] at this
  simp at this
  exact h this
theorem ups_long {α : Type} {f : Nat → α} {pre : List α} {x : α} {n : Nat} (h : n ≤ pre.length) : ¬ pre ++ [x] <+: ups f n := by
  intro hp
  have := hp.length_le
  simp only [List.length_append, List.length_singleton, ups_length] at this
  omega

set_option maxRecDepth 100000 in
set_option maxHeartbeats 8000000 in
theorem utfTells_any (s : ByteArray) (hs : s.size ≤ 1048576) (stop : Int) (w : World) (hT : Tabs w) :
    Calls Tryd.prog 11 #[.string s, .int .i64 stop] w fun e w' => e = .returned (.bool true) ∧ Below w.heap.size w w' := by
  have HT := Lib.hid hT
  have HAW := Lib.hid (fun w hT => awake_any w hT)
  obtain ⟨n, hn⟩ : ∃ n, countN (bs s) = n := ⟨_, rfl⟩
  have hns := bs_len_le s
  have HCH := Lib.hid (chars_at s hs)
  rw [hn] at hns HCH
  have HN := Lib.hid hn
  clear hT hn
  refine callsIn_wide.1 (callsIn_of_wp_marks (n := 9) Tryd.func11 rfl trivial (wpIn_wide.2 ?_) rfl)
  simp only [Tryd.ntmps11, List.size_toArray, List.length_cons, List.length_nil, Nat.reduceAdd, Nat.reduceSub, Array.replicate_succ, Array.replicate_zero, List.push_toArray, List.append_toArray, List.nil_append, List.cons_append]
  have a3 := (Boxed.new w 3 (.int .i64 stop)).alloc (.cells #[.bool false] 4)
  have a4 := Boxed.new (w.alloc (.cells #[.int .i64 stop] 3)) 4 (.bool false)
  rw [World.size_alloc] at a4
  have hbA : Below w.heap.size w ((w.alloc (.cells #[.int .i64 stop] 3)).alloc (.cells #[.bool false] 4)) := al (al (Below.refl _ _) _) _
  go_wp2_with (first | (go_at_call 30; (with_reducible refine (HAW.out _ (HT.out.below hbA (Nat.le_refl _))).mono ?_); rintro e w1 ⟨rfl, hb1⟩) | (go_at_call 36; (with_reducible refine (HCH.out _).mono ?_); rintro e Wc ⟨ao, cap, rfl, hC, hb2⟩))
  have hb2' : Below w.heap.size w Wc := (hbA.trans (hb1.mono hbA.size)).trans (hb2.mono (hbA.trans (hb1.mono hbA.size)).size)
  have b3c : Boxed Wc w.heap.size 3 (.int .i64 stop) := (hb2.block _ (Nat.lt_of_lt_of_le a3.lt hb1.size)).trans ((hb1.block _ a3.lt).trans a3)
  have b4c : Boxed Wc (w.heap.size + 1) 4 (.bool false) := (hb2.block _ (Nat.lt_of_lt_of_le a4.lt hb1.size)).trans ((hb1.block _ a4.lt).trans a4)
  have hwc : w.heap.size + 1 < Wc.heap.size := b4c.lt
  have b5P := (Boxed.new Wc 41 (.slice ao n cap)).alloc (.cells #[.int .i64 0] 3)
  have b6P := Boxed.new (Wc.alloc (.cells #[.slice ao n cap] 41)) 3 (.int .i64 0)
  rw [World.size_alloc] at b6P
  have hbP : Below Wc.heap.size Wc ((Wc.alloc (.cells #[.slice ao n cap] 41)).alloc (.cells #[.int .i64 0] 3)) := al (al (Below.refl _ _) _) _
  obtain ⟨P0, hP0⟩ : ∃ P0, (Wc.alloc (.cells #[.slice ao n cap] 41)).alloc (.cells #[.int .i64 0] 3) = P0 := ⟨_, rfl⟩
  have hszP : Wc.heap.size + 1 + 1 ≤ P0.heap.size := by rw [← hP0, World.size_alloc, World.size_alloc]; exact Nat.le_refl _
  rw [hP0] at b5P b6P hbP ⊢
  have HC := Lib.hid hC
  clear hP0 hbA a3 a4 hb1 hb2 hC
  refine wp_loop_rounds 3 ?_
  rw [rounds_succ]
  have d6P := b6P.cell
  have b7X := (Boxed.new P0 3 (.int .i64 0)).alloc (.cells #[.string s] 9)
  have b8X := Boxed.new (P0.alloc (.cells #[.int .i64 0] 3)) 9 (.string s)
  rw [World.size_alloc] at b8X
  have hgX : P0.grownBy ((P0.alloc (.cells #[.int .i64 0] 3)).alloc (.cells #[.string s] 9)) (some P0.heap.size) := gr_trans (World.grownBy_alloc _ _ (some P0.heap.size)) (World.grownBy_alloc _ _ (some P0.heap.size))
  go_wp2_with ((go_at_call 37; (with_reducible refine (all_in s _).mono ?_); rintro e w1 ⟨rfl, rfl⟩))
  obtain ⟨X0, hX⟩ : ∃ X0, (P0.alloc (.cells #[.int .i64 0] 3)).alloc (.cells #[.string s] 9) = X0 := ⟨_, rfl⟩
  rw [hX] at b7X b8X hgX ⊢
  clear hX d6P
  have b5X : Boxed X0 Wc.heap.size 41 (.slice ao n cap) := b5P.kept hgX (by simp; omega)
  have b6X : Boxed X0 (Wc.heap.size + 1) 3 (.int .i64 0) := b6P.kept hgX (by simp; omega)
  have hbX : Below Wc.heap.size Wc X0 := gr_below hbP hgX (by omega) (by omega)
  have hbwX : Below w.heap.size w X0 := hb2'.trans (hbX.mono hb2'.size)
  have hszX := hgX.size
  have h7X := b7X.lt
  refine (wpIn_wide (n := 9)).1 ?_
  refine' wpIn_rangeFunc_ownG rfl (by decide) (gf := 56) (lb := #[.pointer (some ⟨(P0.heap.size + 1), 0, none⟩)]) rfl trivial (enters_of Tryd.func56 (by kernel_rfl) rfl)
    (all_stops (9 - 1) (by decide) (P0.heap.size + 1) w.heap.size s X0 b8X.cell) kpB_t (kpB_b (by omega)) (Below.refl _ _) (fun _ => rfl)
    (fun (pre : List (Nat × Nat)) W => pre = ups (allF (bs s)) pre.length ∧ Boxed W P0.heap.size 3 (.int .i64 (pre.length : Nat)) ∧ X0.grownBy W (some P0.heap.size))
    (fun c (pre : List (Nat × Nat)) _ => c = .ret ∧ ¬ pre <+: ups (allF (bs s)) n)
    (OwnFrom.and (ownFrom_pure _ (fun (pre : List (Nat × Nat)) => pre = ups (allF (bs s)) pre.length)) (OwnFrom.and (Own.from (boxed_own _ _ (fun (pre : List (Nat × Nat)) => .int .i64 (pre.length : Nat))) _) (ownFrom_gr X0 P0.heap.size)))
    (fun _ _ _ _ _ hs _ _ => hs)
    ⟨rfl, b7X, gr_refl _ _⟩ _ ?assign0 ?body0 ?done0 ?stop0
  case assign0 =>
    intro l x W K hK
    dsimp only [encP]
    gi_wp2
    exact hK
  case body0 =>
    rintro l pre ⟨x1, x2⟩ W ⟨hpre, c7, hgr⟩ hge
    rw [HN.out] at hge
    have hbW := gr_below hbX hgr (by omega) (by omega)
    have c5 : Boxed W Wc.heap.size 41 (.slice ao n cap) := b5X.kept hgr (by simp; omega)
    have c6 : Boxed W (Wc.heap.size + 1) 3 (.int .i64 0) := b6X.kept hgr (by simp; omega)
    have d3 := (show Boxed W w.heap.size 3 (.int .i64 stop) from (hbW.block _ b3c.lt).trans b3c).cell
    have c4 : Boxed W (w.heap.size + 1) 4 (.bool false) := (hbW.block _ b4c.lt).trans b4c
    have d4 := c4.cell
    have f4 := c4.frozen
    have d5 := c5.cell
    have d6 := c6.cell
    have d7 := c7.cell
    have f7 := c7.frozen
    have hle : pre.length ≤ 1048576 := by omega
    have hk0 : (0 : Int) ≤ (pre.length : Int) := by omega
    have hki : (pre.length : Int) < (n : Int) := by omega
    have hjn : pre.length < n := hge
    obtain ⟨g, rfl, z0, z1, _, _⟩ := (HC.out.below hbW (Nat.le_refl _)) pre.length (by rw [HN.out]; exact hjn)
    obtain ⟨y1, hy1⟩ : ∃ y, atN (bs s) pre.length = y := ⟨_, rfl⟩
    obtain ⟨y2, hy2⟩ : ∃ y, ((tk (bs s))[pre.length]?.getD (0, 0)).1 = y := ⟨_, rfl⟩
    rw [hy1] at z0
    rw [hy2] at z1
    have hF : allF (bs s) pre.length = (y1, y2) := by unfold allF; rw [hy1, hy2]
    have HPRE := Lib.hid hpre
    have HF := Lib.hid hF
    clear hy1 hy2 hF hpre
    by_cases h1 : y1 = x1
    · subst h1
      by_cases h2 : y2 = x2
      · subst h2
        have HP := Lib.hid (show pre ++ [(y1, y2)] = ups (allF (bs s)) (pre ++ [(y1, y2)]).length by rw [← HF.out]; exact ups_step HPRE.out)
        gi_wp2

        refine ⟨(KeepsOthers.setCell _ _ _).from _, ⟨(KeepsOthers.setCell _ _ _).walks, (Below.refl _ W).setCell (p := ⟨P0.heap.size, 0, none⟩) (show w.heap.size ≤ P0.heap.size by omega) _⟩, HP.out, ?_, gr_trans hgr (grownBy_setCell' _ _ _)⟩
        rw [List.length_append, List.length_singleton, Int.natCast_add]
        exact c7.set _
      · have hd2 : ((y2 : Int) != (x2 : Int)) = true := bne_iff_ne.2 (by omega)
        have HM := Lib.hid (ups_mism (f := allF (bs s)) (pre := pre) (x := (y1, x2)) (by rw [HF.out]; intro e; injection e with e1 e2; exact h2 e2.symm) n)
        clear h2
        gi_wp2
        exact ⟨(KeepsOthers.setCell _ _ _).from _, ⟨rfl, HM.out⟩⟩
    · have hd1 : ((y1 : Int) != (x1 : Int)) = true := bne_iff_ne.2 (by omega)
      have HM := Lib.hid (ups_mism (f := allF (bs s)) (pre := pre) (x := (x1, x2)) (by rw [HF.out]; intro e; injection e with e1 e2; exact h1 e1.symm) n)
      clear h1
      gi_wp2
      exact ⟨(KeepsOthers.setCell _ _ _).from _, ⟨rfl, HM.out⟩⟩
  case done0 =>
    rintro D0 ys V0 hD0 rfl ⟨-, b7V, hgr⟩ kD0V
    rw [ups_length, HN.out] at b7V
    have b5V : Boxed V0 Wc.heap.size 41 (.slice ao n cap) := b5X.kept hgr (by simp; omega)
    have b6V : Boxed V0 (Wc.heap.size + 1) 3 (.int .i64 0) := b6X.kept hgr (by simp; omega)
    have hbV : Below Wc.heap.size Wc V0 := gr_below hbX hgr (by omega) (by omega)
    have hszV := hgr.size
    have h7V := b7V.lt
    have d5V := b5V.cell
    have d6V := b6V.cell
    have f6V := b6V.frozen
    have d7V := b7V.cell
    have d3V := (show Boxed V0 w.heap.size 3 (.int .i64 stop) from (hbV.block _ b3c.lt).trans b3c).cell
    clear b5X b6X hbX hbwX hgX b7X b8X hgr b5P b6P hbP
    have d5Q := d5V
    have d6Q := d6V
    have d7Q := d7V
    have d3Q := d3V
    have b5P := b5V
    have b6P := b6V
    have hbP := hbV
    have hszP : Wc.heap.size + 1 + 1 ≤ V0.heap.size := by omega
    clear b5V b6V hbV d5V d6V f6V d7V d3V
    have kD0 := kD0V
    have lD0 := (Array.getElem?_eq_some_iff.1 kD0V).1
    clear kD0V
    have b7P := b7V
    clear b7V
    have d7P := b7P.cell
    have f7P := b7P.frozen
    have b7X := (b7P.set (.int .i64 0)).alloc (.cells #[.string s] 9)
    have b8X := Boxed.new (V0.setCell ⟨P0.heap.size, 0, none⟩ (.int .i64 0)) 9 (.string s)
    have hszS : (V0.setCell ⟨P0.heap.size, 0, none⟩ (.int .i64 0)).heap.size = V0.heap.size := by simp
    rw [hszS] at b8X
    have hgX : V0.grownBy ((V0.setCell ⟨P0.heap.size, 0, none⟩ (.int .i64 0)).alloc (.cells #[.string s] 9)) (some P0.heap.size) := gr_trans (grownBy_setCell' _ _ _) (World.grownBy_alloc _ _ (some P0.heap.size))
    go_wp2_with ((go_at_call 38; (with_reducible refine (back_in s _).mono ?_); rintro e w1 ⟨rfl, rfl⟩))
    obtain ⟨X1, hX⟩ : ∃ X1, (V0.setCell ⟨P0.heap.size, 0, none⟩ (.int .i64 0)).alloc (.cells #[.string s] 9) = X1 := ⟨_, rfl⟩
    rw [hX] at b7X b8X hgX ⊢
    clear hX d7P f7P hszS d5Q d6Q d7Q d3Q
    have b5X : Boxed X1 Wc.heap.size 41 (.slice ao n cap) := b5P.kept hgX (by simp; omega)
    have b6X : Boxed X1 (Wc.heap.size + 1) 3 (.int .i64 0) := b6P.kept hgX (by simp; omega)
    have hbX : Below Wc.heap.size Wc X1 := gr_below hbP hgX (by omega) (by omega)
    have hbwX : Below w.heap.size w X1 := hb2'.trans (hbX.mono hb2'.size)
    have hszX := hgX.size
    have h7X := b7X.lt
    have kD0X : X1.heap[D0]? = some (.deferred (some [])) := (hgX.block _ (Array.getElem?_eq_some_iff.1 kD0).1 (by simp; omega)).trans kD0
    refine (wpIn_wide (n := 9)).1 ?_
    refine' wpIn_rangeFunc_ownG rfl (by decide) (gf := 57) (lb := #[.pointer (some ⟨V0.heap.size, 0, none⟩)]) rfl trivial (enters_of Tryd.func57 (by kernel_rfl) rfl)
      (back_stops (9 - 1) (by decide) V0.heap.size w HT.out s (by omega) X1 hbwX b8X.cell) kpB_t (kpB_b (by omega)) (Below.refl _ _) (fun _ => rfl)
      (fun (pre : List (Nat × Nat)) W => pre = ups (backF (bs s)) pre.length ∧ Boxed W P0.heap.size 3 (.int .i64 (pre.length : Nat)) ∧ X1.grownBy W (some P0.heap.size))
      (fun c (pre : List (Nat × Nat)) _ => c = .ret ∧ ¬ pre <+: ups (backF (bs s)) n)
      (OwnFrom.and (ownFrom_pure _ (fun (pre : List (Nat × Nat)) => pre = ups (backF (bs s)) pre.length)) (OwnFrom.and (Own.from (boxed_own _ _ (fun (pre : List (Nat × Nat)) => .int .i64 (pre.length : Nat))) _) (ownFrom_gr X1 P0.heap.size)))
      (fun _ _ _ _ _ hs _ _ => hs)
      ⟨rfl, b7X, gr_refl _ _⟩ _ ?assign1 ?body1 ?done1 ?stop1
    case assign1 =>
      intro l x W K hK
      dsimp only [encP]
      gi_wp2
      exact hK
    case body1 =>
      rintro l pre ⟨x1, x2⟩ W ⟨hpre, c7, hgr⟩ hge
      rw [HN.out] at hge
      have hbW := gr_below hbX hgr (by omega) (by omega)
      have c5 : Boxed W Wc.heap.size 41 (.slice ao n cap) := b5X.kept hgr (by simp; omega)
      have c6 : Boxed W (Wc.heap.size + 1) 3 (.int .i64 0) := b6X.kept hgr (by simp; omega)
      have d3 := (show Boxed W w.heap.size 3 (.int .i64 stop) from (hbW.block _ b3c.lt).trans b3c).cell
      have c4 : Boxed W (w.heap.size + 1) 4 (.bool false) := (hbW.block _ b4c.lt).trans b4c
      have d4 := c4.cell
      have f4 := c4.frozen
      have d5 := c5.cell
      have d6 := c6.cell
      have d7 := c7.cell
      have f7 := c7.frozen
      have hle : pre.length ≤ 1048576 := by omega
      obtain ⟨j, hj⟩ : ∃ j, n = pre.length + 1 + j := ⟨n - pre.length - 1, by omega⟩
      have hjj : countN (bs s) - 1 - pre.length = j := by rw [HN.out]; omega
      have hk : ((n : Int) - 1 - (pre.length : Int)) = (j : Int) := by omega
      have hk0 : (0 : Int) ≤ (j : Int) := by omega
      have hki : (j : Int) < (n : Int) := by omega
      have hjn : j < n := by omega
      clear hj
      obtain ⟨g, rfl, z0, z1, _, _⟩ := (HC.out.below hbW (Nat.le_refl _)) j (by rw [HN.out]; exact hjn)
      obtain ⟨y1, hy1⟩ : ∃ y, atN (bs s) j = y := ⟨_, rfl⟩
      obtain ⟨y2, hy2⟩ : ∃ y, ((tk (bs s))[j]?.getD (0, 0)).1 = y := ⟨_, rfl⟩
      rw [hy1] at z0
      rw [hy2] at z1
      have hF : backF (bs s) pre.length = (y1, y2) := by unfold backF allF; rw [hjj, hy1, hy2]
      have HPRE := Lib.hid hpre
      have HF := Lib.hid hF
      clear hy1 hy2 hF hpre hjj
      by_cases h1 : y1 = x1
      · subst h1
        by_cases h2 : y2 = x2
        · subst h2
          have HP := Lib.hid (show pre ++ [(y1, y2)] = ups (backF (bs s)) (pre ++ [(y1, y2)]).length by rw [← HF.out]; exact ups_step HPRE.out)
          gi_wp2

          refine ⟨(KeepsOthers.setCell _ _ _).from _, ⟨(KeepsOthers.setCell _ _ _).walks, (Below.refl _ W).setCell (p := ⟨P0.heap.size, 0, none⟩) (show w.heap.size ≤ P0.heap.size by omega) _⟩, HP.out, ?_, gr_trans hgr (grownBy_setCell' _ _ _)⟩
          rw [List.length_append, List.length_singleton, Int.natCast_add]
          exact c7.set _
        · have hd2 : ((y2 : Int) != (x2 : Int)) = true := bne_iff_ne.2 (by omega)
          have HM := Lib.hid (ups_mism (f := backF (bs s)) (pre := pre) (x := (y1, x2)) (by rw [HF.out]; intro e; injection e with e1 e2; exact h2 e2.symm) n)
          clear h2
          gi_wp2
          exact ⟨(KeepsOthers.setCell _ _ _).from _, ⟨rfl, HM.out⟩⟩
      · have hd1 : ((y1 : Int) != (x1 : Int)) = true := bne_iff_ne.2 (by omega)
        have HM := Lib.hid (ups_mism (f := backF (bs s)) (pre := pre) (x := (x1, x2)) (by rw [HF.out]; intro e; injection e with e1 e2; exact h1 e1.symm) n)
        clear h1
        gi_wp2
        exact ⟨(KeepsOthers.setCell _ _ _).from _, ⟨rfl, HM.out⟩⟩
    case done1 =>
      rintro D1 ys V1 hD1 rfl ⟨-, b7V, hgr⟩ kD1V
      rw [ups_length, HN.out] at b7V
      have b5V : Boxed V1 Wc.heap.size 41 (.slice ao n cap) := b5X.kept hgr (by simp; omega)
      have b6V : Boxed V1 (Wc.heap.size + 1) 3 (.int .i64 0) := b6X.kept hgr (by simp; omega)
      have hbV : Below Wc.heap.size Wc V1 := gr_below hbX hgr (by omega) (by omega)
      have hszV := hgr.size
      have h7V := b7V.lt
      have d5V := b5V.cell
      have d6V := b6V.cell
      have f6V := b6V.frozen
      have d7V := b7V.cell
      have d3V := (show Boxed V1 w.heap.size 3 (.int .i64 stop) from (hbV.block _ b3c.lt).trans b3c).cell
      have kD0V : V1.heap[D0]? = some (.deferred (some [])) := (hgr.block _ (Array.getElem?_eq_some_iff.1 kD0X).1 (by simp; omega)).trans kD0X
      clear b5X b6X hbX hbwX hgX b7X b8X hgr b5P b6P hbP kD0X kD0 b7P
      go_wp2_with fail
      have b5P := b5V.alloc (.cells #[.int .i64 1] 3)
      have b6P := Boxed.new V1 3 (.int .i64 1)
      have hbP := al hbV (.cells #[.int .i64 1] 3)
      have kD0 := (KeepsOthers.alloc V1 (.cells #[.int .i64 1] 3)).same D0 _ kD0V rfl
      have kD1 := (KeepsOthers.alloc V1 (.cells #[.int .i64 1] 3)).same D1 _ kD1V rfl
      obtain ⟨P1, hP⟩ : ∃ P1, V1.alloc (.cells #[.int .i64 1] 3) = P1 := ⟨_, rfl⟩
      have hszV2 : V1.heap.size + 1 ≤ P1.heap.size := by rw [← hP, World.size_alloc]; exact Nat.le_refl _
      rw [hP] at b5P b6P hbP kD0 kD1 ⊢
      clear hP b5V b6V hbV d5V d6V f6V d7V d3V b7V kD0V kD1V
      have hszP : Wc.heap.size + 1 + 1 ≤ P1.heap.size := by omega
      have lD0 := (Array.getElem?_eq_some_iff.1 kD0).1
      have lD1 := (Array.getElem?_eq_some_iff.1 kD1).1
      rw [rounds_succ]
      have d6P := b6P.cell
      have b7X := (Boxed.new P1 3 (.int .i64 0)).alloc (.cells #[.string s] 9)
      have b8X := Boxed.new (P1.alloc (.cells #[.int .i64 0] 3)) 9 (.string s)
      rw [World.size_alloc] at b8X
      have hgX : P1.grownBy ((P1.alloc (.cells #[.int .i64 0] 3)).alloc (.cells #[.string s] 9)) (some P1.heap.size) := gr_trans (World.grownBy_alloc _ _ (some P1.heap.size)) (World.grownBy_alloc _ _ (some P1.heap.size))
      go_wp2_with ((go_at_call 37; (with_reducible refine (all_in s _).mono ?_); rintro e w1 ⟨rfl, rfl⟩))
      obtain ⟨X2, hX⟩ : ∃ X2, (P1.alloc (.cells #[.int .i64 0] 3)).alloc (.cells #[.string s] 9) = X2 := ⟨_, rfl⟩
      rw [hX] at b7X b8X hgX ⊢
      clear hX d6P
      have b5X : Boxed X2 Wc.heap.size 41 (.slice ao n cap) := b5P.kept hgX (by simp; omega)
      have b6X : Boxed X2 V1.heap.size 3 (.int .i64 1) := b6P.kept hgX (by simp; omega)
      have hbX : Below Wc.heap.size Wc X2 := gr_below hbP hgX (by omega) (by omega)
      have hbwX : Below w.heap.size w X2 := hb2'.trans (hbX.mono hb2'.size)
      have hszX := hgX.size
      have h7X := b7X.lt
      have kD0X : X2.heap[D0]? = some (.deferred (some [])) := (hgX.block _ (Array.getElem?_eq_some_iff.1 kD0).1 (by simp; omega)).trans kD0
      have kD1X : X2.heap[D1]? = some (.deferred (some [])) := (hgX.block _ (Array.getElem?_eq_some_iff.1 kD1).1 (by simp; omega)).trans kD1
      refine (wpIn_wide (n := 9)).1 ?_
      refine' wpIn_rangeFunc_ownG rfl (by decide) (gf := 56) (lb := #[.pointer (some ⟨(P1.heap.size + 1), 0, none⟩)]) rfl trivial (enters_of Tryd.func56 (by kernel_rfl) rfl)
        (all_stops (9 - 1) (by decide) (P1.heap.size + 1) w.heap.size s X2 b8X.cell) kpB_t (kpB_b (by omega)) (Below.refl _ _) (fun _ => rfl)
        (fun (pre : List (Nat × Nat)) W => pre = ups (allF (bs s)) pre.length ∧ Boxed W P1.heap.size 3 (.int .i64 (pre.length : Nat)) ∧ X2.grownBy W (some P1.heap.size))
        (fun c (pre : List (Nat × Nat)) W => (c = .ret ∧ ¬ pre <+: ups (allF (bs s)) n) ∨ (c = .exit 2 ∧ (pre.length : Int) = stop ∧ pre.length ≤ n ∧ Boxed W P1.heap.size 3 (.int .i64 (pre.length : Nat)) ∧ X2.grownBy W (some P1.heap.size)))
        (OwnFrom.and (ownFrom_pure _ (fun (pre : List (Nat × Nat)) => pre = ups (allF (bs s)) pre.length)) (OwnFrom.and (Own.from (boxed_own _ _ (fun (pre : List (Nat × Nat)) => .int .i64 (pre.length : Nat))) _) (ownFrom_gr X2 P1.heap.size)))
        (fun c s' A B row hs hg hr => hs.imp id (fun h => ⟨h.1, h.2.1, h.2.2.1, boxed_own (β := List (Nat × Nat)) P1.heap.size 3 (fun pre => .int .i64 (pre.length : Nat)) s' A B row h.2.2.2.1 hg (fun r e => (hr r e).2), ownFrom_gr (β := List (Nat × Nat)) X2 P1.heap.size s' A B row h.2.2.2.2 hg hr⟩))
        ⟨rfl, b7X, gr_refl _ _⟩ _ ?assign2 ?body2 ?done2 ?stop2
      case assign2 =>
        intro l x W K hK
        dsimp only [encP]
        gi_wp2
        exact hK
      case body2 =>
        rintro l pre ⟨x1, x2⟩ W ⟨hpre, c7, hgr⟩ hge
        rw [HN.out] at hge
        have hbW := gr_below hbX hgr (by omega) (by omega)
        have c5 : Boxed W Wc.heap.size 41 (.slice ao n cap) := b5X.kept hgr (by simp; omega)
        have c6 : Boxed W V1.heap.size 3 (.int .i64 1) := b6X.kept hgr (by simp; omega)
        have d3 := (show Boxed W w.heap.size 3 (.int .i64 stop) from (hbW.block _ b3c.lt).trans b3c).cell
        have c4 : Boxed W (w.heap.size + 1) 4 (.bool false) := (hbW.block _ b4c.lt).trans b4c
        have d4 := c4.cell
        have f4 := c4.frozen
        have d5 := c5.cell
        have d6 := c6.cell
        have d7 := c7.cell
        have f7 := c7.frozen
        have hle : pre.length ≤ 1048576 := by omega
        have hk0 : (0 : Int) ≤ (pre.length : Int) := by omega
        have hki : (pre.length : Int) < (n : Int) := by omega
        have hjn : pre.length < n := hge
        obtain ⟨g, rfl, z0, z1, _, _⟩ := (HC.out.below hbW (Nat.le_refl _)) pre.length (by rw [HN.out]; exact hjn)
        obtain ⟨y1, hy1⟩ : ∃ y, atN (bs s) pre.length = y := ⟨_, rfl⟩
        obtain ⟨y2, hy2⟩ : ∃ y, ((tk (bs s))[pre.length]?.getD (0, 0)).1 = y := ⟨_, rfl⟩
        rw [hy1] at z0
        rw [hy2] at z1
        have hF : allF (bs s) pre.length = (y1, y2) := by unfold allF; rw [hy1, hy2]
        have HPRE := Lib.hid hpre
        have HF := Lib.hid hF
        clear hy1 hy2 hF hpre
        by_cases h1 : y1 = x1
        · subst h1
          by_cases h2 : y2 = x2
          · subst h2
            have HP := Lib.hid (show pre ++ [(y1, y2)] = ups (allF (bs s)) (pre ++ [(y1, y2)]).length by rw [← HF.out]; exact ups_step HPRE.out)
            by_cases hst : ((pre.length : Int) + 1) = stop
            · have hd3 : (((pre.length : Int) + 1) == stop) = true := beq_iff_eq.2 hst
              have HST := Lib.hid hst
              clear hst
              gi_wp2
              refine ⟨(KeepsOthers.setCell _ _ _).from _, .inr ⟨rfl, ?_, ?_, ?_, gr_trans hgr (grownBy_setCell' _ _ _)⟩⟩
              · rw [List.length_append, List.length_singleton, Int.natCast_add]; exact HST.out
              · rw [List.length_append, List.length_singleton]; exact hge
              · rw [List.length_append, List.length_singleton, Int.natCast_add]; exact c7.set _
            · have hd3 : (((pre.length : Int) + 1) == stop) = false := beq_eq_false_iff_ne.2 hst
              clear hst
              gi_wp2
              refine ⟨(KeepsOthers.setCell _ _ _).from _, ⟨(KeepsOthers.setCell _ _ _).walks, (Below.refl _ W).setCell (p := ⟨P1.heap.size, 0, none⟩) (show w.heap.size ≤ P1.heap.size by omega) _⟩, HP.out, ?_, gr_trans hgr (grownBy_setCell' _ _ _)⟩
              rw [List.length_append, List.length_singleton, Int.natCast_add]
              exact c7.set _
          · have hd2 : ((y2 : Int) != (x2 : Int)) = true := bne_iff_ne.2 (by omega)
            have HM := Lib.hid (ups_mism (f := allF (bs s)) (pre := pre) (x := (y1, x2)) (by rw [HF.out]; intro e; injection e with e1 e2; exact h2 e2.symm) n)
            clear h2
            gi_wp2
            exact ⟨(KeepsOthers.setCell _ _ _).from _, .inl ⟨rfl, HM.out⟩⟩
        · have hd1 : ((y1 : Int) != (x1 : Int)) = true := bne_iff_ne.2 (by omega)
          have HM := Lib.hid (ups_mism (f := allF (bs s)) (pre := pre) (x := (x1, x2)) (by rw [HF.out]; intro e; injection e with e1 e2; exact h1 e1.symm) n)
          clear h1
          gi_wp2
          exact ⟨(KeepsOthers.setCell _ _ _).from _, .inl ⟨rfl, HM.out⟩⟩
      case done2 =>
        rintro D2 ys V2 hD2 rfl ⟨-, b7V, hgr⟩ kD2V
        rw [ups_length, HN.out] at b7V
        have b5V : Boxed V2 Wc.heap.size 41 (.slice ao n cap) := b5X.kept hgr (by simp; omega)
        have b6V : Boxed V2 V1.heap.size 3 (.int .i64 1) := b6X.kept hgr (by simp; omega)
        have hbV : Below Wc.heap.size Wc V2 := gr_below hbX hgr (by omega) (by omega)
        have hszV := hgr.size
        have h7V := b7V.lt
        have d5V := b5V.cell
        have d6V := b6V.cell
        have f6V := b6V.frozen
        have d7V := b7V.cell
        have d3V := (show Boxed V2 w.heap.size 3 (.int .i64 stop) from (hbV.block _ b3c.lt).trans b3c).cell
        have kD0V : V2.heap[D0]? = some (.deferred (some [])) := (hgr.block _ (Array.getElem?_eq_some_iff.1 kD0X).1 (by simp; omega)).trans kD0X
        have kD1V : V2.heap[D1]? = some (.deferred (some [])) := (hgr.block _ (Array.getElem?_eq_some_iff.1 kD1X).1 (by simp; omega)).trans kD1X
        clear b5X b6X hbX hbwX hgX b7X b8X hgr b5P b6P hbP kD0X kD0 kD1X kD1
        have d5Q := d5V
        have d6Q := d6V
        have d7Q := d7V
        have d3Q := d3V
        have b5P := b5V
        have b6P := b6V
        have hbP := hbV
        have hszP : Wc.heap.size + 1 + 1 ≤ V2.heap.size := by omega
        clear b5V b6V hbV d5V d6V f6V d7V d3V
        have kD0 := kD0V
        have lD0 := (Array.getElem?_eq_some_iff.1 kD0V).1
        clear kD0V
        have kD1 := kD1V
        have lD1 := (Array.getElem?_eq_some_iff.1 kD1V).1
        clear kD1V
        have kD2 := kD2V
        have lD2 := (Array.getElem?_eq_some_iff.1 kD2V).1
        clear kD2V
        have b7P := b7V
        clear b7V
        have d7P := b7P.cell
        have f7P := b7P.frozen
        have b7X := (b7P.set (.int .i64 0)).alloc (.cells #[.string s] 9)
        have b8X := Boxed.new (V2.setCell ⟨P1.heap.size, 0, none⟩ (.int .i64 0)) 9 (.string s)
        have hszS : (V2.setCell ⟨P1.heap.size, 0, none⟩ (.int .i64 0)).heap.size = V2.heap.size := by simp
        rw [hszS] at b8X
        have hgX : V2.grownBy ((V2.setCell ⟨P1.heap.size, 0, none⟩ (.int .i64 0)).alloc (.cells #[.string s] 9)) (some P1.heap.size) := gr_trans (grownBy_setCell' _ _ _) (World.grownBy_alloc _ _ (some P1.heap.size))
        go_wp2_with ((go_at_call 38; (with_reducible refine (back_in s _).mono ?_); rintro e w1 ⟨rfl, rfl⟩))
        obtain ⟨X3, hX⟩ : ∃ X3, (V2.setCell ⟨P1.heap.size, 0, none⟩ (.int .i64 0)).alloc (.cells #[.string s] 9) = X3 := ⟨_, rfl⟩
        rw [hX] at b7X b8X hgX ⊢
        clear hX d7P f7P hszS d5Q d6Q d7Q d3Q
        have b5X : Boxed X3 Wc.heap.size 41 (.slice ao n cap) := b5P.kept hgX (by simp; omega)
        have b6X : Boxed X3 V1.heap.size 3 (.int .i64 1) := b6P.kept hgX (by simp; omega)
        have hbX : Below Wc.heap.size Wc X3 := gr_below hbP hgX (by omega) (by omega)
        have hbwX : Below w.heap.size w X3 := hb2'.trans (hbX.mono hb2'.size)
        have hszX := hgX.size
        have h7X := b7X.lt
        have kD0X : X3.heap[D0]? = some (.deferred (some [])) := (hgX.block _ (Array.getElem?_eq_some_iff.1 kD0).1 (by simp; omega)).trans kD0
        have kD1X : X3.heap[D1]? = some (.deferred (some [])) := (hgX.block _ (Array.getElem?_eq_some_iff.1 kD1).1 (by simp; omega)).trans kD1
        have kD2X : X3.heap[D2]? = some (.deferred (some [])) := (hgX.block _ (Array.getElem?_eq_some_iff.1 kD2).1 (by simp; omega)).trans kD2
        refine (wpIn_wide (n := 9)).1 ?_
        refine' wpIn_rangeFunc_ownG rfl (by decide) (gf := 57) (lb := #[.pointer (some ⟨V2.heap.size, 0, none⟩)]) rfl trivial (enters_of Tryd.func57 (by kernel_rfl) rfl)
          (back_stops (9 - 1) (by decide) V2.heap.size w HT.out s (by omega) X3 hbwX b8X.cell) kpB_t (kpB_b (by omega)) (Below.refl _ _) (fun _ => rfl)
          (fun (pre : List (Nat × Nat)) W => pre = ups (backF (bs s)) pre.length ∧ Boxed W P1.heap.size 3 (.int .i64 (pre.length : Nat)) ∧ X3.grownBy W (some P1.heap.size))
          (fun c (pre : List (Nat × Nat)) W => (c = .ret ∧ ¬ pre <+: ups (backF (bs s)) n) ∨ (c = .exit 4 ∧ (pre.length : Int) = stop ∧ pre.length ≤ n ∧ Boxed W P1.heap.size 3 (.int .i64 (pre.length : Nat)) ∧ X3.grownBy W (some P1.heap.size)))
          (OwnFrom.and (ownFrom_pure _ (fun (pre : List (Nat × Nat)) => pre = ups (backF (bs s)) pre.length)) (OwnFrom.and (Own.from (boxed_own _ _ (fun (pre : List (Nat × Nat)) => .int .i64 (pre.length : Nat))) _) (ownFrom_gr X3 P1.heap.size)))
          (fun c s' A B row hs hg hr => hs.imp id (fun h => ⟨h.1, h.2.1, h.2.2.1, boxed_own (β := List (Nat × Nat)) P1.heap.size 3 (fun pre => .int .i64 (pre.length : Nat)) s' A B row h.2.2.2.1 hg (fun r e => (hr r e).2), ownFrom_gr (β := List (Nat × Nat)) X3 P1.heap.size s' A B row h.2.2.2.2 hg hr⟩))
          ⟨rfl, b7X, gr_refl _ _⟩ _ ?assign3 ?body3 ?done3 ?stop3
        case assign3 =>
          intro l x W K hK
          dsimp only [encP]
          gi_wp2
          exact hK
        case body3 =>
          rintro l pre ⟨x1, x2⟩ W ⟨hpre, c7, hgr⟩ hge
          rw [HN.out] at hge
          have hbW := gr_below hbX hgr (by omega) (by omega)
          have c5 : Boxed W Wc.heap.size 41 (.slice ao n cap) := b5X.kept hgr (by simp; omega)
          have c6 : Boxed W V1.heap.size 3 (.int .i64 1) := b6X.kept hgr (by simp; omega)
          have d3 := (show Boxed W w.heap.size 3 (.int .i64 stop) from (hbW.block _ b3c.lt).trans b3c).cell
          have c4 : Boxed W (w.heap.size + 1) 4 (.bool false) := (hbW.block _ b4c.lt).trans b4c
          have d4 := c4.cell
          have f4 := c4.frozen
          have d5 := c5.cell
          have d6 := c6.cell
          have d7 := c7.cell
          have f7 := c7.frozen
          have hle : pre.length ≤ 1048576 := by omega
          obtain ⟨j, hj⟩ : ∃ j, n = pre.length + 1 + j := ⟨n - pre.length - 1, by omega⟩
          have hjj : countN (bs s) - 1 - pre.length = j := by rw [HN.out]; omega
          have hk : ((n : Int) - 1 - (pre.length : Int)) = (j : Int) := by omega
          have hk0 : (0 : Int) ≤ (j : Int) := by omega
          have hki : (j : Int) < (n : Int) := by omega
          have hjn : j < n := by omega
          clear hj
          obtain ⟨g, rfl, z0, z1, _, _⟩ := (HC.out.below hbW (Nat.le_refl _)) j (by rw [HN.out]; exact hjn)
          obtain ⟨y1, hy1⟩ : ∃ y, atN (bs s) j = y := ⟨_, rfl⟩
          obtain ⟨y2, hy2⟩ : ∃ y, ((tk (bs s))[j]?.getD (0, 0)).1 = y := ⟨_, rfl⟩
          rw [hy1] at z0
          rw [hy2] at z1
          have hF : backF (bs s) pre.length = (y1, y2) := by unfold backF allF; rw [hjj, hy1, hy2]
          have HPRE := Lib.hid hpre
          have HF := Lib.hid hF
          clear hy1 hy2 hF hpre hjj
          by_cases h1 : y1 = x1
          · subst h1
            by_cases h2 : y2 = x2
            · subst h2
              have HP := Lib.hid (show pre ++ [(y1, y2)] = ups (backF (bs s)) (pre ++ [(y1, y2)]).length by rw [← HF.out]; exact ups_step HPRE.out)
              by_cases hst : ((pre.length : Int) + 1) = stop
              · have hd3 : (((pre.length : Int) + 1) == stop) = true := beq_iff_eq.2 hst
                have HST := Lib.hid hst
                clear hst
                gi_wp2
                refine ⟨(KeepsOthers.setCell _ _ _).from _, .inr ⟨rfl, ?_, ?_, ?_, gr_trans hgr (grownBy_setCell' _ _ _)⟩⟩
                · rw [List.length_append, List.length_singleton, Int.natCast_add]; exact HST.out
                · rw [List.length_append, List.length_singleton]; exact hge
                · rw [List.length_append, List.length_singleton, Int.natCast_add]; exact c7.set _
              · have hd3 : (((pre.length : Int) + 1) == stop) = false := beq_eq_false_iff_ne.2 hst
                clear hst
                gi_wp2
                refine ⟨(KeepsOthers.setCell _ _ _).from _, ⟨(KeepsOthers.setCell _ _ _).walks, (Below.refl _ W).setCell (p := ⟨P1.heap.size, 0, none⟩) (show w.heap.size ≤ P1.heap.size by omega) _⟩, HP.out, ?_, gr_trans hgr (grownBy_setCell' _ _ _)⟩
                rw [List.length_append, List.length_singleton, Int.natCast_add]
                exact c7.set _
            · have hd2 : ((y2 : Int) != (x2 : Int)) = true := bne_iff_ne.2 (by omega)
              have HM := Lib.hid (ups_mism (f := backF (bs s)) (pre := pre) (x := (y1, x2)) (by rw [HF.out]; intro e; injection e with e1 e2; exact h2 e2.symm) n)
              clear h2
              gi_wp2
              exact ⟨(KeepsOthers.setCell _ _ _).from _, .inl ⟨rfl, HM.out⟩⟩
          · have hd1 : ((y1 : Int) != (x1 : Int)) = true := bne_iff_ne.2 (by omega)
            have HM := Lib.hid (ups_mism (f := backF (bs s)) (pre := pre) (x := (x1, x2)) (by rw [HF.out]; intro e; injection e with e1 e2; exact h1 e1.symm) n)
            clear h1
            gi_wp2
            exact ⟨(KeepsOthers.setCell _ _ _).from _, .inl ⟨rfl, HM.out⟩⟩
        case done3 =>
          rintro D3 ys V3 hD3 rfl ⟨-, b7V, hgr⟩ kD3V
          rw [ups_length, HN.out] at b7V
          have b5V : Boxed V3 Wc.heap.size 41 (.slice ao n cap) := b5X.kept hgr (by simp; omega)
          have b6V : Boxed V3 V1.heap.size 3 (.int .i64 1) := b6X.kept hgr (by simp; omega)
          have hbV : Below Wc.heap.size Wc V3 := gr_below hbX hgr (by omega) (by omega)
          have hszV := hgr.size
          have h7V := b7V.lt
          have d5V := b5V.cell
          have d6V := b6V.cell
          have f6V := b6V.frozen
          have d7V := b7V.cell
          have d3V := (show Boxed V3 w.heap.size 3 (.int .i64 stop) from (hbV.block _ b3c.lt).trans b3c).cell
          have kD0V : V3.heap[D0]? = some (.deferred (some [])) := (hgr.block _ (Array.getElem?_eq_some_iff.1 kD0X).1 (by simp; omega)).trans kD0X
          have kD1V : V3.heap[D1]? = some (.deferred (some [])) := (hgr.block _ (Array.getElem?_eq_some_iff.1 kD1X).1 (by simp; omega)).trans kD1X
          have kD2V : V3.heap[D2]? = some (.deferred (some [])) := (hgr.block _ (Array.getElem?_eq_some_iff.1 kD2X).1 (by simp; omega)).trans kD2X
          clear b5X b6X hbX hbwX hgX b7X b8X hgr b5P b6P hbP kD0X kD0 kD1X kD1 kD2X kD2 b7P
          go_wp2_with fail
          have b5P := b5V.alloc (.cells #[.int .i64 2] 3)
          have b6P := Boxed.new V3 3 (.int .i64 2)
          have hbP := al hbV (.cells #[.int .i64 2] 3)
          have kD0 := (KeepsOthers.alloc V3 (.cells #[.int .i64 2] 3)).same D0 _ kD0V rfl
          have kD1 := (KeepsOthers.alloc V3 (.cells #[.int .i64 2] 3)).same D1 _ kD1V rfl
          have kD2 := (KeepsOthers.alloc V3 (.cells #[.int .i64 2] 3)).same D2 _ kD2V rfl
          have kD3 := (KeepsOthers.alloc V3 (.cells #[.int .i64 2] 3)).same D3 _ kD3V rfl
          obtain ⟨P2, hP⟩ : ∃ P2, V3.alloc (.cells #[.int .i64 2] 3) = P2 := ⟨_, rfl⟩
          have hszV2 : V3.heap.size + 1 ≤ P2.heap.size := by rw [← hP, World.size_alloc]; exact Nat.le_refl _
          rw [hP] at b5P b6P hbP kD0 kD1 kD2 kD3 ⊢
          clear hP b5V b6V hbV d5V d6V f6V d7V d3V b7V kD0V kD1V kD2V kD3V
          have hszP : Wc.heap.size + 1 + 1 ≤ P2.heap.size := by omega
          have lD0 := (Array.getElem?_eq_some_iff.1 kD0).1
          have lD1 := (Array.getElem?_eq_some_iff.1 kD1).1
          have lD2 := (Array.getElem?_eq_some_iff.1 kD2).1
          have lD3 := (Array.getElem?_eq_some_iff.1 kD3).1
          rw [rounds_succ]
          have d3 := (show Boxed P2 w.heap.size 3 (.int .i64 stop) from (hbP.block _ b3c.lt).trans b3c).cell
          have c4 : Boxed P2 (w.heap.size + 1) 4 (.bool false) := (hbP.block _ b4c.lt).trans b4c
          have d5 := b5P.cell
          have d6 := b6P.cell
          have hbF : Below w.heap.size w P2 := hb2'.trans (hbP.mono hb2'.size)
          have HW := Lib.hid (wrongLaw s hs ao cap stop P2 (HT.out.below hbF (Nat.le_refl _)) (HC.out.below hbP (Nat.le_refl _)))
          rw [HN.out] at HW
          go_wp2_with (go_at_call 39; (with_reducible refine HW.out.mono ?_); rintro e w4 ⟨rfl, hb4⟩; have c4Y : Boxed w4 (w.heap.size + 1) 4 (.bool false) := (hb4.block _ c4.lt).trans c4; have e4Y := c4Y.cell; have f4Y := c4Y.frozen)
          have hb5 : Below w.heap.size w (w4.setCell ⟨w.heap.size + 1, 0, none⟩ (.bool true)) := (hbF.trans (hb4.mono hbF.size)).setCell (p := ⟨w.heap.size + 1, 0, none⟩) (Nat.le_succ _) _
          have c5 : Boxed (w4.setCell ⟨w.heap.size + 1, 0, none⟩ (.bool true)) (w.heap.size + 1) 4 (.bool true) := c4Y.set _
          have qD0 : (w4.setCell ⟨w.heap.size + 1, 0, none⟩ (.bool true)).heap[D0]? = some (.deferred (some [])) := (KeepsOthers.setCell w4 ⟨w.heap.size + 1, 0, none⟩ (.bool true)).same D0 _ ((hb4.block _ lD0).trans kD0) rfl
          have qD1 : (w4.setCell ⟨w.heap.size + 1, 0, none⟩ (.bool true)).heap[D1]? = some (.deferred (some [])) := (KeepsOthers.setCell w4 ⟨w.heap.size + 1, 0, none⟩ (.bool true)).same D1 _ ((hb4.block _ lD1).trans kD1) rfl
          have qD2 : (w4.setCell ⟨w.heap.size + 1, 0, none⟩ (.bool true)).heap[D2]? = some (.deferred (some [])) := (KeepsOthers.setCell w4 ⟨w.heap.size + 1, 0, none⟩ (.bool true)).same D2 _ ((hb4.block _ lD2).trans kD2) rfl
          have qD3 : (w4.setCell ⟨w.heap.size + 1, 0, none⟩ (.bool true)).heap[D3]? = some (.deferred (some [])) := (KeepsOthers.setCell w4 ⟨w.heap.size + 1, 0, none⟩ (.bool true)).same D3 _ ((hb4.block _ lD3).trans kD3) rfl
          obtain ⟨W5, hW5⟩ : ∃ W5, w4.setCell ⟨w.heap.size + 1, 0, none⟩ (.bool true) = W5 := ⟨_, rfl⟩
          rw [hW5] at qD0 qD1 qD2 qD3 hb5 c5 ⊢
          clear hW5
          have rD3 : W5.heap[D3]? = some (.deferred (some [])) := qD3
          refine ⟨by simp, .inl ⟨_, _, rfl, run_takeDeferred rD3, ?_⟩⟩
          have rD2 : (W5.putObj D3 (.deferred none)).heap[D2]? = some (.deferred (some [])) := (World.putObj_heap_other (by omega)).trans qD2
          refine ⟨by simp, .inl ⟨_, _, rfl, run_takeDeferred rD2, ?_⟩⟩
          have rD1 : ((W5.putObj D3 (.deferred none)).putObj D2 (.deferred none)).heap[D1]? = some (.deferred (some [])) := (World.putObj_heap_other (by omega)).trans ((World.putObj_heap_other (by omega)).trans qD1)
          refine ⟨by simp, .inl ⟨_, _, rfl, run_takeDeferred rD1, ?_⟩⟩
          have rD0 : (((W5.putObj D3 (.deferred none)).putObj D2 (.deferred none)).putObj D1 (.deferred none)).heap[D0]? = some (.deferred (some [])) := (World.putObj_heap_other (by omega)).trans ((World.putObj_heap_other (by omega)).trans ((World.putObj_heap_other (by omega)).trans qD0))
          refine ⟨by simp, .inl ⟨_, _, rfl, run_takeDeferred rD0, ?_⟩⟩
          have c6 : Boxed ((((W5.putObj D3 (.deferred none)).putObj D2 (.deferred none)).putObj D1 (.deferred none)).putObj D0 (.deferred none)) (w.heap.size + 1) 4 (.bool true) := (World.putObj_heap_other (by omega)).trans ((World.putObj_heap_other (by omega)).trans ((World.putObj_heap_other (by omega)).trans ((World.putObj_heap_other (by omega)).trans (c5))))
          have hc6 := c6.cell
          refine ⟨.bool true, ?_, rfl, ((((hb5).trans (belowK_b (w := w) (Nat.le_refl _) _ D3 _ _ (by omega) rD3 rfl rfl)).trans (belowK_b (w := w) (Nat.le_refl _) _ D2 _ _ (by omega) rD2 rfl rfl)).trans (belowK_b (w := w) (Nat.le_refl _) _ D1 _ _ (by omega) rD1 rfl rfl)).trans (belowK_b (w := w) (Nat.le_refl _) _ D0 _ _ (by omega) rD0 rfl rfl)⟩
          simp [results, Tryd.f11, go_sem, hc6]
        case stop3 =>
          rintro D3 c pre V3 hD3 ⟨k', hk', rfl⟩ hx kD3V
          rcases hx with ⟨rfl, hnp⟩ | ⟨rfl, hst, hpn, b7V, hgr⟩
          · exact absurd (ups_prefix _ (by rw [← HN.out]; exact hk')) hnp
          · refine wpIn_wide.2 ?_
            obtain ⟨cnt, hcnt⟩ : ∃ cnt, (ups (backF (bs s)) k').length = cnt := ⟨_, rfl⟩
            rw [hcnt] at b7V hst hpn
            clear hcnt
            have hq : ((cnt : Int) == stop) = true := beq_iff_eq.2 hst
            clear hst
            have b5V : Boxed V3 Wc.heap.size 41 (.slice ao n cap) := b5X.kept hgr (by simp; omega)
            have b6V : Boxed V3 V1.heap.size 3 (.int .i64 1) := b6X.kept hgr (by simp; omega)
            have hbV : Below Wc.heap.size Wc V3 := gr_below hbX hgr (by omega) (by omega)
            have hszV := hgr.size
            have h7V := b7V.lt
            have d5V := b5V.cell
            have d6V := b6V.cell
            have f6V := b6V.frozen
            have d7V := b7V.cell
            have d3V := (show Boxed V3 w.heap.size 3 (.int .i64 stop) from (hbV.block _ b3c.lt).trans b3c).cell
            have kD0V : V3.heap[D0]? = some (.deferred (some [])) := (hgr.block _ (Array.getElem?_eq_some_iff.1 kD0X).1 (by simp; omega)).trans kD0X
            have kD1V : V3.heap[D1]? = some (.deferred (some [])) := (hgr.block _ (Array.getElem?_eq_some_iff.1 kD1X).1 (by simp; omega)).trans kD1X
            have kD2V : V3.heap[D2]? = some (.deferred (some [])) := (hgr.block _ (Array.getElem?_eq_some_iff.1 kD2X).1 (by simp; omega)).trans kD2X
            clear b5X b6X hbX hbwX hgX b7X b8X hgr b5P b6P hbP kD0X kD0 kD1X kD1 kD2X kD2 b7P
            have hq1 : ((cnt : Int) != (n : Int)) = true ∨ ((cnt : Int) != (n : Int)) = false := by cases ((cnt : Int) != (n : Int)) <;> simp
            rcases hq1 with hq1 | hq1
            · skip
              go_wp2_with fail
              have b5P := b5V.alloc (.cells #[.int .i64 2] 3)
              have b6P := Boxed.new V3 3 (.int .i64 2)
              have hbP := al hbV (.cells #[.int .i64 2] 3)
              have kD0 := (KeepsOthers.alloc V3 (.cells #[.int .i64 2] 3)).same D0 _ kD0V rfl
              have kD1 := (KeepsOthers.alloc V3 (.cells #[.int .i64 2] 3)).same D1 _ kD1V rfl
              have kD2 := (KeepsOthers.alloc V3 (.cells #[.int .i64 2] 3)).same D2 _ kD2V rfl
              have kD3 := (KeepsOthers.alloc V3 (.cells #[.int .i64 2] 3)).same D3 _ kD3V rfl
              obtain ⟨P2, hP⟩ : ∃ P2, V3.alloc (.cells #[.int .i64 2] 3) = P2 := ⟨_, rfl⟩
              have hszV2 : V3.heap.size + 1 ≤ P2.heap.size := by rw [← hP, World.size_alloc]; exact Nat.le_refl _
              rw [hP] at b5P b6P hbP kD0 kD1 kD2 kD3 ⊢
              clear hP b5V b6V hbV d5V d6V f6V d7V d3V b7V kD0V kD1V kD2V kD3V
              have hszP : Wc.heap.size + 1 + 1 ≤ P2.heap.size := by omega
              have lD0 := (Array.getElem?_eq_some_iff.1 kD0).1
              have lD1 := (Array.getElem?_eq_some_iff.1 kD1).1
              have lD2 := (Array.getElem?_eq_some_iff.1 kD2).1
              have lD3 := (Array.getElem?_eq_some_iff.1 kD3).1
              rw [rounds_succ]
              have d3 := (show Boxed P2 w.heap.size 3 (.int .i64 stop) from (hbP.block _ b3c.lt).trans b3c).cell
              have c4 : Boxed P2 (w.heap.size + 1) 4 (.bool false) := (hbP.block _ b4c.lt).trans b4c
              have d5 := b5P.cell
              have d6 := b6P.cell
              have hbF : Below w.heap.size w P2 := hb2'.trans (hbP.mono hb2'.size)
              have HW := Lib.hid (wrongLaw s hs ao cap stop P2 (HT.out.below hbF (Nat.le_refl _)) (HC.out.below hbP (Nat.le_refl _)))
              rw [HN.out] at HW
              go_wp2_with (go_at_call 39; (with_reducible refine HW.out.mono ?_); rintro e w4 ⟨rfl, hb4⟩; have c4Y : Boxed w4 (w.heap.size + 1) 4 (.bool false) := (hb4.block _ c4.lt).trans c4; have e4Y := c4Y.cell; have f4Y := c4Y.frozen)
              have hb5 : Below w.heap.size w (w4.setCell ⟨w.heap.size + 1, 0, none⟩ (.bool true)) := (hbF.trans (hb4.mono hbF.size)).setCell (p := ⟨w.heap.size + 1, 0, none⟩) (Nat.le_succ _) _
              have c5 : Boxed (w4.setCell ⟨w.heap.size + 1, 0, none⟩ (.bool true)) (w.heap.size + 1) 4 (.bool true) := c4Y.set _
              have qD0 : (w4.setCell ⟨w.heap.size + 1, 0, none⟩ (.bool true)).heap[D0]? = some (.deferred (some [])) := (KeepsOthers.setCell w4 ⟨w.heap.size + 1, 0, none⟩ (.bool true)).same D0 _ ((hb4.block _ lD0).trans kD0) rfl
              have qD1 : (w4.setCell ⟨w.heap.size + 1, 0, none⟩ (.bool true)).heap[D1]? = some (.deferred (some [])) := (KeepsOthers.setCell w4 ⟨w.heap.size + 1, 0, none⟩ (.bool true)).same D1 _ ((hb4.block _ lD1).trans kD1) rfl
              have qD2 : (w4.setCell ⟨w.heap.size + 1, 0, none⟩ (.bool true)).heap[D2]? = some (.deferred (some [])) := (KeepsOthers.setCell w4 ⟨w.heap.size + 1, 0, none⟩ (.bool true)).same D2 _ ((hb4.block _ lD2).trans kD2) rfl
              have qD3 : (w4.setCell ⟨w.heap.size + 1, 0, none⟩ (.bool true)).heap[D3]? = some (.deferred (some [])) := (KeepsOthers.setCell w4 ⟨w.heap.size + 1, 0, none⟩ (.bool true)).same D3 _ ((hb4.block _ lD3).trans kD3) rfl
              obtain ⟨W5, hW5⟩ : ∃ W5, w4.setCell ⟨w.heap.size + 1, 0, none⟩ (.bool true) = W5 := ⟨_, rfl⟩
              rw [hW5] at qD0 qD1 qD2 qD3 hb5 c5 ⊢
              clear hW5
              have rD3 : W5.heap[D3]? = some (.deferred (some [])) := qD3
              refine ⟨by simp, .inl ⟨_, _, rfl, run_takeDeferred rD3, ?_⟩⟩
              have rD2 : (W5.putObj D3 (.deferred none)).heap[D2]? = some (.deferred (some [])) := (World.putObj_heap_other (by omega)).trans qD2
              refine ⟨by simp, .inl ⟨_, _, rfl, run_takeDeferred rD2, ?_⟩⟩
              have rD1 : ((W5.putObj D3 (.deferred none)).putObj D2 (.deferred none)).heap[D1]? = some (.deferred (some [])) := (World.putObj_heap_other (by omega)).trans ((World.putObj_heap_other (by omega)).trans qD1)
              refine ⟨by simp, .inl ⟨_, _, rfl, run_takeDeferred rD1, ?_⟩⟩
              have rD0 : (((W5.putObj D3 (.deferred none)).putObj D2 (.deferred none)).putObj D1 (.deferred none)).heap[D0]? = some (.deferred (some [])) := (World.putObj_heap_other (by omega)).trans ((World.putObj_heap_other (by omega)).trans ((World.putObj_heap_other (by omega)).trans qD0))
              refine ⟨by simp, .inl ⟨_, _, rfl, run_takeDeferred rD0, ?_⟩⟩
              have c6 : Boxed ((((W5.putObj D3 (.deferred none)).putObj D2 (.deferred none)).putObj D1 (.deferred none)).putObj D0 (.deferred none)) (w.heap.size + 1) 4 (.bool true) := (World.putObj_heap_other (by omega)).trans ((World.putObj_heap_other (by omega)).trans ((World.putObj_heap_other (by omega)).trans ((World.putObj_heap_other (by omega)).trans (c5))))
              have hc6 := c6.cell
              refine ⟨.bool true, ?_, rfl, ((((hb5).trans (belowK_b (w := w) (Nat.le_refl _) _ D3 _ _ (by omega) rD3 rfl rfl)).trans (belowK_b (w := w) (Nat.le_refl _) _ D2 _ _ (by omega) rD2 rfl rfl)).trans (belowK_b (w := w) (Nat.le_refl _) _ D1 _ _ (by omega) rD1 rfl rfl)).trans (belowK_b (w := w) (Nat.le_refl _) _ D0 _ _ (by omega) rD0 rfl rfl)⟩
              simp [results, Tryd.f11, go_sem, hc6]
            · skip
              go_wp2_with fail
              have b5P := b5V.alloc (.cells #[.int .i64 2] 3)
              have b6P := Boxed.new V3 3 (.int .i64 2)
              have hbP := al hbV (.cells #[.int .i64 2] 3)
              have kD0 := (KeepsOthers.alloc V3 (.cells #[.int .i64 2] 3)).same D0 _ kD0V rfl
              have kD1 := (KeepsOthers.alloc V3 (.cells #[.int .i64 2] 3)).same D1 _ kD1V rfl
              have kD2 := (KeepsOthers.alloc V3 (.cells #[.int .i64 2] 3)).same D2 _ kD2V rfl
              have kD3 := (KeepsOthers.alloc V3 (.cells #[.int .i64 2] 3)).same D3 _ kD3V rfl
              obtain ⟨P2, hP⟩ : ∃ P2, V3.alloc (.cells #[.int .i64 2] 3) = P2 := ⟨_, rfl⟩
              have hszV2 : V3.heap.size + 1 ≤ P2.heap.size := by rw [← hP, World.size_alloc]; exact Nat.le_refl _
              rw [hP] at b5P b6P hbP kD0 kD1 kD2 kD3 ⊢
              clear hP b5V b6V hbV d5V d6V f6V d7V d3V b7V kD0V kD1V kD2V kD3V
              have hszP : Wc.heap.size + 1 + 1 ≤ P2.heap.size := by omega
              have lD0 := (Array.getElem?_eq_some_iff.1 kD0).1
              have lD1 := (Array.getElem?_eq_some_iff.1 kD1).1
              have lD2 := (Array.getElem?_eq_some_iff.1 kD2).1
              have lD3 := (Array.getElem?_eq_some_iff.1 kD3).1
              rw [rounds_succ]
              have d3 := (show Boxed P2 w.heap.size 3 (.int .i64 stop) from (hbP.block _ b3c.lt).trans b3c).cell
              have c4 : Boxed P2 (w.heap.size + 1) 4 (.bool false) := (hbP.block _ b4c.lt).trans b4c
              have d5 := b5P.cell
              have d6 := b6P.cell
              have hbF : Below w.heap.size w P2 := hb2'.trans (hbP.mono hb2'.size)
              have HW := Lib.hid (wrongLaw s hs ao cap stop P2 (HT.out.below hbF (Nat.le_refl _)) (HC.out.below hbP (Nat.le_refl _)))
              rw [HN.out] at HW
              go_wp2_with (go_at_call 39; (with_reducible refine HW.out.mono ?_); rintro e w4 ⟨rfl, hb4⟩; have c4Y : Boxed w4 (w.heap.size + 1) 4 (.bool false) := (hb4.block _ c4.lt).trans c4; have e4Y := c4Y.cell; have f4Y := c4Y.frozen)
              have hb5 : Below w.heap.size w (w4.setCell ⟨w.heap.size + 1, 0, none⟩ (.bool true)) := (hbF.trans (hb4.mono hbF.size)).setCell (p := ⟨w.heap.size + 1, 0, none⟩) (Nat.le_succ _) _
              have c5 : Boxed (w4.setCell ⟨w.heap.size + 1, 0, none⟩ (.bool true)) (w.heap.size + 1) 4 (.bool true) := c4Y.set _
              have qD0 : (w4.setCell ⟨w.heap.size + 1, 0, none⟩ (.bool true)).heap[D0]? = some (.deferred (some [])) := (KeepsOthers.setCell w4 ⟨w.heap.size + 1, 0, none⟩ (.bool true)).same D0 _ ((hb4.block _ lD0).trans kD0) rfl
              have qD1 : (w4.setCell ⟨w.heap.size + 1, 0, none⟩ (.bool true)).heap[D1]? = some (.deferred (some [])) := (KeepsOthers.setCell w4 ⟨w.heap.size + 1, 0, none⟩ (.bool true)).same D1 _ ((hb4.block _ lD1).trans kD1) rfl
              have qD2 : (w4.setCell ⟨w.heap.size + 1, 0, none⟩ (.bool true)).heap[D2]? = some (.deferred (some [])) := (KeepsOthers.setCell w4 ⟨w.heap.size + 1, 0, none⟩ (.bool true)).same D2 _ ((hb4.block _ lD2).trans kD2) rfl
              have qD3 : (w4.setCell ⟨w.heap.size + 1, 0, none⟩ (.bool true)).heap[D3]? = some (.deferred (some [])) := (KeepsOthers.setCell w4 ⟨w.heap.size + 1, 0, none⟩ (.bool true)).same D3 _ ((hb4.block _ lD3).trans kD3) rfl
              obtain ⟨W5, hW5⟩ : ∃ W5, w4.setCell ⟨w.heap.size + 1, 0, none⟩ (.bool true) = W5 := ⟨_, rfl⟩
              rw [hW5] at qD0 qD1 qD2 qD3 hb5 c5 ⊢
              clear hW5
              have rD3 : W5.heap[D3]? = some (.deferred (some [])) := qD3
              refine ⟨by simp, .inl ⟨_, _, rfl, run_takeDeferred rD3, ?_⟩⟩
              have rD2 : (W5.putObj D3 (.deferred none)).heap[D2]? = some (.deferred (some [])) := (World.putObj_heap_other (by omega)).trans qD2
              refine ⟨by simp, .inl ⟨_, _, rfl, run_takeDeferred rD2, ?_⟩⟩
              have rD1 : ((W5.putObj D3 (.deferred none)).putObj D2 (.deferred none)).heap[D1]? = some (.deferred (some [])) := (World.putObj_heap_other (by omega)).trans ((World.putObj_heap_other (by omega)).trans qD1)
              refine ⟨by simp, .inl ⟨_, _, rfl, run_takeDeferred rD1, ?_⟩⟩
              have rD0 : (((W5.putObj D3 (.deferred none)).putObj D2 (.deferred none)).putObj D1 (.deferred none)).heap[D0]? = some (.deferred (some [])) := (World.putObj_heap_other (by omega)).trans ((World.putObj_heap_other (by omega)).trans ((World.putObj_heap_other (by omega)).trans qD0))
              refine ⟨by simp, .inl ⟨_, _, rfl, run_takeDeferred rD0, ?_⟩⟩
              have c6 : Boxed ((((W5.putObj D3 (.deferred none)).putObj D2 (.deferred none)).putObj D1 (.deferred none)).putObj D0 (.deferred none)) (w.heap.size + 1) 4 (.bool true) := (World.putObj_heap_other (by omega)).trans ((World.putObj_heap_other (by omega)).trans ((World.putObj_heap_other (by omega)).trans ((World.putObj_heap_other (by omega)).trans (c5))))
              have hc6 := c6.cell
              refine ⟨.bool true, ?_, rfl, ((((hb5).trans (belowK_b (w := w) (Nat.le_refl _) _ D3 _ _ (by omega) rD3 rfl rfl)).trans (belowK_b (w := w) (Nat.le_refl _) _ D2 _ _ (by omega) rD2 rfl rfl)).trans (belowK_b (w := w) (Nat.le_refl _) _ D1 _ _ (by omega) rD1 rfl rfl)).trans (belowK_b (w := w) (Nat.le_refl _) _ D0 _ _ (by omega) rD0 rfl rfl)⟩
              simp [results, Tryd.f11, go_sem, hc6]
      case stop2 =>
        rintro D2 c pre V2 hD2 ⟨k', hk', rfl⟩ hx kD2V
        rcases hx with ⟨rfl, hnp⟩ | ⟨rfl, hst, hpn, b7V, hgr⟩
        · exact absurd (ups_prefix _ (by rw [← HN.out]; exact hk')) hnp
        · refine wpIn_wide.2 ?_
          obtain ⟨cnt, hcnt⟩ : ∃ cnt, (ups (allF (bs s)) k').length = cnt := ⟨_, rfl⟩
          rw [hcnt] at b7V hst hpn
          clear hcnt
          have hq : ((cnt : Int) == stop) = true := beq_iff_eq.2 hst
          clear hst
          have b5V : Boxed V2 Wc.heap.size 41 (.slice ao n cap) := b5X.kept hgr (by simp; omega)
          have b6V : Boxed V2 V1.heap.size 3 (.int .i64 1) := b6X.kept hgr (by simp; omega)
          have hbV : Below Wc.heap.size Wc V2 := gr_below hbX hgr (by omega) (by omega)
          have hszV := hgr.size
          have h7V := b7V.lt
          have d5V := b5V.cell
          have d6V := b6V.cell
          have f6V := b6V.frozen
          have d7V := b7V.cell
          have d3V := (show Boxed V2 w.heap.size 3 (.int .i64 stop) from (hbV.block _ b3c.lt).trans b3c).cell
          have kD0V : V2.heap[D0]? = some (.deferred (some [])) := (hgr.block _ (Array.getElem?_eq_some_iff.1 kD0X).1 (by simp; omega)).trans kD0X
          have kD1V : V2.heap[D1]? = some (.deferred (some [])) := (hgr.block _ (Array.getElem?_eq_some_iff.1 kD1X).1 (by simp; omega)).trans kD1X
          clear b5X b6X hbX hbwX hgX b7X b8X hgr b5P b6P hbP kD0X kD0 kD1X kD1
          have hq1 : ((cnt : Int) != (n : Int)) = true ∨ ((cnt : Int) != (n : Int)) = false := by cases ((cnt : Int) != (n : Int)) <;> simp
          rcases hq1 with hq1 | hq1
          · skip
            have d5Q := d5V
            have d6Q := d6V
            have d7Q := d7V
            have d3Q := d3V
            have b5P := b5V
            have b6P := b6V
            have hbP := hbV
            have hszP : Wc.heap.size + 1 + 1 ≤ V2.heap.size := by omega
            clear b5V b6V hbV d5V d6V f6V d7V d3V
            have kD0 := kD0V
            have lD0 := (Array.getElem?_eq_some_iff.1 kD0V).1
            clear kD0V
            have kD1 := kD1V
            have lD1 := (Array.getElem?_eq_some_iff.1 kD1V).1
            clear kD1V
            have kD2 := kD2V
            have lD2 := (Array.getElem?_eq_some_iff.1 kD2V).1
            clear kD2V
            have b7P := b7V
            clear b7V
            have d7P := b7P.cell
            have f7P := b7P.frozen
            have b7X := (b7P.set (.int .i64 0)).alloc (.cells #[.string s] 9)
            have b8X := Boxed.new (V2.setCell ⟨P1.heap.size, 0, none⟩ (.int .i64 0)) 9 (.string s)
            have hszS : (V2.setCell ⟨P1.heap.size, 0, none⟩ (.int .i64 0)).heap.size = V2.heap.size := by simp
            rw [hszS] at b8X
            have hgX : V2.grownBy ((V2.setCell ⟨P1.heap.size, 0, none⟩ (.int .i64 0)).alloc (.cells #[.string s] 9)) (some P1.heap.size) := gr_trans (grownBy_setCell' _ _ _) (World.grownBy_alloc _ _ (some P1.heap.size))
            go_wp2_with ((go_at_call 38; (with_reducible refine (back_in s _).mono ?_); rintro e w1 ⟨rfl, rfl⟩))
            obtain ⟨X3, hX⟩ : ∃ X3, (V2.setCell ⟨P1.heap.size, 0, none⟩ (.int .i64 0)).alloc (.cells #[.string s] 9) = X3 := ⟨_, rfl⟩
            rw [hX] at b7X b8X hgX ⊢
            clear hX d7P f7P hszS d5Q d6Q d7Q d3Q
            have b5X : Boxed X3 Wc.heap.size 41 (.slice ao n cap) := b5P.kept hgX (by simp; omega)
            have b6X : Boxed X3 V1.heap.size 3 (.int .i64 1) := b6P.kept hgX (by simp; omega)
            have hbX : Below Wc.heap.size Wc X3 := gr_below hbP hgX (by omega) (by omega)
            have hbwX : Below w.heap.size w X3 := hb2'.trans (hbX.mono hb2'.size)
            have hszX := hgX.size
            have h7X := b7X.lt
            have kD0X : X3.heap[D0]? = some (.deferred (some [])) := (hgX.block _ (Array.getElem?_eq_some_iff.1 kD0).1 (by simp; omega)).trans kD0
            have kD1X : X3.heap[D1]? = some (.deferred (some [])) := (hgX.block _ (Array.getElem?_eq_some_iff.1 kD1).1 (by simp; omega)).trans kD1
            have kD2X : X3.heap[D2]? = some (.deferred (some [])) := (hgX.block _ (Array.getElem?_eq_some_iff.1 kD2).1 (by simp; omega)).trans kD2
            refine (wpIn_wide (n := 9)).1 ?_
            refine' wpIn_rangeFunc_ownG rfl (by decide) (gf := 57) (lb := #[.pointer (some ⟨V2.heap.size, 0, none⟩)]) rfl trivial (enters_of Tryd.func57 (by kernel_rfl) rfl)
              (back_stops (9 - 1) (by decide) V2.heap.size w HT.out s (by omega) X3 hbwX b8X.cell) kpB_t (kpB_b (by omega)) (Below.refl _ _) (fun _ => rfl)
              (fun (pre : List (Nat × Nat)) W => pre = ups (backF (bs s)) pre.length ∧ Boxed W P1.heap.size 3 (.int .i64 (pre.length : Nat)) ∧ X3.grownBy W (some P1.heap.size))
              (fun c (pre : List (Nat × Nat)) W => (c = .ret ∧ ¬ pre <+: ups (backF (bs s)) n) ∨ (c = .exit 4 ∧ (pre.length : Int) = stop ∧ pre.length ≤ n ∧ Boxed W P1.heap.size 3 (.int .i64 (pre.length : Nat)) ∧ X3.grownBy W (some P1.heap.size)))
              (OwnFrom.and (ownFrom_pure _ (fun (pre : List (Nat × Nat)) => pre = ups (backF (bs s)) pre.length)) (OwnFrom.and (Own.from (boxed_own _ _ (fun (pre : List (Nat × Nat)) => .int .i64 (pre.length : Nat))) _) (ownFrom_gr X3 P1.heap.size)))
              (fun c s' A B row hs hg hr => hs.imp id (fun h => ⟨h.1, h.2.1, h.2.2.1, boxed_own (β := List (Nat × Nat)) P1.heap.size 3 (fun pre => .int .i64 (pre.length : Nat)) s' A B row h.2.2.2.1 hg (fun r e => (hr r e).2), ownFrom_gr (β := List (Nat × Nat)) X3 P1.heap.size s' A B row h.2.2.2.2 hg hr⟩))
              ⟨rfl, b7X, gr_refl _ _⟩ _ ?assign3 ?body3 ?done3 ?stop3
            case assign3 =>
              intro l x W K hK
              dsimp only [encP]
              gi_wp2
              exact hK
            case body3 =>
              rintro l pre ⟨x1, x2⟩ W ⟨hpre, c7, hgr⟩ hge
              rw [HN.out] at hge
              have hbW := gr_below hbX hgr (by omega) (by omega)
              have c5 : Boxed W Wc.heap.size 41 (.slice ao n cap) := b5X.kept hgr (by simp; omega)
              have c6 : Boxed W V1.heap.size 3 (.int .i64 1) := b6X.kept hgr (by simp; omega)
              have d3 := (show Boxed W w.heap.size 3 (.int .i64 stop) from (hbW.block _ b3c.lt).trans b3c).cell
              have c4 : Boxed W (w.heap.size + 1) 4 (.bool false) := (hbW.block _ b4c.lt).trans b4c
              have d4 := c4.cell
              have f4 := c4.frozen
              have d5 := c5.cell
              have d6 := c6.cell
              have d7 := c7.cell
              have f7 := c7.frozen
              have hle : pre.length ≤ 1048576 := by omega
              obtain ⟨j, hj⟩ : ∃ j, n = pre.length + 1 + j := ⟨n - pre.length - 1, by omega⟩
              have hjj : countN (bs s) - 1 - pre.length = j := by rw [HN.out]; omega
              have hk : ((n : Int) - 1 - (pre.length : Int)) = (j : Int) := by omega
              have hk0 : (0 : Int) ≤ (j : Int) := by omega
              have hki : (j : Int) < (n : Int) := by omega
              have hjn : j < n := by omega
              clear hj
              obtain ⟨g, rfl, z0, z1, _, _⟩ := (HC.out.below hbW (Nat.le_refl _)) j (by rw [HN.out]; exact hjn)
              obtain ⟨y1, hy1⟩ : ∃ y, atN (bs s) j = y := ⟨_, rfl⟩
              obtain ⟨y2, hy2⟩ : ∃ y, ((tk (bs s))[j]?.getD (0, 0)).1 = y := ⟨_, rfl⟩
              rw [hy1] at z0
              rw [hy2] at z1
              have hF : backF (bs s) pre.length = (y1, y2) := by unfold backF allF; rw [hjj, hy1, hy2]
              have HPRE := Lib.hid hpre
              have HF := Lib.hid hF
              clear hy1 hy2 hF hpre hjj
              by_cases h1 : y1 = x1
              · subst h1
                by_cases h2 : y2 = x2
                · subst h2
                  have HP := Lib.hid (show pre ++ [(y1, y2)] = ups (backF (bs s)) (pre ++ [(y1, y2)]).length by rw [← HF.out]; exact ups_step HPRE.out)
                  by_cases hst : ((pre.length : Int) + 1) = stop
                  · have hd3 : (((pre.length : Int) + 1) == stop) = true := beq_iff_eq.2 hst
                    have HST := Lib.hid hst
                    clear hst
                    gi_wp2
                    refine ⟨(KeepsOthers.setCell _ _ _).from _, .inr ⟨rfl, ?_, ?_, ?_, gr_trans hgr (grownBy_setCell' _ _ _)⟩⟩
                    · rw [List.length_append, List.length_singleton, Int.natCast_add]; exact HST.out
                    · rw [List.length_append, List.length_singleton]; exact hge
                    · rw [List.length_append, List.length_singleton, Int.natCast_add]; exact c7.set _
                  · have hd3 : (((pre.length : Int) + 1) == stop) = false := beq_eq_false_iff_ne.2 hst
                    clear hst
                    gi_wp2
                    refine ⟨(KeepsOthers.setCell _ _ _).from _, ⟨(KeepsOthers.setCell _ _ _).walks, (Below.refl _ W).setCell (p := ⟨P1.heap.size, 0, none⟩) (show w.heap.size ≤ P1.heap.size by omega) _⟩, HP.out, ?_, gr_trans hgr (grownBy_setCell' _ _ _)⟩
                    rw [List.length_append, List.length_singleton, Int.natCast_add]
                    exact c7.set _
                · have hd2 : ((y2 : Int) != (x2 : Int)) = true := bne_iff_ne.2 (by omega)
                  have HM := Lib.hid (ups_mism (f := backF (bs s)) (pre := pre) (x := (y1, x2)) (by rw [HF.out]; intro e; injection e with e1 e2; exact h2 e2.symm) n)
                  clear h2
                  gi_wp2
                  exact ⟨(KeepsOthers.setCell _ _ _).from _, .inl ⟨rfl, HM.out⟩⟩
              · have hd1 : ((y1 : Int) != (x1 : Int)) = true := bne_iff_ne.2 (by omega)
                have HM := Lib.hid (ups_mism (f := backF (bs s)) (pre := pre) (x := (x1, x2)) (by rw [HF.out]; intro e; injection e with e1 e2; exact h1 e1.symm) n)
                clear h1
                gi_wp2
                exact ⟨(KeepsOthers.setCell _ _ _).from _, .inl ⟨rfl, HM.out⟩⟩
            case done3 =>
              rintro D3 ys V3 hD3 rfl ⟨-, b7V, hgr⟩ kD3V
              rw [ups_length, HN.out] at b7V
              have b5V : Boxed V3 Wc.heap.size 41 (.slice ao n cap) := b5X.kept hgr (by simp; omega)
              have b6V : Boxed V3 V1.heap.size 3 (.int .i64 1) := b6X.kept hgr (by simp; omega)
              have hbV : Below Wc.heap.size Wc V3 := gr_below hbX hgr (by omega) (by omega)
              have hszV := hgr.size
              have h7V := b7V.lt
              have d5V := b5V.cell
              have d6V := b6V.cell
              have f6V := b6V.frozen
              have d7V := b7V.cell
              have d3V := (show Boxed V3 w.heap.size 3 (.int .i64 stop) from (hbV.block _ b3c.lt).trans b3c).cell
              have kD0V : V3.heap[D0]? = some (.deferred (some [])) := (hgr.block _ (Array.getElem?_eq_some_iff.1 kD0X).1 (by simp; omega)).trans kD0X
              have kD1V : V3.heap[D1]? = some (.deferred (some [])) := (hgr.block _ (Array.getElem?_eq_some_iff.1 kD1X).1 (by simp; omega)).trans kD1X
              have kD2V : V3.heap[D2]? = some (.deferred (some [])) := (hgr.block _ (Array.getElem?_eq_some_iff.1 kD2X).1 (by simp; omega)).trans kD2X
              clear b5X b6X hbX hbwX hgX b7X b8X hgr b5P b6P hbP kD0X kD0 kD1X kD1 kD2X kD2 b7P
              go_wp2_with fail
              have b5P := b5V.alloc (.cells #[.int .i64 2] 3)
              have b6P := Boxed.new V3 3 (.int .i64 2)
              have hbP := al hbV (.cells #[.int .i64 2] 3)
              have kD0 := (KeepsOthers.alloc V3 (.cells #[.int .i64 2] 3)).same D0 _ kD0V rfl
              have kD1 := (KeepsOthers.alloc V3 (.cells #[.int .i64 2] 3)).same D1 _ kD1V rfl
              have kD2 := (KeepsOthers.alloc V3 (.cells #[.int .i64 2] 3)).same D2 _ kD2V rfl
              have kD3 := (KeepsOthers.alloc V3 (.cells #[.int .i64 2] 3)).same D3 _ kD3V rfl
              obtain ⟨P2, hP⟩ : ∃ P2, V3.alloc (.cells #[.int .i64 2] 3) = P2 := ⟨_, rfl⟩
              have hszV2 : V3.heap.size + 1 ≤ P2.heap.size := by rw [← hP, World.size_alloc]; exact Nat.le_refl _
              rw [hP] at b5P b6P hbP kD0 kD1 kD2 kD3 ⊢
              clear hP b5V b6V hbV d5V d6V f6V d7V d3V b7V kD0V kD1V kD2V kD3V
              have hszP : Wc.heap.size + 1 + 1 ≤ P2.heap.size := by omega
              have lD0 := (Array.getElem?_eq_some_iff.1 kD0).1
              have lD1 := (Array.getElem?_eq_some_iff.1 kD1).1
              have lD2 := (Array.getElem?_eq_some_iff.1 kD2).1
              have lD3 := (Array.getElem?_eq_some_iff.1 kD3).1
              rw [rounds_succ]
              have d3 := (show Boxed P2 w.heap.size 3 (.int .i64 stop) from (hbP.block _ b3c.lt).trans b3c).cell
              have c4 : Boxed P2 (w.heap.size + 1) 4 (.bool false) := (hbP.block _ b4c.lt).trans b4c
              have d5 := b5P.cell
              have d6 := b6P.cell
              have hbF : Below w.heap.size w P2 := hb2'.trans (hbP.mono hb2'.size)
              have HW := Lib.hid (wrongLaw s hs ao cap stop P2 (HT.out.below hbF (Nat.le_refl _)) (HC.out.below hbP (Nat.le_refl _)))
              rw [HN.out] at HW
              go_wp2_with (go_at_call 39; (with_reducible refine HW.out.mono ?_); rintro e w4 ⟨rfl, hb4⟩; have c4Y : Boxed w4 (w.heap.size + 1) 4 (.bool false) := (hb4.block _ c4.lt).trans c4; have e4Y := c4Y.cell; have f4Y := c4Y.frozen)
              have hb5 : Below w.heap.size w (w4.setCell ⟨w.heap.size + 1, 0, none⟩ (.bool true)) := (hbF.trans (hb4.mono hbF.size)).setCell (p := ⟨w.heap.size + 1, 0, none⟩) (Nat.le_succ _) _
              have c5 : Boxed (w4.setCell ⟨w.heap.size + 1, 0, none⟩ (.bool true)) (w.heap.size + 1) 4 (.bool true) := c4Y.set _
              have qD0 : (w4.setCell ⟨w.heap.size + 1, 0, none⟩ (.bool true)).heap[D0]? = some (.deferred (some [])) := (KeepsOthers.setCell w4 ⟨w.heap.size + 1, 0, none⟩ (.bool true)).same D0 _ ((hb4.block _ lD0).trans kD0) rfl
              have qD1 : (w4.setCell ⟨w.heap.size + 1, 0, none⟩ (.bool true)).heap[D1]? = some (.deferred (some [])) := (KeepsOthers.setCell w4 ⟨w.heap.size + 1, 0, none⟩ (.bool true)).same D1 _ ((hb4.block _ lD1).trans kD1) rfl
              have qD2 : (w4.setCell ⟨w.heap.size + 1, 0, none⟩ (.bool true)).heap[D2]? = some (.deferred (some [])) := (KeepsOthers.setCell w4 ⟨w.heap.size + 1, 0, none⟩ (.bool true)).same D2 _ ((hb4.block _ lD2).trans kD2) rfl
              have qD3 : (w4.setCell ⟨w.heap.size + 1, 0, none⟩ (.bool true)).heap[D3]? = some (.deferred (some [])) := (KeepsOthers.setCell w4 ⟨w.heap.size + 1, 0, none⟩ (.bool true)).same D3 _ ((hb4.block _ lD3).trans kD3) rfl
              obtain ⟨W5, hW5⟩ : ∃ W5, w4.setCell ⟨w.heap.size + 1, 0, none⟩ (.bool true) = W5 := ⟨_, rfl⟩
              rw [hW5] at qD0 qD1 qD2 qD3 hb5 c5 ⊢
              clear hW5
              have rD3 : W5.heap[D3]? = some (.deferred (some [])) := qD3
              refine ⟨by simp, .inl ⟨_, _, rfl, run_takeDeferred rD3, ?_⟩⟩
              have rD2 : (W5.putObj D3 (.deferred none)).heap[D2]? = some (.deferred (some [])) := (World.putObj_heap_other (by omega)).trans qD2
              refine ⟨by simp, .inl ⟨_, _, rfl, run_takeDeferred rD2, ?_⟩⟩
              have rD1 : ((W5.putObj D3 (.deferred none)).putObj D2 (.deferred none)).heap[D1]? = some (.deferred (some [])) := (World.putObj_heap_other (by omega)).trans ((World.putObj_heap_other (by omega)).trans qD1)
              refine ⟨by simp, .inl ⟨_, _, rfl, run_takeDeferred rD1, ?_⟩⟩
              have rD0 : (((W5.putObj D3 (.deferred none)).putObj D2 (.deferred none)).putObj D1 (.deferred none)).heap[D0]? = some (.deferred (some [])) := (World.putObj_heap_other (by omega)).trans ((World.putObj_heap_other (by omega)).trans ((World.putObj_heap_other (by omega)).trans qD0))
              refine ⟨by simp, .inl ⟨_, _, rfl, run_takeDeferred rD0, ?_⟩⟩
              have c6 : Boxed ((((W5.putObj D3 (.deferred none)).putObj D2 (.deferred none)).putObj D1 (.deferred none)).putObj D0 (.deferred none)) (w.heap.size + 1) 4 (.bool true) := (World.putObj_heap_other (by omega)).trans ((World.putObj_heap_other (by omega)).trans ((World.putObj_heap_other (by omega)).trans ((World.putObj_heap_other (by omega)).trans (c5))))
              have hc6 := c6.cell
              refine ⟨.bool true, ?_, rfl, ((((hb5).trans (belowK_b (w := w) (Nat.le_refl _) _ D3 _ _ (by omega) rD3 rfl rfl)).trans (belowK_b (w := w) (Nat.le_refl _) _ D2 _ _ (by omega) rD2 rfl rfl)).trans (belowK_b (w := w) (Nat.le_refl _) _ D1 _ _ (by omega) rD1 rfl rfl)).trans (belowK_b (w := w) (Nat.le_refl _) _ D0 _ _ (by omega) rD0 rfl rfl)⟩
              simp [results, Tryd.f11, go_sem, hc6]
            case stop3 =>
              rintro D3 c pre V3 hD3 ⟨k', hk', rfl⟩ hx kD3V
              rcases hx with ⟨rfl, hnp⟩ | ⟨rfl, hst, hpn, b7V, hgr⟩
              · exact absurd (ups_prefix _ (by rw [← HN.out]; exact hk')) hnp
              · refine wpIn_wide.2 ?_
                obtain ⟨cnt, hcnt⟩ : ∃ cnt, (ups (backF (bs s)) k').length = cnt := ⟨_, rfl⟩
                rw [hcnt] at b7V hst hpn
                clear hcnt
                have hq : ((cnt : Int) == stop) = true := beq_iff_eq.2 hst
                clear hst
                have b5V : Boxed V3 Wc.heap.size 41 (.slice ao n cap) := b5X.kept hgr (by simp; omega)
                have b6V : Boxed V3 V1.heap.size 3 (.int .i64 1) := b6X.kept hgr (by simp; omega)
                have hbV : Below Wc.heap.size Wc V3 := gr_below hbX hgr (by omega) (by omega)
                have hszV := hgr.size
                have h7V := b7V.lt
                have d5V := b5V.cell
                have d6V := b6V.cell
                have f6V := b6V.frozen
                have d7V := b7V.cell
                have d3V := (show Boxed V3 w.heap.size 3 (.int .i64 stop) from (hbV.block _ b3c.lt).trans b3c).cell
                have kD0V : V3.heap[D0]? = some (.deferred (some [])) := (hgr.block _ (Array.getElem?_eq_some_iff.1 kD0X).1 (by simp; omega)).trans kD0X
                have kD1V : V3.heap[D1]? = some (.deferred (some [])) := (hgr.block _ (Array.getElem?_eq_some_iff.1 kD1X).1 (by simp; omega)).trans kD1X
                have kD2V : V3.heap[D2]? = some (.deferred (some [])) := (hgr.block _ (Array.getElem?_eq_some_iff.1 kD2X).1 (by simp; omega)).trans kD2X
                clear b5X b6X hbX hbwX hgX b7X b8X hgr b5P b6P hbP kD0X kD0 kD1X kD1 kD2X kD2 b7P
                have hq1 : ((cnt : Int) != (n : Int)) = true ∨ ((cnt : Int) != (n : Int)) = false := by cases ((cnt : Int) != (n : Int)) <;> simp
                rcases hq1 with hq1 | hq1
                · skip
                  go_wp2_with fail
                  have b5P := b5V.alloc (.cells #[.int .i64 2] 3)
                  have b6P := Boxed.new V3 3 (.int .i64 2)
                  have hbP := al hbV (.cells #[.int .i64 2] 3)
                  have kD0 := (KeepsOthers.alloc V3 (.cells #[.int .i64 2] 3)).same D0 _ kD0V rfl
                  have kD1 := (KeepsOthers.alloc V3 (.cells #[.int .i64 2] 3)).same D1 _ kD1V rfl
                  have kD2 := (KeepsOthers.alloc V3 (.cells #[.int .i64 2] 3)).same D2 _ kD2V rfl
                  have kD3 := (KeepsOthers.alloc V3 (.cells #[.int .i64 2] 3)).same D3 _ kD3V rfl
                  obtain ⟨P2, hP⟩ : ∃ P2, V3.alloc (.cells #[.int .i64 2] 3) = P2 := ⟨_, rfl⟩
                  have hszV2 : V3.heap.size + 1 ≤ P2.heap.size := by rw [← hP, World.size_alloc]; exact Nat.le_refl _
                  rw [hP] at b5P b6P hbP kD0 kD1 kD2 kD3 ⊢
                  clear hP b5V b6V hbV d5V d6V f6V d7V d3V b7V kD0V kD1V kD2V kD3V
                  have hszP : Wc.heap.size + 1 + 1 ≤ P2.heap.size := by omega
                  have lD0 := (Array.getElem?_eq_some_iff.1 kD0).1
                  have lD1 := (Array.getElem?_eq_some_iff.1 kD1).1
                  have lD2 := (Array.getElem?_eq_some_iff.1 kD2).1
                  have lD3 := (Array.getElem?_eq_some_iff.1 kD3).1
                  rw [rounds_succ]
                  have d3 := (show Boxed P2 w.heap.size 3 (.int .i64 stop) from (hbP.block _ b3c.lt).trans b3c).cell
                  have c4 : Boxed P2 (w.heap.size + 1) 4 (.bool false) := (hbP.block _ b4c.lt).trans b4c
                  have d5 := b5P.cell
                  have d6 := b6P.cell
                  have hbF : Below w.heap.size w P2 := hb2'.trans (hbP.mono hb2'.size)
                  have HW := Lib.hid (wrongLaw s hs ao cap stop P2 (HT.out.below hbF (Nat.le_refl _)) (HC.out.below hbP (Nat.le_refl _)))
                  rw [HN.out] at HW
                  go_wp2_with (go_at_call 39; (with_reducible refine HW.out.mono ?_); rintro e w4 ⟨rfl, hb4⟩; have c4Y : Boxed w4 (w.heap.size + 1) 4 (.bool false) := (hb4.block _ c4.lt).trans c4; have e4Y := c4Y.cell; have f4Y := c4Y.frozen)
                  have hb5 : Below w.heap.size w (w4.setCell ⟨w.heap.size + 1, 0, none⟩ (.bool true)) := (hbF.trans (hb4.mono hbF.size)).setCell (p := ⟨w.heap.size + 1, 0, none⟩) (Nat.le_succ _) _
                  have c5 : Boxed (w4.setCell ⟨w.heap.size + 1, 0, none⟩ (.bool true)) (w.heap.size + 1) 4 (.bool true) := c4Y.set _
                  have qD0 : (w4.setCell ⟨w.heap.size + 1, 0, none⟩ (.bool true)).heap[D0]? = some (.deferred (some [])) := (KeepsOthers.setCell w4 ⟨w.heap.size + 1, 0, none⟩ (.bool true)).same D0 _ ((hb4.block _ lD0).trans kD0) rfl
                  have qD1 : (w4.setCell ⟨w.heap.size + 1, 0, none⟩ (.bool true)).heap[D1]? = some (.deferred (some [])) := (KeepsOthers.setCell w4 ⟨w.heap.size + 1, 0, none⟩ (.bool true)).same D1 _ ((hb4.block _ lD1).trans kD1) rfl
                  have qD2 : (w4.setCell ⟨w.heap.size + 1, 0, none⟩ (.bool true)).heap[D2]? = some (.deferred (some [])) := (KeepsOthers.setCell w4 ⟨w.heap.size + 1, 0, none⟩ (.bool true)).same D2 _ ((hb4.block _ lD2).trans kD2) rfl
                  have qD3 : (w4.setCell ⟨w.heap.size + 1, 0, none⟩ (.bool true)).heap[D3]? = some (.deferred (some [])) := (KeepsOthers.setCell w4 ⟨w.heap.size + 1, 0, none⟩ (.bool true)).same D3 _ ((hb4.block _ lD3).trans kD3) rfl
                  obtain ⟨W5, hW5⟩ : ∃ W5, w4.setCell ⟨w.heap.size + 1, 0, none⟩ (.bool true) = W5 := ⟨_, rfl⟩
                  rw [hW5] at qD0 qD1 qD2 qD3 hb5 c5 ⊢
                  clear hW5
                  have rD3 : W5.heap[D3]? = some (.deferred (some [])) := qD3
                  refine ⟨by simp, .inl ⟨_, _, rfl, run_takeDeferred rD3, ?_⟩⟩
                  have rD2 : (W5.putObj D3 (.deferred none)).heap[D2]? = some (.deferred (some [])) := (World.putObj_heap_other (by omega)).trans qD2
                  refine ⟨by simp, .inl ⟨_, _, rfl, run_takeDeferred rD2, ?_⟩⟩
                  have rD1 : ((W5.putObj D3 (.deferred none)).putObj D2 (.deferred none)).heap[D1]? = some (.deferred (some [])) := (World.putObj_heap_other (by omega)).trans ((World.putObj_heap_other (by omega)).trans qD1)
                  refine ⟨by simp, .inl ⟨_, _, rfl, run_takeDeferred rD1, ?_⟩⟩
                  have rD0 : (((W5.putObj D3 (.deferred none)).putObj D2 (.deferred none)).putObj D1 (.deferred none)).heap[D0]? = some (.deferred (some [])) := (World.putObj_heap_other (by omega)).trans ((World.putObj_heap_other (by omega)).trans ((World.putObj_heap_other (by omega)).trans qD0))
                  refine ⟨by simp, .inl ⟨_, _, rfl, run_takeDeferred rD0, ?_⟩⟩
                  have c6 : Boxed ((((W5.putObj D3 (.deferred none)).putObj D2 (.deferred none)).putObj D1 (.deferred none)).putObj D0 (.deferred none)) (w.heap.size + 1) 4 (.bool true) := (World.putObj_heap_other (by omega)).trans ((World.putObj_heap_other (by omega)).trans ((World.putObj_heap_other (by omega)).trans ((World.putObj_heap_other (by omega)).trans (c5))))
                  have hc6 := c6.cell
                  refine ⟨.bool true, ?_, rfl, ((((hb5).trans (belowK_b (w := w) (Nat.le_refl _) _ D3 _ _ (by omega) rD3 rfl rfl)).trans (belowK_b (w := w) (Nat.le_refl _) _ D2 _ _ (by omega) rD2 rfl rfl)).trans (belowK_b (w := w) (Nat.le_refl _) _ D1 _ _ (by omega) rD1 rfl rfl)).trans (belowK_b (w := w) (Nat.le_refl _) _ D0 _ _ (by omega) rD0 rfl rfl)⟩
                  simp [results, Tryd.f11, go_sem, hc6]
                · skip
                  go_wp2_with fail
                  have b5P := b5V.alloc (.cells #[.int .i64 2] 3)
                  have b6P := Boxed.new V3 3 (.int .i64 2)
                  have hbP := al hbV (.cells #[.int .i64 2] 3)
                  have kD0 := (KeepsOthers.alloc V3 (.cells #[.int .i64 2] 3)).same D0 _ kD0V rfl
                  have kD1 := (KeepsOthers.alloc V3 (.cells #[.int .i64 2] 3)).same D1 _ kD1V rfl
                  have kD2 := (KeepsOthers.alloc V3 (.cells #[.int .i64 2] 3)).same D2 _ kD2V rfl
                  have kD3 := (KeepsOthers.alloc V3 (.cells #[.int .i64 2] 3)).same D3 _ kD3V rfl
                  obtain ⟨P2, hP⟩ : ∃ P2, V3.alloc (.cells #[.int .i64 2] 3) = P2 := ⟨_, rfl⟩
                  have hszV2 : V3.heap.size + 1 ≤ P2.heap.size := by rw [← hP, World.size_alloc]; exact Nat.le_refl _
                  rw [hP] at b5P b6P hbP kD0 kD1 kD2 kD3 ⊢
                  clear hP b5V b6V hbV d5V d6V f6V d7V d3V b7V kD0V kD1V kD2V kD3V
                  have hszP : Wc.heap.size + 1 + 1 ≤ P2.heap.size := by omega
                  have lD0 := (Array.getElem?_eq_some_iff.1 kD0).1
                  have lD1 := (Array.getElem?_eq_some_iff.1 kD1).1
                  have lD2 := (Array.getElem?_eq_some_iff.1 kD2).1
                  have lD3 := (Array.getElem?_eq_some_iff.1 kD3).1
                  rw [rounds_succ]
                  have d3 := (show Boxed P2 w.heap.size 3 (.int .i64 stop) from (hbP.block _ b3c.lt).trans b3c).cell
                  have c4 : Boxed P2 (w.heap.size + 1) 4 (.bool false) := (hbP.block _ b4c.lt).trans b4c
                  have d5 := b5P.cell
                  have d6 := b6P.cell
                  have hbF : Below w.heap.size w P2 := hb2'.trans (hbP.mono hb2'.size)
                  have HW := Lib.hid (wrongLaw s hs ao cap stop P2 (HT.out.below hbF (Nat.le_refl _)) (HC.out.below hbP (Nat.le_refl _)))
                  rw [HN.out] at HW
                  go_wp2_with (go_at_call 39; (with_reducible refine HW.out.mono ?_); rintro e w4 ⟨rfl, hb4⟩; have c4Y : Boxed w4 (w.heap.size + 1) 4 (.bool false) := (hb4.block _ c4.lt).trans c4; have e4Y := c4Y.cell; have f4Y := c4Y.frozen)
                  have hb5 : Below w.heap.size w (w4.setCell ⟨w.heap.size + 1, 0, none⟩ (.bool true)) := (hbF.trans (hb4.mono hbF.size)).setCell (p := ⟨w.heap.size + 1, 0, none⟩) (Nat.le_succ _) _
                  have c5 : Boxed (w4.setCell ⟨w.heap.size + 1, 0, none⟩ (.bool true)) (w.heap.size + 1) 4 (.bool true) := c4Y.set _
                  have qD0 : (w4.setCell ⟨w.heap.size + 1, 0, none⟩ (.bool true)).heap[D0]? = some (.deferred (some [])) := (KeepsOthers.setCell w4 ⟨w.heap.size + 1, 0, none⟩ (.bool true)).same D0 _ ((hb4.block _ lD0).trans kD0) rfl
                  have qD1 : (w4.setCell ⟨w.heap.size + 1, 0, none⟩ (.bool true)).heap[D1]? = some (.deferred (some [])) := (KeepsOthers.setCell w4 ⟨w.heap.size + 1, 0, none⟩ (.bool true)).same D1 _ ((hb4.block _ lD1).trans kD1) rfl
                  have qD2 : (w4.setCell ⟨w.heap.size + 1, 0, none⟩ (.bool true)).heap[D2]? = some (.deferred (some [])) := (KeepsOthers.setCell w4 ⟨w.heap.size + 1, 0, none⟩ (.bool true)).same D2 _ ((hb4.block _ lD2).trans kD2) rfl
                  have qD3 : (w4.setCell ⟨w.heap.size + 1, 0, none⟩ (.bool true)).heap[D3]? = some (.deferred (some [])) := (KeepsOthers.setCell w4 ⟨w.heap.size + 1, 0, none⟩ (.bool true)).same D3 _ ((hb4.block _ lD3).trans kD3) rfl
                  obtain ⟨W5, hW5⟩ : ∃ W5, w4.setCell ⟨w.heap.size + 1, 0, none⟩ (.bool true) = W5 := ⟨_, rfl⟩
                  rw [hW5] at qD0 qD1 qD2 qD3 hb5 c5 ⊢
                  clear hW5
                  have rD3 : W5.heap[D3]? = some (.deferred (some [])) := qD3
                  refine ⟨by simp, .inl ⟨_, _, rfl, run_takeDeferred rD3, ?_⟩⟩
                  have rD2 : (W5.putObj D3 (.deferred none)).heap[D2]? = some (.deferred (some [])) := (World.putObj_heap_other (by omega)).trans qD2
                  refine ⟨by simp, .inl ⟨_, _, rfl, run_takeDeferred rD2, ?_⟩⟩
                  have rD1 : ((W5.putObj D3 (.deferred none)).putObj D2 (.deferred none)).heap[D1]? = some (.deferred (some [])) := (World.putObj_heap_other (by omega)).trans ((World.putObj_heap_other (by omega)).trans qD1)
                  refine ⟨by simp, .inl ⟨_, _, rfl, run_takeDeferred rD1, ?_⟩⟩
                  have rD0 : (((W5.putObj D3 (.deferred none)).putObj D2 (.deferred none)).putObj D1 (.deferred none)).heap[D0]? = some (.deferred (some [])) := (World.putObj_heap_other (by omega)).trans ((World.putObj_heap_other (by omega)).trans ((World.putObj_heap_other (by omega)).trans qD0))
                  refine ⟨by simp, .inl ⟨_, _, rfl, run_takeDeferred rD0, ?_⟩⟩
                  have c6 : Boxed ((((W5.putObj D3 (.deferred none)).putObj D2 (.deferred none)).putObj D1 (.deferred none)).putObj D0 (.deferred none)) (w.heap.size + 1) 4 (.bool true) := (World.putObj_heap_other (by omega)).trans ((World.putObj_heap_other (by omega)).trans ((World.putObj_heap_other (by omega)).trans ((World.putObj_heap_other (by omega)).trans (c5))))
                  have hc6 := c6.cell
                  refine ⟨.bool true, ?_, rfl, ((((hb5).trans (belowK_b (w := w) (Nat.le_refl _) _ D3 _ _ (by omega) rD3 rfl rfl)).trans (belowK_b (w := w) (Nat.le_refl _) _ D2 _ _ (by omega) rD2 rfl rfl)).trans (belowK_b (w := w) (Nat.le_refl _) _ D1 _ _ (by omega) rD1 rfl rfl)).trans (belowK_b (w := w) (Nat.le_refl _) _ D0 _ _ (by omega) rD0 rfl rfl)⟩
                  simp [results, Tryd.f11, go_sem, hc6]
          · skip
            have d5Q := d5V
            have d6Q := d6V
            have d7Q := d7V
            have d3Q := d3V
            have b5P := b5V
            have b6P := b6V
            have hbP := hbV
            have hszP : Wc.heap.size + 1 + 1 ≤ V2.heap.size := by omega
            clear b5V b6V hbV d5V d6V f6V d7V d3V
            have kD0 := kD0V
            have lD0 := (Array.getElem?_eq_some_iff.1 kD0V).1
            clear kD0V
            have kD1 := kD1V
            have lD1 := (Array.getElem?_eq_some_iff.1 kD1V).1
            clear kD1V
            have kD2 := kD2V
            have lD2 := (Array.getElem?_eq_some_iff.1 kD2V).1
            clear kD2V
            have b7P := b7V
            clear b7V
            have d7P := b7P.cell
            have f7P := b7P.frozen
            have b7X := (b7P.set (.int .i64 0)).alloc (.cells #[.string s] 9)
            have b8X := Boxed.new (V2.setCell ⟨P1.heap.size, 0, none⟩ (.int .i64 0)) 9 (.string s)
            have hszS : (V2.setCell ⟨P1.heap.size, 0, none⟩ (.int .i64 0)).heap.size = V2.heap.size := by simp
            rw [hszS] at b8X
            have hgX : V2.grownBy ((V2.setCell ⟨P1.heap.size, 0, none⟩ (.int .i64 0)).alloc (.cells #[.string s] 9)) (some P1.heap.size) := gr_trans (grownBy_setCell' _ _ _) (World.grownBy_alloc _ _ (some P1.heap.size))
            go_wp2_with ((go_at_call 38; (with_reducible refine (back_in s _).mono ?_); rintro e w1 ⟨rfl, rfl⟩))
            obtain ⟨X3, hX⟩ : ∃ X3, (V2.setCell ⟨P1.heap.size, 0, none⟩ (.int .i64 0)).alloc (.cells #[.string s] 9) = X3 := ⟨_, rfl⟩
            rw [hX] at b7X b8X hgX ⊢
            clear hX d7P f7P hszS d5Q d6Q d7Q d3Q
            have b5X : Boxed X3 Wc.heap.size 41 (.slice ao n cap) := b5P.kept hgX (by simp; omega)
            have b6X : Boxed X3 V1.heap.size 3 (.int .i64 1) := b6P.kept hgX (by simp; omega)
            have hbX : Below Wc.heap.size Wc X3 := gr_below hbP hgX (by omega) (by omega)
            have hbwX : Below w.heap.size w X3 := hb2'.trans (hbX.mono hb2'.size)
            have hszX := hgX.size
            have h7X := b7X.lt
            have kD0X : X3.heap[D0]? = some (.deferred (some [])) := (hgX.block _ (Array.getElem?_eq_some_iff.1 kD0).1 (by simp; omega)).trans kD0
            have kD1X : X3.heap[D1]? = some (.deferred (some [])) := (hgX.block _ (Array.getElem?_eq_some_iff.1 kD1).1 (by simp; omega)).trans kD1
            have kD2X : X3.heap[D2]? = some (.deferred (some [])) := (hgX.block _ (Array.getElem?_eq_some_iff.1 kD2).1 (by simp; omega)).trans kD2
            refine (wpIn_wide (n := 9)).1 ?_
            refine' wpIn_rangeFunc_ownG rfl (by decide) (gf := 57) (lb := #[.pointer (some ⟨V2.heap.size, 0, none⟩)]) rfl trivial (enters_of Tryd.func57 (by kernel_rfl) rfl)
              (back_stops (9 - 1) (by decide) V2.heap.size w HT.out s (by omega) X3 hbwX b8X.cell) kpB_t (kpB_b (by omega)) (Below.refl _ _) (fun _ => rfl)
              (fun (pre : List (Nat × Nat)) W => pre = ups (backF (bs s)) pre.length ∧ Boxed W P1.heap.size 3 (.int .i64 (pre.length : Nat)) ∧ X3.grownBy W (some P1.heap.size))
              (fun c (pre : List (Nat × Nat)) W => (c = .ret ∧ ¬ pre <+: ups (backF (bs s)) n) ∨ (c = .exit 4 ∧ (pre.length : Int) = stop ∧ pre.length ≤ n ∧ Boxed W P1.heap.size 3 (.int .i64 (pre.length : Nat)) ∧ X3.grownBy W (some P1.heap.size)))
              (OwnFrom.and (ownFrom_pure _ (fun (pre : List (Nat × Nat)) => pre = ups (backF (bs s)) pre.length)) (OwnFrom.and (Own.from (boxed_own _ _ (fun (pre : List (Nat × Nat)) => .int .i64 (pre.length : Nat))) _) (ownFrom_gr X3 P1.heap.size)))
              (fun c s' A B row hs hg hr => hs.imp id (fun h => ⟨h.1, h.2.1, h.2.2.1, boxed_own (β := List (Nat × Nat)) P1.heap.size 3 (fun pre => .int .i64 (pre.length : Nat)) s' A B row h.2.2.2.1 hg (fun r e => (hr r e).2), ownFrom_gr (β := List (Nat × Nat)) X3 P1.heap.size s' A B row h.2.2.2.2 hg hr⟩))
              ⟨rfl, b7X, gr_refl _ _⟩ _ ?assign3 ?body3 ?done3 ?stop3
            case assign3 =>
              intro l x W K hK
              dsimp only [encP]
              gi_wp2
              exact hK
            case body3 =>
              rintro l pre ⟨x1, x2⟩ W ⟨hpre, c7, hgr⟩ hge
              rw [HN.out] at hge
              have hbW := gr_below hbX hgr (by omega) (by omega)
              have c5 : Boxed W Wc.heap.size 41 (.slice ao n cap) := b5X.kept hgr (by simp; omega)
              have c6 : Boxed W V1.heap.size 3 (.int .i64 1) := b6X.kept hgr (by simp; omega)
              have d3 := (show Boxed W w.heap.size 3 (.int .i64 stop) from (hbW.block _ b3c.lt).trans b3c).cell
              have c4 : Boxed W (w.heap.size + 1) 4 (.bool false) := (hbW.block _ b4c.lt).trans b4c
              have d4 := c4.cell
              have f4 := c4.frozen
              have d5 := c5.cell
              have d6 := c6.cell
              have d7 := c7.cell
              have f7 := c7.frozen
              have hle : pre.length ≤ 1048576 := by omega
              obtain ⟨j, hj⟩ : ∃ j, n = pre.length + 1 + j := ⟨n - pre.length - 1, by omega⟩
              have hjj : countN (bs s) - 1 - pre.length = j := by rw [HN.out]; omega
              have hk : ((n : Int) - 1 - (pre.length : Int)) = (j : Int) := by omega
              have hk0 : (0 : Int) ≤ (j : Int) := by omega
              have hki : (j : Int) < (n : Int) := by omega
              have hjn : j < n := by omega
              clear hj
              obtain ⟨g, rfl, z0, z1, _, _⟩ := (HC.out.below hbW (Nat.le_refl _)) j (by rw [HN.out]; exact hjn)
              obtain ⟨y1, hy1⟩ : ∃ y, atN (bs s) j = y := ⟨_, rfl⟩
              obtain ⟨y2, hy2⟩ : ∃ y, ((tk (bs s))[j]?.getD (0, 0)).1 = y := ⟨_, rfl⟩
              rw [hy1] at z0
              rw [hy2] at z1
              have hF : backF (bs s) pre.length = (y1, y2) := by unfold backF allF; rw [hjj, hy1, hy2]
              have HPRE := Lib.hid hpre
              have HF := Lib.hid hF
              clear hy1 hy2 hF hpre hjj
              by_cases h1 : y1 = x1
              · subst h1
                by_cases h2 : y2 = x2
                · subst h2
                  have HP := Lib.hid (show pre ++ [(y1, y2)] = ups (backF (bs s)) (pre ++ [(y1, y2)]).length by rw [← HF.out]; exact ups_step HPRE.out)
                  by_cases hst : ((pre.length : Int) + 1) = stop
                  · have hd3 : (((pre.length : Int) + 1) == stop) = true := beq_iff_eq.2 hst
                    have HST := Lib.hid hst
                    clear hst
                    gi_wp2
                    refine ⟨(KeepsOthers.setCell _ _ _).from _, .inr ⟨rfl, ?_, ?_, ?_, gr_trans hgr (grownBy_setCell' _ _ _)⟩⟩
                    · rw [List.length_append, List.length_singleton, Int.natCast_add]; exact HST.out
                    · rw [List.length_append, List.length_singleton]; exact hge
                    · rw [List.length_append, List.length_singleton, Int.natCast_add]; exact c7.set _
                  · have hd3 : (((pre.length : Int) + 1) == stop) = false := beq_eq_false_iff_ne.2 hst
                    clear hst
                    gi_wp2
                    refine ⟨(KeepsOthers.setCell _ _ _).from _, ⟨(KeepsOthers.setCell _ _ _).walks, (Below.refl _ W).setCell (p := ⟨P1.heap.size, 0, none⟩) (show w.heap.size ≤ P1.heap.size by omega) _⟩, HP.out, ?_, gr_trans hgr (grownBy_setCell' _ _ _)⟩
                    rw [List.length_append, List.length_singleton, Int.natCast_add]
                    exact c7.set _
                · have hd2 : ((y2 : Int) != (x2 : Int)) = true := bne_iff_ne.2 (by omega)
                  have HM := Lib.hid (ups_mism (f := backF (bs s)) (pre := pre) (x := (y1, x2)) (by rw [HF.out]; intro e; injection e with e1 e2; exact h2 e2.symm) n)
                  clear h2
                  gi_wp2
                  exact ⟨(KeepsOthers.setCell _ _ _).from _, .inl ⟨rfl, HM.out⟩⟩
              · have hd1 : ((y1 : Int) != (x1 : Int)) = true := bne_iff_ne.2 (by omega)
                have HM := Lib.hid (ups_mism (f := backF (bs s)) (pre := pre) (x := (x1, x2)) (by rw [HF.out]; intro e; injection e with e1 e2; exact h1 e1.symm) n)
                clear h1
                gi_wp2
                exact ⟨(KeepsOthers.setCell _ _ _).from _, .inl ⟨rfl, HM.out⟩⟩
            case done3 =>
              rintro D3 ys V3 hD3 rfl ⟨-, b7V, hgr⟩ kD3V
              rw [ups_length, HN.out] at b7V
              have b5V : Boxed V3 Wc.heap.size 41 (.slice ao n cap) := b5X.kept hgr (by simp; omega)
              have b6V : Boxed V3 V1.heap.size 3 (.int .i64 1) := b6X.kept hgr (by simp; omega)
              have hbV : Below Wc.heap.size Wc V3 := gr_below hbX hgr (by omega) (by omega)
              have hszV := hgr.size
              have h7V := b7V.lt
              have d5V := b5V.cell
              have d6V := b6V.cell
              have f6V := b6V.frozen
              have d7V := b7V.cell
              have d3V := (show Boxed V3 w.heap.size 3 (.int .i64 stop) from (hbV.block _ b3c.lt).trans b3c).cell
              have kD0V : V3.heap[D0]? = some (.deferred (some [])) := (hgr.block _ (Array.getElem?_eq_some_iff.1 kD0X).1 (by simp; omega)).trans kD0X
              have kD1V : V3.heap[D1]? = some (.deferred (some [])) := (hgr.block _ (Array.getElem?_eq_some_iff.1 kD1X).1 (by simp; omega)).trans kD1X
              have kD2V : V3.heap[D2]? = some (.deferred (some [])) := (hgr.block _ (Array.getElem?_eq_some_iff.1 kD2X).1 (by simp; omega)).trans kD2X
              clear b5X b6X hbX hbwX hgX b7X b8X hgr b5P b6P hbP kD0X kD0 kD1X kD1 kD2X kD2 b7P
              go_wp2_with fail
              have b5P := b5V.alloc (.cells #[.int .i64 2] 3)
              have b6P := Boxed.new V3 3 (.int .i64 2)
              have hbP := al hbV (.cells #[.int .i64 2] 3)
              have kD0 := (KeepsOthers.alloc V3 (.cells #[.int .i64 2] 3)).same D0 _ kD0V rfl
              have kD1 := (KeepsOthers.alloc V3 (.cells #[.int .i64 2] 3)).same D1 _ kD1V rfl
              have kD2 := (KeepsOthers.alloc V3 (.cells #[.int .i64 2] 3)).same D2 _ kD2V rfl
              have kD3 := (KeepsOthers.alloc V3 (.cells #[.int .i64 2] 3)).same D3 _ kD3V rfl
              obtain ⟨P2, hP⟩ : ∃ P2, V3.alloc (.cells #[.int .i64 2] 3) = P2 := ⟨_, rfl⟩
              have hszV2 : V3.heap.size + 1 ≤ P2.heap.size := by rw [← hP, World.size_alloc]; exact Nat.le_refl _
              rw [hP] at b5P b6P hbP kD0 kD1 kD2 kD3 ⊢
              clear hP b5V b6V hbV d5V d6V f6V d7V d3V b7V kD0V kD1V kD2V kD3V
              have hszP : Wc.heap.size + 1 + 1 ≤ P2.heap.size := by omega
              have lD0 := (Array.getElem?_eq_some_iff.1 kD0).1
              have lD1 := (Array.getElem?_eq_some_iff.1 kD1).1
              have lD2 := (Array.getElem?_eq_some_iff.1 kD2).1
              have lD3 := (Array.getElem?_eq_some_iff.1 kD3).1
              rw [rounds_succ]
              have d3 := (show Boxed P2 w.heap.size 3 (.int .i64 stop) from (hbP.block _ b3c.lt).trans b3c).cell
              have c4 : Boxed P2 (w.heap.size + 1) 4 (.bool false) := (hbP.block _ b4c.lt).trans b4c
              have d5 := b5P.cell
              have d6 := b6P.cell
              have hbF : Below w.heap.size w P2 := hb2'.trans (hbP.mono hb2'.size)
              have HW := Lib.hid (wrongLaw s hs ao cap stop P2 (HT.out.below hbF (Nat.le_refl _)) (HC.out.below hbP (Nat.le_refl _)))
              rw [HN.out] at HW
              go_wp2_with (go_at_call 39; (with_reducible refine HW.out.mono ?_); rintro e w4 ⟨rfl, hb4⟩; have c4Y : Boxed w4 (w.heap.size + 1) 4 (.bool false) := (hb4.block _ c4.lt).trans c4; have e4Y := c4Y.cell; have f4Y := c4Y.frozen)
              have hb5 : Below w.heap.size w (w4.setCell ⟨w.heap.size + 1, 0, none⟩ (.bool true)) := (hbF.trans (hb4.mono hbF.size)).setCell (p := ⟨w.heap.size + 1, 0, none⟩) (Nat.le_succ _) _
              have c5 : Boxed (w4.setCell ⟨w.heap.size + 1, 0, none⟩ (.bool true)) (w.heap.size + 1) 4 (.bool true) := c4Y.set _
              have qD0 : (w4.setCell ⟨w.heap.size + 1, 0, none⟩ (.bool true)).heap[D0]? = some (.deferred (some [])) := (KeepsOthers.setCell w4 ⟨w.heap.size + 1, 0, none⟩ (.bool true)).same D0 _ ((hb4.block _ lD0).trans kD0) rfl
              have qD1 : (w4.setCell ⟨w.heap.size + 1, 0, none⟩ (.bool true)).heap[D1]? = some (.deferred (some [])) := (KeepsOthers.setCell w4 ⟨w.heap.size + 1, 0, none⟩ (.bool true)).same D1 _ ((hb4.block _ lD1).trans kD1) rfl
              have qD2 : (w4.setCell ⟨w.heap.size + 1, 0, none⟩ (.bool true)).heap[D2]? = some (.deferred (some [])) := (KeepsOthers.setCell w4 ⟨w.heap.size + 1, 0, none⟩ (.bool true)).same D2 _ ((hb4.block _ lD2).trans kD2) rfl
              have qD3 : (w4.setCell ⟨w.heap.size + 1, 0, none⟩ (.bool true)).heap[D3]? = some (.deferred (some [])) := (KeepsOthers.setCell w4 ⟨w.heap.size + 1, 0, none⟩ (.bool true)).same D3 _ ((hb4.block _ lD3).trans kD3) rfl
              obtain ⟨W5, hW5⟩ : ∃ W5, w4.setCell ⟨w.heap.size + 1, 0, none⟩ (.bool true) = W5 := ⟨_, rfl⟩
              rw [hW5] at qD0 qD1 qD2 qD3 hb5 c5 ⊢
              clear hW5
              have rD3 : W5.heap[D3]? = some (.deferred (some [])) := qD3
              refine ⟨by simp, .inl ⟨_, _, rfl, run_takeDeferred rD3, ?_⟩⟩
              have rD2 : (W5.putObj D3 (.deferred none)).heap[D2]? = some (.deferred (some [])) := (World.putObj_heap_other (by omega)).trans qD2
              refine ⟨by simp, .inl ⟨_, _, rfl, run_takeDeferred rD2, ?_⟩⟩
              have rD1 : ((W5.putObj D3 (.deferred none)).putObj D2 (.deferred none)).heap[D1]? = some (.deferred (some [])) := (World.putObj_heap_other (by omega)).trans ((World.putObj_heap_other (by omega)).trans qD1)
              refine ⟨by simp, .inl ⟨_, _, rfl, run_takeDeferred rD1, ?_⟩⟩
              have rD0 : (((W5.putObj D3 (.deferred none)).putObj D2 (.deferred none)).putObj D1 (.deferred none)).heap[D0]? = some (.deferred (some [])) := (World.putObj_heap_other (by omega)).trans ((World.putObj_heap_other (by omega)).trans ((World.putObj_heap_other (by omega)).trans qD0))
              refine ⟨by simp, .inl ⟨_, _, rfl, run_takeDeferred rD0, ?_⟩⟩
              have c6 : Boxed ((((W5.putObj D3 (.deferred none)).putObj D2 (.deferred none)).putObj D1 (.deferred none)).putObj D0 (.deferred none)) (w.heap.size + 1) 4 (.bool true) := (World.putObj_heap_other (by omega)).trans ((World.putObj_heap_other (by omega)).trans ((World.putObj_heap_other (by omega)).trans ((World.putObj_heap_other (by omega)).trans (c5))))
              have hc6 := c6.cell
              refine ⟨.bool true, ?_, rfl, ((((hb5).trans (belowK_b (w := w) (Nat.le_refl _) _ D3 _ _ (by omega) rD3 rfl rfl)).trans (belowK_b (w := w) (Nat.le_refl _) _ D2 _ _ (by omega) rD2 rfl rfl)).trans (belowK_b (w := w) (Nat.le_refl _) _ D1 _ _ (by omega) rD1 rfl rfl)).trans (belowK_b (w := w) (Nat.le_refl _) _ D0 _ _ (by omega) rD0 rfl rfl)⟩
              simp [results, Tryd.f11, go_sem, hc6]
            case stop3 =>
              rintro D3 c pre V3 hD3 ⟨k', hk', rfl⟩ hx kD3V
              rcases hx with ⟨rfl, hnp⟩ | ⟨rfl, hst, hpn, b7V, hgr⟩
              · exact absurd (ups_prefix _ (by rw [← HN.out]; exact hk')) hnp
              · refine wpIn_wide.2 ?_
                obtain ⟨cnt, hcnt⟩ : ∃ cnt, (ups (backF (bs s)) k').length = cnt := ⟨_, rfl⟩
                rw [hcnt] at b7V hst hpn
                clear hcnt
                have hq : ((cnt : Int) == stop) = true := beq_iff_eq.2 hst
                clear hst
                have b5V : Boxed V3 Wc.heap.size 41 (.slice ao n cap) := b5X.kept hgr (by simp; omega)
                have b6V : Boxed V3 V1.heap.size 3 (.int .i64 1) := b6X.kept hgr (by simp; omega)
                have hbV : Below Wc.heap.size Wc V3 := gr_below hbX hgr (by omega) (by omega)
                have hszV := hgr.size
                have h7V := b7V.lt
                have d5V := b5V.cell
                have d6V := b6V.cell
                have f6V := b6V.frozen
                have d7V := b7V.cell
                have d3V := (show Boxed V3 w.heap.size 3 (.int .i64 stop) from (hbV.block _ b3c.lt).trans b3c).cell
                have kD0V : V3.heap[D0]? = some (.deferred (some [])) := (hgr.block _ (Array.getElem?_eq_some_iff.1 kD0X).1 (by simp; omega)).trans kD0X
                have kD1V : V3.heap[D1]? = some (.deferred (some [])) := (hgr.block _ (Array.getElem?_eq_some_iff.1 kD1X).1 (by simp; omega)).trans kD1X
                have kD2V : V3.heap[D2]? = some (.deferred (some [])) := (hgr.block _ (Array.getElem?_eq_some_iff.1 kD2X).1 (by simp; omega)).trans kD2X
                clear b5X b6X hbX hbwX hgX b7X b8X hgr b5P b6P hbP kD0X kD0 kD1X kD1 kD2X kD2 b7P
                have hq1 : ((cnt : Int) != (n : Int)) = true ∨ ((cnt : Int) != (n : Int)) = false := by cases ((cnt : Int) != (n : Int)) <;> simp
                rcases hq1 with hq1 | hq1
                · skip
                  go_wp2_with fail
                  have b5P := b5V.alloc (.cells #[.int .i64 2] 3)
                  have b6P := Boxed.new V3 3 (.int .i64 2)
                  have hbP := al hbV (.cells #[.int .i64 2] 3)
                  have kD0 := (KeepsOthers.alloc V3 (.cells #[.int .i64 2] 3)).same D0 _ kD0V rfl
                  have kD1 := (KeepsOthers.alloc V3 (.cells #[.int .i64 2] 3)).same D1 _ kD1V rfl
                  have kD2 := (KeepsOthers.alloc V3 (.cells #[.int .i64 2] 3)).same D2 _ kD2V rfl
                  have kD3 := (KeepsOthers.alloc V3 (.cells #[.int .i64 2] 3)).same D3 _ kD3V rfl
                  obtain ⟨P2, hP⟩ : ∃ P2, V3.alloc (.cells #[.int .i64 2] 3) = P2 := ⟨_, rfl⟩
                  have hszV2 : V3.heap.size + 1 ≤ P2.heap.size := by rw [← hP, World.size_alloc]; exact Nat.le_refl _
                  rw [hP] at b5P b6P hbP kD0 kD1 kD2 kD3 ⊢
                  clear hP b5V b6V hbV d5V d6V f6V d7V d3V b7V kD0V kD1V kD2V kD3V
                  have hszP : Wc.heap.size + 1 + 1 ≤ P2.heap.size := by omega
                  have lD0 := (Array.getElem?_eq_some_iff.1 kD0).1
                  have lD1 := (Array.getElem?_eq_some_iff.1 kD1).1
                  have lD2 := (Array.getElem?_eq_some_iff.1 kD2).1
                  have lD3 := (Array.getElem?_eq_some_iff.1 kD3).1
                  rw [rounds_succ]
                  have d3 := (show Boxed P2 w.heap.size 3 (.int .i64 stop) from (hbP.block _ b3c.lt).trans b3c).cell
                  have c4 : Boxed P2 (w.heap.size + 1) 4 (.bool false) := (hbP.block _ b4c.lt).trans b4c
                  have d5 := b5P.cell
                  have d6 := b6P.cell
                  have hbF : Below w.heap.size w P2 := hb2'.trans (hbP.mono hb2'.size)
                  have HW := Lib.hid (wrongLaw s hs ao cap stop P2 (HT.out.below hbF (Nat.le_refl _)) (HC.out.below hbP (Nat.le_refl _)))
                  rw [HN.out] at HW
                  go_wp2_with (go_at_call 39; (with_reducible refine HW.out.mono ?_); rintro e w4 ⟨rfl, hb4⟩; have c4Y : Boxed w4 (w.heap.size + 1) 4 (.bool false) := (hb4.block _ c4.lt).trans c4; have e4Y := c4Y.cell; have f4Y := c4Y.frozen)
                  have hb5 : Below w.heap.size w (w4.setCell ⟨w.heap.size + 1, 0, none⟩ (.bool true)) := (hbF.trans (hb4.mono hbF.size)).setCell (p := ⟨w.heap.size + 1, 0, none⟩) (Nat.le_succ _) _
                  have c5 : Boxed (w4.setCell ⟨w.heap.size + 1, 0, none⟩ (.bool true)) (w.heap.size + 1) 4 (.bool true) := c4Y.set _
                  have qD0 : (w4.setCell ⟨w.heap.size + 1, 0, none⟩ (.bool true)).heap[D0]? = some (.deferred (some [])) := (KeepsOthers.setCell w4 ⟨w.heap.size + 1, 0, none⟩ (.bool true)).same D0 _ ((hb4.block _ lD0).trans kD0) rfl
                  have qD1 : (w4.setCell ⟨w.heap.size + 1, 0, none⟩ (.bool true)).heap[D1]? = some (.deferred (some [])) := (KeepsOthers.setCell w4 ⟨w.heap.size + 1, 0, none⟩ (.bool true)).same D1 _ ((hb4.block _ lD1).trans kD1) rfl
                  have qD2 : (w4.setCell ⟨w.heap.size + 1, 0, none⟩ (.bool true)).heap[D2]? = some (.deferred (some [])) := (KeepsOthers.setCell w4 ⟨w.heap.size + 1, 0, none⟩ (.bool true)).same D2 _ ((hb4.block _ lD2).trans kD2) rfl
                  have qD3 : (w4.setCell ⟨w.heap.size + 1, 0, none⟩ (.bool true)).heap[D3]? = some (.deferred (some [])) := (KeepsOthers.setCell w4 ⟨w.heap.size + 1, 0, none⟩ (.bool true)).same D3 _ ((hb4.block _ lD3).trans kD3) rfl
                  obtain ⟨W5, hW5⟩ : ∃ W5, w4.setCell ⟨w.heap.size + 1, 0, none⟩ (.bool true) = W5 := ⟨_, rfl⟩
                  rw [hW5] at qD0 qD1 qD2 qD3 hb5 c5 ⊢
                  clear hW5
                  have rD3 : W5.heap[D3]? = some (.deferred (some [])) := qD3
                  refine ⟨by simp, .inl ⟨_, _, rfl, run_takeDeferred rD3, ?_⟩⟩
                  have rD2 : (W5.putObj D3 (.deferred none)).heap[D2]? = some (.deferred (some [])) := (World.putObj_heap_other (by omega)).trans qD2
                  refine ⟨by simp, .inl ⟨_, _, rfl, run_takeDeferred rD2, ?_⟩⟩
                  have rD1 : ((W5.putObj D3 (.deferred none)).putObj D2 (.deferred none)).heap[D1]? = some (.deferred (some [])) := (World.putObj_heap_other (by omega)).trans ((World.putObj_heap_other (by omega)).trans qD1)
                  refine ⟨by simp, .inl ⟨_, _, rfl, run_takeDeferred rD1, ?_⟩⟩
                  have rD0 : (((W5.putObj D3 (.deferred none)).putObj D2 (.deferred none)).putObj D1 (.deferred none)).heap[D0]? = some (.deferred (some [])) := (World.putObj_heap_other (by omega)).trans ((World.putObj_heap_other (by omega)).trans ((World.putObj_heap_other (by omega)).trans qD0))
                  refine ⟨by simp, .inl ⟨_, _, rfl, run_takeDeferred rD0, ?_⟩⟩
                  have c6 : Boxed ((((W5.putObj D3 (.deferred none)).putObj D2 (.deferred none)).putObj D1 (.deferred none)).putObj D0 (.deferred none)) (w.heap.size + 1) 4 (.bool true) := (World.putObj_heap_other (by omega)).trans ((World.putObj_heap_other (by omega)).trans ((World.putObj_heap_other (by omega)).trans ((World.putObj_heap_other (by omega)).trans (c5))))
                  have hc6 := c6.cell
                  refine ⟨.bool true, ?_, rfl, ((((hb5).trans (belowK_b (w := w) (Nat.le_refl _) _ D3 _ _ (by omega) rD3 rfl rfl)).trans (belowK_b (w := w) (Nat.le_refl _) _ D2 _ _ (by omega) rD2 rfl rfl)).trans (belowK_b (w := w) (Nat.le_refl _) _ D1 _ _ (by omega) rD1 rfl rfl)).trans (belowK_b (w := w) (Nat.le_refl _) _ D0 _ _ (by omega) rD0 rfl rfl)⟩
                  simp [results, Tryd.f11, go_sem, hc6]
                · skip
                  go_wp2_with fail
                  have b5P := b5V.alloc (.cells #[.int .i64 2] 3)
                  have b6P := Boxed.new V3 3 (.int .i64 2)
                  have hbP := al hbV (.cells #[.int .i64 2] 3)
                  have kD0 := (KeepsOthers.alloc V3 (.cells #[.int .i64 2] 3)).same D0 _ kD0V rfl
                  have kD1 := (KeepsOthers.alloc V3 (.cells #[.int .i64 2] 3)).same D1 _ kD1V rfl
                  have kD2 := (KeepsOthers.alloc V3 (.cells #[.int .i64 2] 3)).same D2 _ kD2V rfl
                  have kD3 := (KeepsOthers.alloc V3 (.cells #[.int .i64 2] 3)).same D3 _ kD3V rfl
                  obtain ⟨P2, hP⟩ : ∃ P2, V3.alloc (.cells #[.int .i64 2] 3) = P2 := ⟨_, rfl⟩
                  have hszV2 : V3.heap.size + 1 ≤ P2.heap.size := by rw [← hP, World.size_alloc]; exact Nat.le_refl _
                  rw [hP] at b5P b6P hbP kD0 kD1 kD2 kD3 ⊢
                  clear hP b5V b6V hbV d5V d6V f6V d7V d3V b7V kD0V kD1V kD2V kD3V
                  have hszP : Wc.heap.size + 1 + 1 ≤ P2.heap.size := by omega
                  have lD0 := (Array.getElem?_eq_some_iff.1 kD0).1
                  have lD1 := (Array.getElem?_eq_some_iff.1 kD1).1
                  have lD2 := (Array.getElem?_eq_some_iff.1 kD2).1
                  have lD3 := (Array.getElem?_eq_some_iff.1 kD3).1
                  rw [rounds_succ]
                  have d3 := (show Boxed P2 w.heap.size 3 (.int .i64 stop) from (hbP.block _ b3c.lt).trans b3c).cell
                  have c4 : Boxed P2 (w.heap.size + 1) 4 (.bool false) := (hbP.block _ b4c.lt).trans b4c
                  have d5 := b5P.cell
                  have d6 := b6P.cell
                  have hbF : Below w.heap.size w P2 := hb2'.trans (hbP.mono hb2'.size)
                  have HW := Lib.hid (wrongLaw s hs ao cap stop P2 (HT.out.below hbF (Nat.le_refl _)) (HC.out.below hbP (Nat.le_refl _)))
                  rw [HN.out] at HW
                  go_wp2_with (go_at_call 39; (with_reducible refine HW.out.mono ?_); rintro e w4 ⟨rfl, hb4⟩; have c4Y : Boxed w4 (w.heap.size + 1) 4 (.bool false) := (hb4.block _ c4.lt).trans c4; have e4Y := c4Y.cell; have f4Y := c4Y.frozen)
                  have hb5 : Below w.heap.size w (w4.setCell ⟨w.heap.size + 1, 0, none⟩ (.bool true)) := (hbF.trans (hb4.mono hbF.size)).setCell (p := ⟨w.heap.size + 1, 0, none⟩) (Nat.le_succ _) _
                  have c5 : Boxed (w4.setCell ⟨w.heap.size + 1, 0, none⟩ (.bool true)) (w.heap.size + 1) 4 (.bool true) := c4Y.set _
                  have qD0 : (w4.setCell ⟨w.heap.size + 1, 0, none⟩ (.bool true)).heap[D0]? = some (.deferred (some [])) := (KeepsOthers.setCell w4 ⟨w.heap.size + 1, 0, none⟩ (.bool true)).same D0 _ ((hb4.block _ lD0).trans kD0) rfl
                  have qD1 : (w4.setCell ⟨w.heap.size + 1, 0, none⟩ (.bool true)).heap[D1]? = some (.deferred (some [])) := (KeepsOthers.setCell w4 ⟨w.heap.size + 1, 0, none⟩ (.bool true)).same D1 _ ((hb4.block _ lD1).trans kD1) rfl
                  have qD2 : (w4.setCell ⟨w.heap.size + 1, 0, none⟩ (.bool true)).heap[D2]? = some (.deferred (some [])) := (KeepsOthers.setCell w4 ⟨w.heap.size + 1, 0, none⟩ (.bool true)).same D2 _ ((hb4.block _ lD2).trans kD2) rfl
                  have qD3 : (w4.setCell ⟨w.heap.size + 1, 0, none⟩ (.bool true)).heap[D3]? = some (.deferred (some [])) := (KeepsOthers.setCell w4 ⟨w.heap.size + 1, 0, none⟩ (.bool true)).same D3 _ ((hb4.block _ lD3).trans kD3) rfl
                  obtain ⟨W5, hW5⟩ : ∃ W5, w4.setCell ⟨w.heap.size + 1, 0, none⟩ (.bool true) = W5 := ⟨_, rfl⟩
                  rw [hW5] at qD0 qD1 qD2 qD3 hb5 c5 ⊢
                  clear hW5
                  have rD3 : W5.heap[D3]? = some (.deferred (some [])) := qD3
                  refine ⟨by simp, .inl ⟨_, _, rfl, run_takeDeferred rD3, ?_⟩⟩
                  have rD2 : (W5.putObj D3 (.deferred none)).heap[D2]? = some (.deferred (some [])) := (World.putObj_heap_other (by omega)).trans qD2
                  refine ⟨by simp, .inl ⟨_, _, rfl, run_takeDeferred rD2, ?_⟩⟩
                  have rD1 : ((W5.putObj D3 (.deferred none)).putObj D2 (.deferred none)).heap[D1]? = some (.deferred (some [])) := (World.putObj_heap_other (by omega)).trans ((World.putObj_heap_other (by omega)).trans qD1)
                  refine ⟨by simp, .inl ⟨_, _, rfl, run_takeDeferred rD1, ?_⟩⟩
                  have rD0 : (((W5.putObj D3 (.deferred none)).putObj D2 (.deferred none)).putObj D1 (.deferred none)).heap[D0]? = some (.deferred (some [])) := (World.putObj_heap_other (by omega)).trans ((World.putObj_heap_other (by omega)).trans ((World.putObj_heap_other (by omega)).trans qD0))
                  refine ⟨by simp, .inl ⟨_, _, rfl, run_takeDeferred rD0, ?_⟩⟩
                  have c6 : Boxed ((((W5.putObj D3 (.deferred none)).putObj D2 (.deferred none)).putObj D1 (.deferred none)).putObj D0 (.deferred none)) (w.heap.size + 1) 4 (.bool true) := (World.putObj_heap_other (by omega)).trans ((World.putObj_heap_other (by omega)).trans ((World.putObj_heap_other (by omega)).trans ((World.putObj_heap_other (by omega)).trans (c5))))
                  have hc6 := c6.cell
                  refine ⟨.bool true, ?_, rfl, ((((hb5).trans (belowK_b (w := w) (Nat.le_refl _) _ D3 _ _ (by omega) rD3 rfl rfl)).trans (belowK_b (w := w) (Nat.le_refl _) _ D2 _ _ (by omega) rD2 rfl rfl)).trans (belowK_b (w := w) (Nat.le_refl _) _ D1 _ _ (by omega) rD1 rfl rfl)).trans (belowK_b (w := w) (Nat.le_refl _) _ D0 _ _ (by omega) rD0 rfl rfl)⟩
                  simp [results, Tryd.f11, go_sem, hc6]
    case stop1 =>
      rintro D c pre W hD ⟨k', hk', rfl⟩ ⟨rfl, hnp⟩ hK
      exact absurd (ups_prefix _ (by rw [← HN.out]; exact hk')) hnp
  case stop0 =>
    rintro D c pre W hD ⟨k', hk', rfl⟩ ⟨rfl, hnp⟩ hK
    exact absurd (ups_prefix _ (by rw [← HN.out]; exact hk')) hnp
end Go.Proofs.YtnfjohlbpbonhaaDoor

