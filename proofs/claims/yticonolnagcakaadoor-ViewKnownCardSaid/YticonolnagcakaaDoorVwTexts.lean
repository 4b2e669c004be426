/-
  The walk of the statement ViewTexts.
-/
import Derived.Test.YticonolnagcakaaDoorVwRows
import Derived.Test.YticonolnagcakaaDoorVwC
import Derived.Deep.AppendLies
import Derived.Deep.RegionHeldLaw
import Derived.Laws.StructEq
import Derived.Test.YticonolnagcakaaDoorVwA
import Derived.RangeFuncNested
import Derived.Test.YticonolnagcakaaDoorVwB
import Derived.Deep.DeepCutAuto
namespace Go.Proofs.YticonolnagcakaaDoor
open Go.RowKit

/-- the text of a line, without its end -/
def lineS (s : ByteArray) (k : Nat) : ByteArray := s.extract (lnX (bs s) k).1 (lnX (bs s) k).2.1
/-- what is shown of a line -/
def shL (W T : Int) (s : ByteArray) (k : Nat) : List Bs := (shownR W T (bs (lineS s k))).1
/-- what has been told behind so many lines -/
def toldL (W T : Int) (s : ByteArray) : Nat → List (Nat × Bs)
  | 0 => []
  | k + 1 => toldL W T s k ++ (shL W T s k).map fun x => (k, x)
def toldC (p : Nat × Bs) : List Value := [.int .i64 (p.1 : Nat), .string ⟨p.2.toArray⟩]
def toldV (L : List (Nat × Bs)) : List Value := L.flatMap toldC
theorem toldV_snoc (L : List (Nat × Bs)) (p : Nat × Bs) : toldV (L ++ [p]) = toldV L ++ toldC p := by simp [toldV]
theorem toldV_len (L : List (Nat × Bs)) : (toldV L).length = L.length * 2 := by
  unfold toldV
  induction L with
  | nil => rfl
  | cons a L ih => rw [List.flatMap_cons, List.length_append, ih, List.length_cons, show (toldC a).length = 2 from rfl]; omega
/-- each row told takes a character or an end of line: they are few -/
theorem shL_le (W T : Int) (s : ByteArray) (k : Nat) : (shL W T s k).length ≤ (lineS s k).size + 1 := by
  unfold shL shownR
  split
  · exact Nat.zero_le _
  · have h1 := texts_len W.toNat T.toNat (bs (lineS s k)) (countN (bs (lineS s k)))
    have h2 := st_row W.toNat T.toNat (tk (bs (lineS s k))) (countN (bs (lineS s k)))
    have h3 := countN_le (bs (lineS s k))
    rw [← size_bs] at h3
    simp only [List.length_append, List.length_singleton]
    omega
theorem lineS_le (s : ByteArray) (k : Nat) : (lineS s k).size ≤ s.size := by
  unfold lineS
  rw [ByteArray.size_extract]
  omega
theorem told_le (W T : Int) (s : ByteArray) : ∀ k, (toldL W T s k).length ≤ k * (s.size + 1)
  | 0 => Nat.zero_le _
  | k + 1 => by
    have ih := told_le W T s k
    have h1 := shL_le W T s k
    have h2 := lineS_le s k
    rw [show toldL W T s (k + 1) = toldL W T s k ++ (shL W T s k).map (fun x => (k, x)) from rfl, List.length_append, List.length_map, Nat.succ_mul]
    omega
theorem told_step (W T : Int) (s : ByteArray) (k q : Nat) (x : Bs) (hq : q < (shL W T s k).length) (hx : (shL W T s k)[q]? = some x) :
    toldV (toldL W T s k ++ ((shL W T s k).take q).map (fun x => (k, x))) ++ toldC (k, x) = toldV (toldL W T s k ++ ((shL W T s k).take (q + 1)).map (fun x => (k, x))) := by
  rw [← toldV_snoc, List.append_assoc]
  congr 2
  rw [List.take_succ_eq_append_getElem hq, List.map_append]
  rw [List.getElem?_eq_getElem hq] at hx
  injection hx with hx
  rw [hx]
  rfl
theorem told_one (a : Nat) (x : ByteArray) : ∀ u ∈ ([.int .i64 (a : Nat), .string x] : List Value), u.oneCell' = true := by
  intro u hu
  simp at hu
  rcases hu with rfl | rfl <;> rfl
theorem two_keep {W0 W W' : World} {g1 i1 g2 i2 : Nat} {v1 v2 : Value} (H : W.cell? ⟨g1, i1, none⟩ = some v1 ∧ W.cell? ⟨g2, i2, none⟩ = some v2 ∧ Below W0.heap.size W0 W) (hb : Below W.heap.size W W') :
    W'.cell? ⟨g1, i1, none⟩ = some v1 ∧ W'.cell? ⟨g2, i2, none⟩ = some v2 ∧ Below W0.heap.size W0 W' :=
  ⟨cellKeep H.1 hb, cellKeep H.2.1 hb, nx H.2.2 hb⟩
theorem info_told : (Tryd.prog.info? 57).map (fun i => (i.zero, i.size, i.bytes)) = some (some (.agg #[.int .i64 0, .string ⟨#[]⟩]), 2, 24) := by kernel_rfl

set_option maxRecDepth 100000 in
set_option maxHeartbeats 4000000 in
theorem reftext_any (W T : Int) (s : ByteArray) (hs : s.size ≤ 1048576) (w : World) :
    Calls Tryd.prog 24 #[.string s, .int .i64 W, .int .i64 T] w fun e w' => ∃ v, e = .returned v ∧ w'.ownsRow w.heap.size 57 2 v (toldL W T s (lnN (bs s))).length (toldV (toldL W T s (lnN (bs s)))) ∧ Below w.heap.size w w' := by
  obtain ⟨i0, hi, hz0, hz1, hz2⟩ := info_parts info_told
  have HR := Lib.hid (fun w => refall_at s hs w)
  have HSH := Lib.hid (fun k w => refshown_any W T (lineS s k) (by have := lineS_le s k; omega) w)
  have hN := lnN_le (bs s)
  rw [← size_bs] at hN
  obtain ⟨n, hn⟩ : ∃ n, lnN (bs s) = n := ⟨_, rfl⟩
  rw [hn] at HR hN ⊢
  have HNN := Lib.hid hn
  clear hn
  go_enter Tryd.func24, Tryd.ntmps24
  go_wp2_with (first | (go_at_call 38; (with_reducible refine (HR.out _).mono ?_); rintro e w1 ⟨ao, cap, rfl, hla, hb1⟩))
  have HLA := Lib.hid hla
  have hsz1 := hb1.size
  clear hla
  go_loopw [8, 9] (fun v i wr => ∃ k : Nat, i = .int .i64 (k : Nat) ∧ k ≤ n ∧ wr.ownsRow w1.heap.size 57 2 v (toldL W T s k).length (toldV (toldL W T s k)) ∧ Below w1.heap.size w1 wr) (fun _ i _ => n - (intOf i).toNat)
  case atStart => exact ⟨0, rfl, Nat.zero_le _, World.ownsRow_nil _ _ _ _, Below.refl _ _⟩
  case round =>
    obtain ⟨k, rfl, hk, hown, hb⟩ := hrel
    by_cases hlt : k < n
    · have hik : (k : Int) < (n : Int) := by omega
      have hk' : k < lnN (bs s) := by rw [HNN.out]; exact hlt
      obtain ⟨g, rfl, d0, d1, -⟩ := HLA.out k hk'
      obtain ⟨g1, g2, -, -⟩ := ln_get (bs s) k hk'
      have hex : s.extract (lnA (bs s) k) (lnB (bs s) k) = lineS s k := rfl
      rw [← size_bs] at g2
      have htl := told_le W T s k
      have hkm : k * (s.size + 1) ≤ 1048577 * 1048577 := Nat.mul_le_mul (by omega) (by omega)
      have HS := Lib.hid (HSH.out k)
      have hsl := shL_le W T s k
      have hls := lineS_le s k
      have HST := Lib.hid (fun q x hq hx => told_step W T s k q x hq hx)
      have HTS := Lib.hid (show toldL W T s (k + 1) = toldL W T s k ++ (shL W T s k).map (fun x => (k, x)) from rfl)
      unfold shL at hsl HST HTS
      obtain ⟨⟨M, em⟩, hM⟩ : ∃ x, shownR W T (bs (lineS s k)) = x := ⟨_, rfl⟩
      rw [hM] at HS hsl HST HTS
      simp only at HS hsl HST HTS
      obtain ⟨st, hst⟩ : ∃ x, lineS s k = x := ⟨_, rfl⟩
      rw [hst] at hex HS hsl hls
      obtain ⟨A, hA⟩ : ∃ A, lnA (bs s) k = A := ⟨_, rfl⟩
      obtain ⟨B, hB⟩ : ∃ A, lnB (bs s) k = A := ⟨_, rfl⟩
      rw [hA] at g1 hex d0
      rw [hB] at g1 g2 hex d1
      obtain ⟨L, hL⟩ : ∃ x, toldL W T s k = x := ⟨_, rfl⟩
      rw [hL] at htl hown HST HTS
      obtain ⟨m, hm⟩ : ∃ x, M.length = x := ⟨_, rfl⟩
      have HM := Lib.hid hm
      rw [hm] at HS hsl HST
      have hAB : (A : Int) ≤ (B : Int) := by omega
      have hBs : (B : Int) ≤ (s.size : Int) := by omega
      have hm9 : m ≤ 1048577 := by omega
      clear hA hB hk' hM hst hL hm hsl hls
      have hS : wr.cell? ⟨g, k * 3, none⟩ = some (.int .i64 (A : Nat)) ∧ wr.cell? ⟨g, k * 3 + 1, none⟩ = some (.int .i64 (B : Nat)) ∧ Below w1.heap.size w1 wr := ⟨cellKeep d0 hb, cellKeep d1 hb, hb⟩
      go_wp2_with fail
      go_region_held_law (fun w' => w'.cell? ⟨g, k * 3, none⟩ = some (.int .i64 (A : Nat)) ∧ w'.cell? ⟨g, k * 3 + 1, none⟩ = some (.int .i64 (B : Nat)) ∧ Below w1.heap.size w1 w') (first | (with_reducible assumption) | (with_reducible exact two_keep hS (Below.refl _ _).drew) | (with_reducible exact two_keep (by assumption) (by assumption)))
        (first | (go_at_call 13; (with_reducible refine (HS.out _).mono ?_); rintro e w3 ⟨vs, rfl, ho3, hb3⟩; obtain ⟨as1, cs1, rfl⟩ := own_slice ho3))
      have hown3 : w3.ownsRow w1.heap.size 57 2 u8 L.length (toldV L) := owns_below (show wr.drew.ownsRow w1.heap.size 57 2 u8 L.length (toldV L) from hown) hb3 (Nat.le_refl _)
      have hb3w : Below w1.heap.size w1 w3 := nx hb.drew hb3
      obtain ⟨r1, hr1⟩ : ∃ r, u8.ownBlock = r := ⟨_, rfl⟩
      have hq1 := hown.lt
      have hq2 := ho3.lt
      have hwr3 : wr.heap.size ≤ w3.heap.size := hb3.size
      rw [hr1] at hq1
      have HR1 := Lib.hid hr1
      have HQ := Lib.hid hq1
      have HO3 := Lib.hid ho3
      have HNE := Lib.hid (show (Value.slice as1 m cs1).ownBlock = none ∨ (Value.slice as1 m cs1).ownBlock ≠ r1 from by
        rcases e : (Value.slice as1 m cs1).ownBlock with _ | j
        · exact .inl rfl
        · refine .inr (fun e' => ?_)
          have a1 := (hq1 j e'.symm).2
          have a2 : wr.heap.size ≤ j := (hq2 j e).1
          omega)
      have hsz3 := hb3w.size
      clear hq1 hq2 hr1 ho3 hb3 hown hb d0 d1 hS
      go_wp2_with fail
      go_loopw [8, 12] (fun v i wq => ∃ q : Nat, i = .int .i64 (q : Nat) ∧ q ≤ m ∧ wq.ownsRow w1.heap.size 57 2 v (L.length + q) (toldV (L ++ (M.take q).map (fun x => (k, x)))) ∧ w3.grownBy wq r1 ∧ Hid (v.ownBlock = r1 ∨ ∀ j, v.ownBlock = some j → w3.heap.size ≤ j)) (fun _ i _ => m - (intOf i).toNat)
      case atStart => exact ⟨0, rfl, Nat.zero_le _, by rw [List.take_zero, List.map_nil, List.append_nil]; exact hown3, ⟨rfl, rfl, rfl, Nat.le_refl _, fun _ _ _ => rfl⟩, Lib.hid (.inl HR1.out)⟩
      case round =>
        clear hown3
        obtain ⟨q, rfl, hq, hown, hgr, hv⟩ := hrel
        have h3r := hgr.size
        have hoM := HO3.out.kept hgr HNE.out
        by_cases hltq : q < m
        · obtain ⟨gM, rfl⟩ : ∃ g, as1 = some ⟨g, 0, none⟩ := by
            rcases hoM.2 with ⟨_, h0⟩ | ⟨g, cap, cur, h, _⟩
            · omega
            · injection h with h _ _
              exact ⟨g, h⟩
          obtain ⟨x, hx⟩ : ∃ x, M[q]? = some x := ⟨_, List.getElem?_eq_getElem (by rw [HM.out]; exact hltq)⟩
          have c0 : wr.cell? ⟨gM, q, none⟩ = some (.string ⟨x.toArray⟩) := by
            rw [hoM.cellAt q (by omega)]
            unfold strV
            rw [List.getElem?_map, hx]
            rfl
          have HNX := Lib.hid (HST.out q x hltq hx)
          have hqi : (q : Int) < (m : Int) := by omega
          obtain ⟨xb, hxb⟩ : ∃ b : ByteArray, ⟨x.toArray⟩ = b := ⟨_, rfl⟩
          rw [hxb] at c0
          have HXB := Lib.hid hxb
          clear hoM hx hxb
          go_wp2_with (at_builtin; refine wpList_append_lies _ rfl _ _ _ rfl w1.heap.size 57 i0 (.agg #[.int .i64 0, .string ⟨#[]⟩]) 2 24 Tryd.underlying53 hi hz0 hz1 hz2 rfl (by decide) u8 _ _ (by rfl) (hown.alloc (.cells #[.int .i64 (k : Nat), .string xb] 57)) ⟨wr.heap.size, 0, none⟩ 1 1 [.int .i64 (k : Nat), .string xb] (by rfl) (by simp) (cells_new wr _ _) (told_one k xb) (by decide) (by unfold maxLen; omega) (by omega) (by rw [World.size_alloc]; omega) _ rfl ?_; intro g6 c6 w6 r6 r7 r8 _; have R6 := Lib.hid (And.intro r6 (And.intro r7 r8)); clear r6 r7 r8)
          obtain ⟨r6, r7, r8⟩ := R6.out
          have r6' : w6.ownsRow w1.heap.size 57 2 (.slice (some ⟨g6, 0, none⟩) (L.length + q + 1) c6) (L.length + (q + 1)) (toldV (L ++ (M.take (q + 1)).map (fun x => (k, x)))) := by
            rw [← HNX.out]
            unfold toldC
            simp only
            rw [HXB.out]
            exact r6
          refine ⟨⟨q + 1, by go_num, hltq, r6', grown_via (grown_alloc hgr _) hv.out r7, Lib.hid ?_⟩, by simp [intOf]; omega⟩
          rcases r8 with e | e
          · rcases hv.out with h | h
            · exact .inl (by rw [← h, e]; rfl)
            · refine .inr (fun j hj => ?_)
              exact h j (by rw [e, ← hj]; rfl)
          · refine .inr (fun j hj => ?_)
            have hj' : some g6 = some j := hj
            injection hj' with hj'
            rw [World.size_alloc] at e
            omega
        · obtain rfl : q = m := by omega
          have hd : decide (q < q) = false := decide_eq_false (by omega)
          have hTS := HTS.out
          have hlen : (toldL W T s (k + 1)).length = L.length + q := by rw [hTS, List.length_append, List.length_map, HM.out]
          have hrow : wr.ownsRow w1.heap.size 57 2 u8 (toldL W T s (k + 1)).length (toldV (toldL W T s (k + 1))) := by
            rw [hlen, hTS, ← List.take_length (l := M), HM.out]
            exact hown
          have HROW := Lib.hid hrow
          clear hrow hown hTS hlen hoM
          go_wp2_with fail
          refine ⟨⟨k + 1, by go_num, hlt, HROW.out, hb3w.grown hgr hb3w.size (fun j e => (HQ.out j e).1)⟩, by simp [intOf]; omega⟩
    · obtain rfl : k = n := by omega
      have hi : decide (k < k) = false := decide_eq_false (by omega)
      go_wp2_with fail
      go_ret
      exact ⟨_, rfl, owns_base hown hsz1, hb1.trans (hb.mono hsz1)⟩
end Go.Proofs.YticonolnagcakaaDoor

namespace Go.Proofs.YticonolnagcakaaDoor
open Go.RowKit
attribute [local go_sem] Oper.semAt_some

set_option maxHeartbeats 1000000 in
theorem ltext_in (s : ByteArray) (W T : Int) (w : World) :
    Calls Tryd.prog 39 #[.string s, .int .i64 W, .int .i64 T] w fun e w' => e = .returned (.func (.func 52) #[] #[.pointer (some ⟨w.heap.size, 0, none⟩), .pointer (some ⟨w.heap.size + 1, 0, none⟩), .pointer (some ⟨w.heap.size + 1 + 1, 0, none⟩)]) ∧
      w' = ((w.alloc (.cells #[.string s] 9)).alloc (.cells #[.int .i64 W] 3)).alloc (.cells #[.int .i64 T] 3) := by
  go_enter Tryd.func39, Tryd.ntmps39
  go_wp2
  go_ret
  exact ⟨rfl, rfl⟩
theorem eq_told (a : Int) (x : ByteArray) (w : World) :
    (Op.equalIn 10000 57 (.agg #[.int .i64 a, .string x]) (.agg #[.int .i64 a, .string x])).run Tryd.prog w = .ok true w := by
  have u3 := Tryd.underlying3
  have a3 := Tryd.isAgg3
  have z3 := Tryd.sizeOf3
  have u9 := Tryd.underlying9
  have a9 := Tryd.isAgg9
  have z9 := Tryd.sizeOf9
  have hS : Tryd.prog.underlying 57 = some (.struct (Tryd.prog.fieldsOf 57)) := by kernel_rfl
  have hp : Tryd.prog.stoodInHeld 57 = false := by kernel_rfl
  rw [show (10000 : Nat) = 9999 + 1 from rfl, run_equalIn_agg w 9999 57 _ _ hS hp]
  simp only [Program.fieldsOf, Tryd.underlying57]
  go_simp
theorem guard_told : Tryd.prog.eqGuardType Tryd.prog.depth 57 = false := by kernel_rfl
end Go.Proofs.YticonolnagcakaaDoor

namespace Go.Proofs.YticonolnagcakaaDoor
open Go.RowKit

/-- the record of a loop that has just begun -/
def recL (fn : FuncId) (a : Act) (ps : Array Tmp) (assign body : Code) (d : Nat) (st : LoopState) (pe : Option Code) : Loop := { state := st, pending := pe, fn := fn, tmps := a.tmps, params := ps, assign := assign, body := body, defers := d }

theorem range_shell {F : Fence} {n : Nat} {P : Program} {g : Operand} {ps : Array Tmp} {assign body : Code} {Q : Exit → Act → World → Prop} {a : Act} {w : World}
    (hro : F.round = none) (h1 : 1 ≤ n) {gf : Nat} {lb : Array Value} (hg : a.eval g = .func (.func gf) #[] lb) (hFg : F.fn gf) (eg : ∀ args w, (callFunc gf args).run P w = .ok (.enter gf args) w)
    (h : ∀ fn, F.fn fn → CallsIn F (n - 1) P gf (#[.func (.yield (w.heap.size + 1)) #[] #[]] ++ lb) ((w.alloc (.deferred (some []))).alloc (.loop (recL fn a ps assign body w.heap.size .ready none))) fun e W2 => (∃ v, e = .returned v) ∧
      ((W2.heap[w.heap.size + 1]? = some (.loop (recL fn a ps assign body w.heap.size .ready none)) ∧
          Q .normal { a with defers := { target := .collected w.heap.size, args := #[] } :: a.defers } (W2.putObj (w.heap.size + 1) (.loop (recL fn a ps assign body w.heap.size .exhausted none)))) ∨
       (∃ c, W2.heap[w.heap.size + 1]? = some (.loop (recL fn a ps assign body w.heap.size .done (some c))) ∧
          c.wpIn F n P Q { a with defers := { target := .collected w.heap.size, args := #[] } :: a.defers } (W2.putObj (w.heap.size + 1) (.loop (recL fn a ps assign body w.heap.size .exhausted (some c))))))) :
    (Code.rangeFunc g ps assign body).wpIn F n P Q a w := by
  refine wpIn_rangeFunc ?_
  intro fn hfn
  rw [hro]
  have hc := h fn hfn
  obtain ⟨W1, hW1⟩ : ∃ W1, (w.alloc (.deferred (some []))).alloc (.loop (recL fn a ps assign body w.heap.size .ready none)) = W1 := ⟨_, rfl⟩
  rw [hW1] at hc
  have hin := run_enterLoop_outer (P := P) (w := w) fn a.tmps ps assign body
  rw [show (w.alloc (.deferred (some []))).alloc (.loop { state := .ready, pending := none, fn := fn, tmps := a.tmps, params := ps, assign := assign, body := body, defers := w.heap.size }) = W1 from hW1] at hin
  refine ⟨w.heap.size + 1, [{ target := .collected w.heap.size, args := #[] }], W1, { target := .fn (.func gf) lb, args := #[.func (.yield (w.heap.size + 1)) #[] #[]] }, W1, gf, #[.func (.yield (w.heap.size + 1)) #[] #[]] ++ lb, W1, ?_, ?_, ?_, ?_, fun _ => h1, ?_⟩
  · exact hin
  · simp only [resolve, hg]
    simp [go_sem]
  · intro f' hf'
    simp [Target.leads] at hf'
    subst hf'
    exact hFg
  · simp [invoke, go_sem, eg]
  · refine hc.mono ?_
    rintro e W2 ⟨⟨v, rfl⟩, ⟨hl, hq⟩ | ⟨c, hl, hq⟩⟩
    · have e1 : (Instr.endLoop (w.heap.size + 1)).run P W2 = .ok none (W2.putObj (w.heap.size + 1) (.loop (recL fn a ps assign body w.heap.size .exhausted none))) := run_endLoop (P := P) hl (by intro e; cases e)
      exact ⟨none, _, e1, hq⟩
    · have e1 : (Instr.endLoop (w.heap.size + 1)).run P W2 = .ok (some c) (W2.putObj (w.heap.size + 1) (.loop (recL fn a ps assign body w.heap.size .exhausted (some c)))) := run_endLoop (P := P) hl (by intro e; cases e)
      exact ⟨some c, _, e1, hq⟩

/-- how a round's body may be left, and what the iterator is told -/
def roundW (l : Nat) (rec : LoopState → Option Code → Loop) (R : Ending → World → Prop) : Exit → Act → World → Prop
  | .normal, _, W => W.heap[l]? = some (.loop (rec .busy none)) ∧ R (.returned (.bool true)) (W.putObj l (.loop (rec .ready none)))
  | .ret, _, W => W.heap[l]? = some (.loop (rec .busy none)) ∧ R (.returned (.bool false)) (W.putObj l (.loop (rec .done (some .ret))))
  | .exit id, _, W => W.heap[l]? = some (.loop (rec .busy none)) ∧ R (.returned (.bool false)) (W.putObj l (.loop (rec .done (some (.exit id)))))
  | _, _, _ => False
theorem round_at {F : Fence} {m : Nat} {P : Program} {l : Nat} {fn : FuncId} {a : Act} {ps : Array Tmp} {assign body : Code} {d : Nat} {args : Array Value} {W : World} {R : Ending → World → Prop} (hfn : F.fn fn)
    (hl : W.heap[l]? = some (.loop (recL fn a ps assign body d .ready none))) (hps : args.size = ps.size)
    (h : assign.wpIn (F.inRound l) m P (Exit.then (fun a1 Wa => Wa.heap[l]? = some (.loop (recL fn a ps assign body d .ready none)) ∧
      body.wpIn (F.inRound l) m P (roundW l (recL fn a ps assign body d) R) a1 (Wa.putObj l (.loop (recL fn a ps assign body d .busy none)))) (fun _ _ _ => False))
      { tmps := (ps.zip args).foldl (fun t (p, v) => t.setIfInBounds p v) a.tmps, defers := [] } W) :
    YieldAt F m P l args W R := by
  refine ⟨fn, _, assign, body, run_yield (P := P) hl hps, roundIn_of_wpIn hfn (wpIn_mono h ?_)⟩
  rintro e a1 Wa hq
  cases e with
  | normal =>
    obtain ⟨hl1, hb⟩ := hq
    refine ⟨_, run_beginRound hl1 rfl, wpIn_mono hb ?_⟩
    rintro e2 a2 W2 hq2
    cases e2 with
    | normal => exact ⟨_, _, run_endRound (P := P) none hq2.1, hq2.2⟩
    | ret => exact ⟨_, _, run_endRound (P := P) (some .ret) hq2.1, hq2.2⟩
    | exit id => exact ⟨_, _, run_endRound (P := P) (some (.exit id)) hq2.1, hq2.2⟩
    | goto t => exact hq2.elim
    | panic ch => exact hq2.elim
    | outgrown => exact hq2.elim
  | _ => exact hq
/-- the shell, its record by a name -/
theorem range_shell2 {F : Fence} {n : Nat} {P : Program} {g : Operand} {ps : Array Tmp} {assign body : Code} {Q : Exit → Act → World → Prop} {a : Act} {w : World}
    (hro : F.round = none) (h1 : 1 ≤ n) {gf : Nat} {lb : Array Value} (hg : a.eval g = .func (.func gf) #[] lb) (hFg : F.fn gf) (eg : ∀ args w, (callFunc gf args).run P w = .ok (.enter gf args) w)
    (h : ∀ fn, F.fn fn → ∀ rec : LoopState → Option Code → Loop, rec = recL fn a ps assign body w.heap.size → CallsIn F (n - 1) P gf (#[.func (.yield (w.heap.size + 1)) #[] #[]] ++ lb) ((w.alloc (.deferred (some []))).alloc (.loop (rec .ready none))) fun e W2 => (∃ v, e = .returned v) ∧
      ((W2.heap[w.heap.size + 1]? = some (.loop (rec .ready none)) ∧
          Q .normal { a with defers := { target := .collected w.heap.size, args := #[] } :: a.defers } (W2.putObj (w.heap.size + 1) (.loop (rec .exhausted none)))) ∨
       (∃ c, W2.heap[w.heap.size + 1]? = some (.loop (rec .done (some c))) ∧
          c.wpIn F n P Q { a with defers := { target := .collected w.heap.size, args := #[] } :: a.defers } (W2.putObj (w.heap.size + 1) (.loop (rec .exhausted (some c))))))) :
    (Code.rangeFunc g ps assign body).wpIn F n P Q a w :=
  range_shell hro h1 hg hFg eg (fun fn hfn => h fn hfn _ rfl)
theorem round_at2 {F : Fence} {m : Nat} {P : Program} {l : Nat} {fn : FuncId} {a : Act} {ps : Array Tmp} {assign body : Code} {d : Nat} {args : Array Value} {W : World} {R : Ending → World → Prop} {rec : LoopState → Option Code → Loop} (hrec : rec = recL fn a ps assign body d) (hfn : F.fn fn)
    (hl : W.heap[l]? = some (.loop (rec .ready none))) (hps : args.size = ps.size)
    (h : assign.wpIn (F.inRound l) m P (Exit.then (fun a1 Wa => Wa.heap[l]? = some (.loop (rec .ready none)) ∧
      body.wpIn (F.inRound l) m P (roundW l rec R) a1 (Wa.putObj l (.loop (rec .busy none)))) (fun _ _ _ => False))
      { tmps := (ps.zip args).foldl (fun t (p, v) => t.setIfInBounds p v) a.tmps, defers := [] } W) :
    YieldAt F m P l args W R := by
  subst hrec
  exact round_at hfn hl hps h
theorem round_wide {n m q : Nat} {P : Program} {l : Nat} {f : FuncId} {tmps : Array Value} {assign body : Code} {w : World} {R : Ending → World → Prop} (h : RoundIn Fence.wide n P l f tmps assign body w R) : RoundIn (Fence.wide.inRound q) m P l f tmps assign body w R :=
  ⟨h.1, fun c cs _ => h.2 c cs (room_wide _)⟩
end Go.Proofs.YticonolnagcakaaDoor

namespace Go.Proofs.YticonolnagcakaaDoor
open Go.RowKit
attribute [local go_sem] Oper.semAt_some

set_option maxRecDepth 100000 in
set_option maxHeartbeats 4000000 in
theorem lalln_in (n : Nat) (hn : 1 ≤ n) (l B : Nat) (w0 : World) (hT : Tabs w0) (s : ByteArray) (hs : s.size ≤ 140737488351232) (J Jx : Nat → World → Prop) (W : World) (hW : Below w0.heap.size w0 W) (hJ : AbidesFrom W.heap.size J)
    (hY : ∀ m W1, J m W1 → m < lnN (bs s) → YieldAt Fence.wide (n - 1) Tryd.prog l (encK (bs s) m) W1 fun e W' =>
      (e = .returned (.bool true) ∧ J (m + 1) W' ∧ KpW B w0.heap.size W1 W') ∨ (e = .returned (.bool false) ∧ Jx (m + 1) W'))
    (hB : W.cell? ⟨B, 0, none⟩ = some (.string s)) (h0 : J 0 W) :
    CallsIn Fence.wide n Tryd.prog 62 #[.func (.yield l) #[] #[], .pointer (some ⟨B, 0, none⟩)] W fun e W' => (∃ v, e = .returned v) ∧
      (J (lnN (bs s)) W' ∨ (∃ k, k ≤ lnN (bs s) ∧ Jx k W')) := by
  refine callsIn_of_wp Tryd.func62 rfl trivial ?_ rfl
  simp only [Tryd.ntmps62, List.size_toArray, List.length_cons, List.length_nil, Nat.reduceAdd, Nat.reduceSub, Array.replicate_succ, Array.replicate_zero, List.push_toArray, List.append_toArray, List.nil_append, List.cons_append]
  have HJ := Lib.hid hJ
  have HY := Lib.hid hY
  have HT := Lib.hid hT
  have HE := Lib.hid (fun c w hT => lend_any s hs c w hT)
  obtain ⟨L, hL⟩ : ∃ L, bs s = L := ⟨_, rfl⟩
  have hlen : L.length = s.size := by rw [← hL, size_bs]
  rw [hL] at HY HE ⊢
  have HLEN := Lib.hid hlen
  clear hJ hY hT hL hlen
  have hBlt := World.block_lt_of_cell? W _ hB
  simp only at hBlt
  refine wpIn_wide.2 (wp_scope_straight ((wpIn_wide (n := n)).1 ?_))
  gi_wp2
  refine wpIn_label ?_
  gi_wp2
  gi_loopw [3, 4, 5, 6] (fun f i _ _ wr => ∃ f' i' : Nat, f = .int .i64 (f' : Nat) ∧ i = .int .i64 (i' : Nat) ∧ i' ≤ s.size ∧ wr.cell? ⟨B, 0, none⟩ = some (.string s) ∧ Below w0.heap.size w0 wr ∧ Hid (∃ m, m ≤ lnN L ∧ (linesL L).take m ++ lnRest L f' i' = linesL L ∧ J m wr)) (fun _ i _ _ _ => s.size - (intOf i).toNat)
  case atStart => exact ⟨0, 0, rfl, rfl, Nat.zero_le _, hB, hW, Lib.hid ⟨0, Nat.zero_le _, rfl, h0⟩⟩
  case round =>
    obtain ⟨f', i', rfl, rfl, hi, hcB, hbw, hh⟩ := hrel
    by_cases hlt : i' < s.size
    · have hil : i' < L.length := by rw [HLEN.out]; exact hlt
      have hki : (i' : Int) < (s.size : Int) := by omega
      have HEE := Lib.hid (fun w hT => HE.out (i' : Nat) w hT)
      rw [endZ_nat] at HEE
      by_cases he : endN L i' = 0
      · rw [he, show nzB 0 = false from rfl] at HEE
        have HLN := Lib.hid (ln_no (f := f') hil he)
        clear hil he
        gi_wp2_with ((refine ⟨trivial, ?_⟩); gi_at_call 63; (with_reducible refine (callsIn_wide.2 (HEE.out _ (HT.out.below hbw (Nat.le_refl _)))).mono ?_); rintro e w1 ⟨rfl, hb1⟩; have hbb := nx hbw hb1; have hcB1 := cellKeep hcB hb1; have HG := Lib.hid (Below.grow hb1))
        exact ⟨⟨f', i' + 1, rfl, by go_num, hlt, hcB1, hbb, Lib.hid (by
          obtain ⟨m, hm, h1, h2⟩ := hh.out
          exact ⟨m, hm, by rw [← HLN.out]; exact h1, HJ.out _ _ w1 none h2 HG.out (fun r e => by cases e)⟩)⟩, by simp [intOf]; omega⟩
      · have HLN := Lib.hid (ln_yes (f := f') he)
        have hfit := end_fits he
        rw [HLEN.out] at hfit
        obtain ⟨x, hx⟩ : ∃ x, endN L i' = x := ⟨_, rfl⟩
        rw [hx] at HEE HLN hfit
        have hx1 : 1 ≤ x := by omega
        rw [show nzB x = true from bne_iff_ne.2 (by omega)] at HEE
        obtain ⟨m, hm, h1, h2⟩ := hh.out
        rw [HLN.out] at h1
        obtain ⟨hpl, hxm, hrest⟩ := lnX_split hm h1
        have HPL := Lib.hid hpl
        have HXM := Lib.hid hxm
        have HS := Lib.hid hrest
        have HJ2 := Lib.hid h2
        clear hil he hx h1 h2 hpl hxm hrest hh hm
        gi_wp2_with ((refine ⟨trivial, ?_⟩); gi_at_call 63; (with_reducible refine (callsIn_wide.2 (HEE.out _ (HT.out.below hbw (Nat.le_refl _)))).mono ?_); rintro e w1 ⟨rfl, hb1⟩; have hbb := nx hbw hb1; have hcB1 := cellKeep hcB hb1; obtain ⟨fn, tmps, assign, body, hy, hR⟩ := HY.out m w1 (HJ.out _ _ w1 none HJ2.out (Below.grow hb1) (fun r e => by cases e)) HPL.out; rw [show encK L m = #[.agg #[.int .i64 (f' : Nat), .int .i64 (i' : Nat)], .int .i64 (x : Nat)] by unfold encK; rw [HXM.out]; rfl] at hy)
        refine hR.mono ?_
        rintro e W3 (⟨rfl, hJ3, hk3⟩ | ⟨rfl, hJx3⟩)
        · have hb3 := hbb.trans hk3.1.2
          have hcB4 := (World.cell?_of_block (a := ⟨B, 0, none⟩) hk3.2).trans hcB1
          have HREL := Lib.hid (show ∃ m, m ≤ lnN L ∧ (linesL L).take m ++ lnRest L (i' + x) (i' + x) = linesL L ∧ J m W3 from ⟨m + 1, HPL.out, HS.out, hJ3⟩)
          clear hk3 hJ3
          gi_wp2
          exact ⟨⟨i' + x, i' + x, by go_num, by go_num, hfit, hcB4, hb3, HREL⟩, by simp [intOf]; omega⟩
        · gi_wp2
          rw [Exit.noGoto_ret]
          refine bodyPost_ret (results_none rfl _ _ _) rfl ?_
          exact ⟨⟨_, rfl⟩, .inr ⟨m + 1, HPL.out, hJx3⟩⟩
    · have hii : i' = s.size := by omega
      subst hii
      obtain ⟨m, hm, h1, h2⟩ := hh.out
      rw [ln_end (by rw [HLEN.out]; exact Nat.le_refl _), HLEN.out] at h1
      obtain ⟨hpl, hxm, hrest⟩ := lnX_split hm h1
      have HPL := Lib.hid hpl
      have HS := Lib.hid (show m + 1 = lnN L by
        have := congrArg List.length hrest
        rw [List.append_nil, List.length_take] at this
        unfold lnN at hpl ⊢
        omega)
      obtain ⟨fn, tmps, assign, body, hy, hR⟩ := HY.out m wr h2 hpl
      rw [show encK L m = #[.agg #[.int .i64 (f' : Nat), .int .i64 (s.size : Nat)], .int .i64 0] by unfold encK; rw [hxm]; rfl] at hy
      clear h1 h2 hpl hxm hrest hh hm
      gi_wp2
      refine hR.mono ?_
      rintro e W3 (⟨rfl, hJ3, hk3⟩ | ⟨rfl, hJx3⟩)
      · have HJ3 := Lib.hid hJ3
        clear hJ3 hk3
        gi_wp2
        rw [Exit.noGoto_normal]
        go_end0
        exact ⟨⟨_, rfl⟩, .inl (by rw [← HS.out]; exact HJ3.out)⟩
      · gi_wp2
        rw [Exit.noGoto_normal]
        go_end0
        exact ⟨⟨_, rfl⟩, .inr ⟨m + 1, HPL.out, hJx3⟩⟩
end Go.Proofs.YticonolnagcakaaDoor

namespace Go.Proofs.YticonolnagcakaaDoor
open Go.RowKit

/-- an object that is a row of what is told -/
def IsTold (o : Obj) : Prop := ∃ cur, o = .cells cur 57 (0, 0)
theorem not_told_cells {cur : Array Value} {t : TypeId} (h : t ≠ 57) : ¬ IsTold (.cells cur t (0, 0)) := fun ⟨c, e⟩ => by injection e with _ e2; exact h e2
theorem not_told_loop (r : Loop) : ¬ IsTold (.loop r) := fun ⟨c, e⟩ => by cases e
theorem not_told_def (d : Option (List Deferred)) : ¬ IsTold (.deferred d) := fun ⟨c, e⟩ => by cases e
theorem not_told_walk {o : Obj} (h : o.isWalk = true) : ¬ IsTold o := fun ⟨c, e⟩ => by subst e; cases h
/-- what a yield keeps: all but the caller's own (below B; its two blocks of the loop) and rows of what is told -/
structure KpT (n₀ B l : Nat) (W W' : World) : Prop where
  kb : KpB n₀ W W'
  same : ∀ k o, W.heap[k]? = some o → B ≤ k → k ≠ l → k + 1 ≠ l → ¬ IsTold o → W'.heap[k]? = some o
theorem KpT.refl (n₀ B l : Nat) (W : World) : KpT n₀ B l W W := ⟨⟨KeepsWalks.refl W, Below.refl _ _⟩, fun _ _ h _ _ _ _ => h⟩
theorem KpT.trans {n₀ B l : Nat} {X Y Z : World} (h : KpT n₀ B l X Y) (k : KpT n₀ B l Y Z) : KpT n₀ B l X Z :=
  ⟨kpB_t h.kb k.kb, fun i o hi h1 h2 h3 h4 => k.same i o (h.same i o hi h1 h2 h3 h4) h1 h2 h3 h4⟩
theorem KpT.of_below {n₀ B l : Nat} {X Y : World} (h : Below X.heap.size X Y) (hn : n₀ ≤ X.heap.size) : KpT n₀ B l X Y :=
  ⟨⟨(keepsOthers_below h).walks, h.mono hn⟩, fun k _ hk _ _ _ _ => (h.block k (Array.getElem?_eq_some_iff.1 hk).1).trans hk⟩
theorem KpT.own {n₀ B l base size m : Nat} {e : TypeId} {v : Value} {xs : List Value} {X Y : World} (h : KpT n₀ B l X Y) (ho : X.ownsRow base e size v m xs) (he : e ≠ 57) (hB : B ≤ base) (hl : l < base) : Y.ownsRow base e size v m xs := by
  refine ⟨ho.1, ?_⟩
  rcases ho.2 with h1 | ⟨g, cap, cur, h1, h2, h3, h4⟩
  · exact .inl h1
  · exact .inr ⟨g, cap, cur, h1, h2, h.same g _ h3 (by omega) (by omega) (by omega) (not_told_cells he), h4⟩
/-- what the iterator keeps for its caller, from its call on: what lay there, and rows of what is told -/
structure FrT (B : Nat) (W W' : World) : Prop where
  os : W'.os = W.os
  tape : W'.tape = W.tape
  output : W'.output = W.output
  size : W.heap.size ≤ W'.heap.size
  same : ∀ k o, W.heap[k]? = some o → k < B ∨ IsTold o → W'.heap[k]? = some o
theorem FrT.trans {B : Nat} {X Y Z : World} (h : FrT B X Y) (k : FrT B Y Z) : FrT B X Z :=
  ⟨k.os.trans h.os, k.tape.trans h.tape, k.output.trans h.output, Nat.le_trans h.size k.size, fun i o hi hd => k.same i o (h.same i o hi hd) hd⟩
theorem FrT.of_below {B : Nat} {X Y : World} (h : Below X.heap.size X Y) : FrT B X Y :=
  ⟨h.os, h.tape, h.output, h.size, fun k _ hk _ => (h.block k (Array.getElem?_eq_some_iff.1 hk).1).trans hk⟩
theorem FrT.grown {B : Nat} {X Y : World} {row : Option Nat} (h : X.grownBy Y row) (hr : ∀ r, row = some r → B ≤ r ∧ ∃ o : Obj, X.heap[r]? = some o ∧ o.isWalk = true) : FrT B X Y :=
  ⟨h.os, h.tape, h.output, h.size, fun k o hk hd => (h.block k (Array.getElem?_eq_some_iff.1 hk).1 (fun e => by
    obtain ⟨h1, o', h2, h3⟩ := hr k e.symm
    rw [hk] at h2
    cases h2
    rcases hd with hd | hd
    · omega
    · exact not_told_walk h3 hd)).trans hk⟩
theorem FrT.put {B l : Nat} {X : World} {o o' : Obj} (hl : X.heap[l]? = some o) (hB : B ≤ l) (ho : ¬ IsTold o) : FrT B X (X.putObj l o') :=
  ⟨rfl, rfl, rfl, (grownBy_putObj' X l o').size, fun k o1 hk hd => (World.putObj_heap_other (fun e => by
    subst e
    rw [hk] at hl
    cases hl
    rcases hd with hd | hd
    · omega
    · exact ho hd)).trans hk⟩
theorem FrT.set {B : Nat} {X : World} {a : Addr} {o : Obj} (v : Value) (hl : X.heap[a.block]? = some o) (hB : B ≤ a.block) (ho : ¬ IsTold o) : FrT B X (X.setCell a v) :=
  ⟨rfl, rfl, rfl, (KeepsWalks.setCell X a v).size, fun k o1 hk hd => (Below.heap_setCell _ _ _ k (fun e => by
    subst e
    rw [hk] at hl
    cases hl
    rcases hd with hd | hd
    · omega
    · exact ho hd)).trans hk⟩
/-- what a caller says between two rounds abides the iterator's own steps -/
def AbT (B : Nat) (J : Nat → World → Prop) : Prop := ∀ q W W', J q W → FrT B W W' → J q W'
/-- the iterator's own things: the boxes of its loop, its loop's record, what it was given -/
structure TxS (w0 : World) (G b0 l : Nat) (s : ByteArray) (W T : Int) (rec : Loop) (m : Nat) (V : World) : Prop where
  cy : Boxed V G 114 (.func (.yield l) #[] #[])
  cn : Boxed V (G + 1) 3 (.int .i64 (m : Nat))
  ca : Boxed V (G + 1 + 1) 9 (.string s)
  c0 : Boxed V b0 9 (.string s)
  c1 : Boxed V (b0 + 1) 3 (.int .i64 W)
  c2 : Boxed V (b0 + 1 + 1) 3 (.int .i64 T)
  rd : V.heap[G + 1 + 1 + 1]? = some (.deferred (some []))
  rc : V.heap[G + 1 + 1 + 1 + 1]? = some (.loop rec)
  bl : Below w0.heap.size w0 V
theorem TxS.lt {w0 : World} {G b0 l : Nat} {s : ByteArray} {W T : Int} {rec : Loop} {m : Nat} {V : World} (h : TxS w0 G b0 l s W T rec m V) : G + 1 + 1 + 1 + 1 < V.heap.size := (Array.getElem?_eq_some_iff.1 h.rc).1
theorem TxS.kp {w0 : World} {G b0 l B : Nat} {s : ByteArray} {W T : Int} {rec : Loop} {m : Nat} {V V' : World} (h : TxS w0 G b0 l s W T rec m V) (hb : b0 + 1 + 1 + 1 < l) (hl : l < G) (hB : B ≤ b0) (hk : KpT w0.heap.size B l V V') : TxS w0 G b0 l s W T rec m V' :=
  ⟨hk.same _ _ h.cy (by omega) (by omega) (by omega) (not_told_cells (by decide)), hk.same _ _ h.cn (by omega) (by omega) (by omega) (not_told_cells (by decide)), hk.same _ _ h.ca (by omega) (by omega) (by omega) (not_told_cells (by decide)),
   hk.same _ _ h.c0 (by omega) (by omega) (by omega) (not_told_cells (by decide)), hk.same _ _ h.c1 (by omega) (by omega) (by omega) (not_told_cells (by decide)), hk.same _ _ h.c2 (by omega) (by omega) (by omega) (not_told_cells (by decide)),
   hk.same _ _ h.rd (by omega) (by omega) (by omega) (not_told_def _), hk.same _ _ h.rc (by omega) (by omega) (by omega) (not_told_loop _), h.bl.trans hk.kb.2⟩
theorem TxS.below {w0 : World} {G b0 l : Nat} {s : ByteArray} {W T : Int} {rec : Loop} {m : Nat} {V V' : World} (h : TxS w0 G b0 l s W T rec m V) (hk : Below V.heap.size V V') : TxS w0 G b0 l s W T rec m V' :=
  have hh : ∀ k o, V.heap[k]? = some o → V'.heap[k]? = some o := fun k _ ho => (hk.block k (Array.getElem?_eq_some_iff.1 ho).1).trans ho
  ⟨hh _ _ h.cy, hh _ _ h.cn, hh _ _ h.ca, hh _ _ h.c0, hh _ _ h.c1, hh _ _ h.c2, hh _ _ h.rd, hh _ _ h.rc, nx h.bl hk⟩
theorem TxS.grown {w0 : World} {G b0 l : Nat} {s : ByteArray} {W T : Int} {rec : Loop} {m : Nat} {V V' : World} {row : Option Nat} (h : TxS w0 G b0 l s W T rec m V) (h0 : w0.heap.size ≤ V.heap.size) (hg : V.grownBy V' row) (hr : ∀ r, row = some r → w0.heap.size ≤ r ∧ ∃ o : Obj, V.heap[r]? = some o ∧ o.isWalk = true) : TxS w0 G b0 l s W T rec m V' :=
  have hh : ∀ (k : Nat) (o : Obj), V.heap[k]? = some o → o.isWalk = false → V'.heap[k]? = some o := fun _ _ ho hw => (grownBy_keeps hg (fun r e => (hr r e).2) ho hw).trans ho
  ⟨hh _ _ h.cy rfl, hh _ _ h.cn rfl, hh _ _ h.ca rfl, hh _ _ h.c0 rfl, hh _ _ h.c1 rfl, hh _ _ h.c2 rfl, hh _ _ h.rd rfl, hh _ _ h.rc rfl, h.bl.grown hg h0 (fun k e => (hr k e).1)⟩
theorem TxS.put {w0 : World} {G b0 l : Nat} {s : ByteArray} {W T : Int} {rec : Loop} {m : Nat} {V : World} (rec' : Loop) (h : TxS w0 G b0 l s W T rec m V) (hb : b0 + 1 + 1 < G) (h0 : w0.heap.size ≤ G) : TxS w0 G b0 l s W T rec' m (V.putObj (G + 1 + 1 + 1 + 1) (.loop rec')) :=
  have hh : ∀ k o, V.heap[k]? = some o → k ≠ G + 1 + 1 + 1 + 1 → (V.putObj (G + 1 + 1 + 1 + 1) (.loop rec')).heap[k]? = some o := fun k o ho hk => (World.putObj_heap_other hk).trans ho
  ⟨hh _ _ h.cy (by omega), hh _ _ h.cn (by omega), hh _ _ h.ca (by omega), hh _ _ h.c0 (by omega), hh _ _ h.c1 (by omega), hh _ _ h.c2 (by omega), hh _ _ h.rd (by omega), World.putObj_heap_same h.lt,
   h.bl.grown (grownBy_putObj' _ _ _) (Nat.le_trans h0 (by have := h.lt; omega)) (fun k e => by cases e; omega)⟩
theorem TxS.num {w0 : World} {G b0 l : Nat} {s : ByteArray} {W T : Int} {rec : Loop} {m : Nat} {V : World} (m' : Nat) (h : TxS w0 G b0 l s W T rec m V) (hb : b0 + 1 + 1 < G) (h0 : w0.heap.size ≤ G) : TxS w0 G b0 l s W T rec m' (V.setCell ⟨G + 1, 0, none⟩ (.int .i64 (m' : Nat))) :=
  have hh : ∀ k o, V.heap[k]? = some o → k ≠ G + 1 → (V.setCell ⟨G + 1, 0, none⟩ (.int .i64 (m' : Nat))).heap[k]? = some o := fun k o ho hk => (Below.heap_setCell _ _ _ k hk).trans ho
  ⟨hh _ _ h.cy (by omega), h.cn.set _, hh _ _ h.ca (by omega), hh _ _ h.c0 (by omega), hh _ _ h.c1 (by omega), hh _ _ h.c2 (by omega), hh _ _ h.rd (by omega), hh _ _ h.rc (by omega), h.bl.setCell (p := ⟨G + 1, 0, none⟩) (Nat.le_succ_of_le h0) _⟩
end Go.Proofs.YticonolnagcakaaDoor

namespace Go.Proofs.YticonolnagcakaaDoor
open Go.RowKit
attribute [local go_sem] Oper.semAt_some

/-- a row told, as a range takes it -/
def encT (p : Nat × Bs) : Array Value := #[.int .i64 (p.1 : Nat), .string ⟨p.2.toArray⟩]
theorem told_pre (W T : Int) (s : ByteArray) (m : Nat) : ∀ k, m ≤ k → ∃ r, toldL W T s k = toldL W T s m ++ r
  | 0, h => ⟨[], by obtain rfl : m = 0 := by omega
                    rw [List.append_nil]⟩
  | k + 1, h => by
    by_cases e : m = k + 1
    · exact ⟨[], by rw [e, List.append_nil]⟩
    · obtain ⟨r, hr⟩ := told_pre W T s m k (by omega)
      refine ⟨r ++ (shL W T s k).map (fun x => (k, x)), ?_⟩
      rw [← List.append_assoc, ← hr]
      rfl
theorem told_len (W T : Int) (s : ByteArray) (m : Nat) : (toldL W T s (m + 1)).length = (toldL W T s m).length + (shL W T s m).length := by
  rw [show toldL W T s (m + 1) = toldL W T s m ++ (shL W T s m).map (fun x => (m, x)) from rfl, List.length_append, List.length_map]
theorem told_at (W T : Int) (s : ByteArray) (m q : Nat) (x : Bs) (hm : m < lnN (bs s)) (hx : (shL W T s m)[q]? = some x) : (toldL W T s (lnN (bs s)))[(toldL W T s m).length + q]? = some (m, x) := by
  obtain ⟨r, hr⟩ := told_pre W T s (m + 1) _ hm
  have hq : q < (shL W T s m).length := (List.getElem?_eq_some_iff.1 hx).1
  rw [hr, List.getElem?_append_left (by rw [told_len]; omega)]
  rw [show toldL W T s (m + 1) = toldL W T s m ++ (shL W T s m).map (fun x => (m, x)) from rfl, List.getElem?_append_right (by omega), Nat.add_sub_cancel_left, List.getElem?_map, hx]
  rfl
theorem told_mono (W T : Int) (s : ByteArray) (m k : Nat) (h : m ≤ k) : (toldL W T s m).length ≤ (toldL W T s k).length := by
  obtain ⟨r, hr⟩ := told_pre W T s m k h
  rw [hr, List.length_append]
  omega

set_option maxRecDepth 100000 in
set_option maxHeartbeats 4000000 in
theorem text1_in (n : Nat) (hn : 3 ≤ n) (l b0 B : Nat) (w0 : World) (hT : Tabs w0) (s : ByteArray) (hs : s.size ≤ 1048576) (W T : Int) (J Jx : Nat → World → Prop) (X : World) (hX : Below w0.heap.size w0 X)
    (hBb : B ≤ b0) (hbl : b0 + 1 + 1 + 1 < l) (hlX : l < X.heap.size) (hJ : AbT X.heap.size J) (hJx : AbT X.heap.size Jx)
    (hY : ∀ q p V, J q V → (toldL W T s (lnN (bs s)))[q]? = some p → YieldAt Fence.wide (n - 1) Tryd.prog l (encT p) V fun e V' =>
      (e = .returned (.bool true) ∧ J (q + 1) V' ∧ KpT w0.heap.size B l V V') ∨ (e = .returned (.bool false) ∧ Jx (q + 1) V' ∧ KpT w0.heap.size B l V V'))
    (c0 : Boxed X b0 9 (.string s)) (c1 : Boxed X (b0 + 1) 3 (.int .i64 W)) (c2 : Boxed X (b0 + 1 + 1) 3 (.int .i64 T)) (h0 : J 0 X) :
    CallsIn Fence.wide n Tryd.prog 52 #[.func (.yield l) #[] #[], .pointer (some ⟨b0, 0, none⟩), .pointer (some ⟨b0 + 1, 0, none⟩), .pointer (some ⟨b0 + 1 + 1, 0, none⟩)] X fun e V => (∃ v, e = .returned v) ∧
      (J (toldL W T s (lnN (bs s))).length V ∨ (∃ q, q ≤ (toldL W T s (lnN (bs s))).length ∧ Jx q V)) := by
  obtain ⟨N, hN⟩ : ∃ N, (toldL W T s (lnN (bs s))).length = N := ⟨_, rfl⟩
  rw [hN]
  have HJ := Lib.hid hJ
  have HJX := Lib.hid hJx
  have HY := Lib.hid hY
  have HT := Lib.hid hT
  have HSH := Lib.hid (fun k w hT => vshown_any W T (lineS s k) (by have := lineS_le s k; omega) w hT)
  have hw0 := hX.size
  clear hJ hJx hY hT
  refine callsIn_of_wp_marks (n := n) Tryd.func52 rfl trivial ?_ rfl
  simp only [Tryd.ntmps52, List.size_toArray, List.length_cons, List.length_nil, Nat.reduceAdd, Nat.reduceSub, Array.replicate_succ, Array.replicate_zero, List.push_toArray, List.append_toArray, List.nil_append, List.cons_append]
  have d0 := c0.cell
  have hb0 : b0 < X.heap.size := by omega
  have hn1 : 1 ≤ n := by omega
  gi_wp2_with ((refine ⟨trivial, ?_⟩); gi_at_call 53; (with_reducible refine (callsIn_wide.2 (lall_in s _)).mono ?_); rintro e w2 ⟨rfl, rfl⟩)
  obtain ⟨X1, hX1⟩ : ∃ X1, allocs X [.cells #[.func (.yield l) #[] #[]] 114, .cells #[.int .i64 0] 3, .cells #[.string s] 9] = X1 := ⟨_, rfl⟩
  have b1 : Boxed X1 X.heap.size 114 (.func (.yield l) #[] #[]) := by rw [← hX1]; exact allocs_get _ X 0 _ rfl
  have b2 : Boxed X1 (X.heap.size + 1) 3 (.int .i64 0) := by rw [← hX1]; exact allocs_get _ X 1 _ rfl
  have b3 : Boxed X1 (X.heap.size + 1 + 1) 9 (.string s) := by rw [← hX1]; exact allocs_get _ X 2 _ rfl
  have hbX : Below X.heap.size X X1 := by rw [← hX1]; exact allocs_below _ _ _ (Below.refl _ _)
  have hsz1 : X1.heap.size = X.heap.size + 1 + 1 + 1 := by rw [← hX1]; exact allocs_size _ X
  simp only [allocs] at hX1
  rw [hX1]
  clear hX1 d0
  refine' range_shell2 rfl hn1 (gf := 62) (lb := #[.pointer (some ⟨X.heap.size + 1 + 1, 0, none⟩)]) rfl trivial (enters_of Tryd.func62 (by kernel_rfl) rfl) ?_
  intro fn hfn rec hrec
  rw [hsz1]
  obtain ⟨X2, hX2⟩ : ∃ X2, (X1.alloc (.deferred (some []))).alloc (.loop (rec .ready none)) = X2 := ⟨_, rfl⟩
  rw [hX2]
  have hb12 : Below X1.heap.size X1 X2 := by rw [← hX2]; exact al (al (Below.refl _ _) _) _
  have tx0 : TxS w0 X.heap.size b0 l s W T (rec .ready none) 0 X2 := by
    have hh : ∀ k o, X1.heap[k]? = some o → X2.heap[k]? = some o := fun k o ho => (hb12.block k (Array.getElem?_eq_some_iff.1 ho).1).trans ho
    have hx : ∀ k o, X.heap[k]? = some o → X1.heap[k]? = some o := fun k o ho => (hbX.block k (Array.getElem?_eq_some_iff.1 ho).1).trans ho
    refine ⟨hh _ _ b1, hh _ _ b2, hh _ _ b3, hh _ _ (hx _ _ c0), hh _ _ (hx _ _ c1), hh _ _ (hx _ _ c2), ?_, ?_, nx (nx hX hbX) hb12⟩
    · rw [← hX2, ← hsz1]
      exact (Below.heap_alloc _ _ _ (by simp)).trans (World.alloc_heap_new X1 _)
    · rw [← hX2, ← hsz1]
      have := World.alloc_heap_new (X1.alloc (.deferred (some []))) (.loop (rec .ready none))
      rwa [World.size_alloc] at this
  have hJ2 : J (toldL W T s 0).length X2 := HJ.out _ _ _ h0 ((FrT.of_below hbX).trans (FrT.of_below hb12))
  have hszX2 : X.heap.size ≤ X2.heap.size := Nat.le_trans hbX.size hb12.size
  clear hb12 hX2 hbX b1 b2 b3 c0 c1 c2 h0
  refine (lalln_in (n - 1) (by omega) (X.heap.size + 1 + 1 + 1 + 1) (X.heap.size + 1 + 1) w0 HT.out s (by omega)
    (fun m V => J (toldL W T s m).length V ∧ TxS w0 X.heap.size b0 l s W T (rec .ready none) m V ∧ X.heap.size ≤ V.heap.size)
    (fun _ V => ∃ q m, q ≤ N ∧ Jx q V ∧ TxS w0 X.heap.size b0 l s W T (rec .done (some .ret)) m V) X2 tx0.bl ?ab ?yy tx0.ca.cell ⟨hJ2, tx0, hszX2⟩).mono ?_
  case ab =>
    rintro m V V' row ⟨h1, h2, h3⟩ hg hr
    exact ⟨HJ.out _ _ _ h1 (FrT.grown hg (fun r e => ⟨Nat.le_trans hszX2 (hr r e).1, (hr r e).2⟩)), h2.grown (Nat.le_trans hw0 h3) hg (fun r e => ⟨by have := (hr r e).1; omega, (hr r e).2⟩), Nat.le_trans h3 hg.size⟩
  case yy =>
    rintro m V1 ⟨hJ1, tx, hsV⟩ hm
    refine round_at2 hrec hfn tx.rc rfl ?_
    clear hrec
    obtain ⟨g1, g2, -, -⟩ := ln_get (bs s) m hm
    rw [← size_bs] at g2
    have hex : s.extract (lnX (bs s) m).1 (lnX (bs s) m).2.1 = lineS s m := rfl
    have HTA := Lib.hid (fun q x hx => told_at W T s m q x hm hx)
    have HTL := Lib.hid (told_len W T s m)
    have HS := Lib.hid (HSH.out m)
    unfold shL at HTA HTL
    dsimp only [encK, encLn]
    change (lnX (bs s) m).1 ≤ (lnX (bs s) m).2.1 at g1
    change (lnX (bs s) m).2.1 + (lnX (bs s) m).2.2 ≤ s.size at g2
    obtain ⟨A, hA⟩ : ∃ A, (lnX (bs s) m).1 = A := ⟨_, rfl⟩
    obtain ⟨B', hB'⟩ : ∃ A, (lnX (bs s) m).2.1 = A := ⟨_, rfl⟩
    obtain ⟨E, hE⟩ : ∃ A, (lnX (bs s) m).2.2 = A := ⟨_, rfl⟩
    rw [hA] at g1 hex
    rw [hB'] at g1 g2 hex
    rw [hE] at g2
    rw [hA, hB', hE]
    obtain ⟨⟨M, em⟩, hM⟩ : ∃ x, shownR W T (bs (lineS s m)) = x := ⟨_, rfl⟩
    rw [hM] at HS HTA HTL
    simp only at HS HTA HTL
    obtain ⟨st, hst⟩ : ∃ x, lineS s m = x := ⟨_, rfl⟩
    rw [hst] at hex HS
    have hml : M.length ≤ 1048577 := by
      have h1 := shL_le W T s m
      have h2 := lineS_le s m
      unfold shL at h1
      rw [hM] at h1
      simp only at h1
      omega
    obtain ⟨k, hk⟩ : ∃ x, M.length = x := ⟨_, rfl⟩
    have HM := Lib.hid hk
    rw [hk] at HS HTL hml
    clear hA hB' hE hM hst hk
    gi_wp2
    have tx1 := tx.below (V' := V1.alloc (.cells #[.int .i64 (A : Nat), .int .i64 (B' : Nat)] 30)) ((Below.refl _ _).alloc (Nat.le_refl _) _)
    refine ⟨tx1.rc, ?_⟩
    obtain ⟨V2, hV2⟩ : ∃ V2, (V1.alloc (.cells #[.int .i64 (A : Nat), .int .i64 (B' : Nat)] 30)).putObj (X.heap.size + 1 + 1 + 1 + 1) (.loop (rec .busy none)) = V2 := ⟨_, rfl⟩
    have hlt1 := tx.lt
    have tx2 : TxS w0 X.heap.size b0 l s W T (rec .busy none) m V2 := by rw [← hV2]; exact tx1.put _ (by omega) hw0
    have tp : Two V2 V1.heap.size 30 (.int .i64 (A : Nat)) (.int .i64 (B' : Nat)) := by rw [← hV2]; exact (World.putObj_heap_other (by omega)).trans (Two.new V1 _ _ _)
    have hJ2' : J (toldL W T s m).length V2 := by
      rw [← hV2]
      exact HJ.out _ _ _ (HJ.out _ _ _ hJ1 (FrT.of_below ((Below.refl _ V1).alloc (Nat.le_refl _) _))) (FrT.put tx1.rc (by omega) (not_told_loop _))
    have hk2 : KpB w0.heap.size V1 V2 := by
      rw [← hV2]
      exact kpB_t (kpB_t ⟨KeepsWalks.refl _, Below.refl _ _⟩ ⟨(KeepsOthers.alloc V1 _).walks, (Below.refl _ V1).alloc (by omega) _⟩) (kpB_b (w := X) hw0 _ _ _ _ (by omega) tx1.rc rfl rfl)
    have hs2 : V1.heap.size < V2.heap.size := tp.lt
    rw [hV2]
    obtain ⟨p, hp⟩ : ∃ p, V1.heap.size = p := ⟨_, rfl⟩
    rw [hp] at tp hs2 hlt1 hsV ⊢
    clear hV2 tx1 hp
    obtain ⟨q0, hq0⟩ : ∃ x, (toldL W T s m).length = x := ⟨_, rfl⟩
    rw [hq0] at hJ1 hJ2' HTA HTL
    have hAB : (A : Int) ≤ (B' : Int) := by omega
    have hBs : (B' : Int) ≤ (s.size : Int) := by omega
    have hS0 : (fun w' => w'.cell? ⟨b0, 0, none⟩ = some (.string s) ∧ w'.cell? ⟨b0 + 1, 0, none⟩ = some (.int .i64 W) ∧ w'.cell? ⟨b0 + 1 + 1, 0, none⟩ = some (.int .i64 T) ∧ w'.cell? ⟨p, 0, none⟩ = some (.int .i64 (A : Nat)) ∧ w'.cell? ⟨p, 1, none⟩ = some (.int .i64 (B' : Nat))) V2.drew := ⟨tx2.c0.cell, tx2.c1.cell, tx2.c2.cell, tp.cell0, tp.cell1⟩
    gi_wp2
    refine held_round (S := fun w' => w'.cell? ⟨b0, 0, none⟩ = some (.string s) ∧ w'.cell? ⟨b0 + 1, 0, none⟩ = some (.int .i64 W) ∧ w'.cell? ⟨b0 + 1 + 1, 0, none⟩ = some (.int .i64 T) ∧ w'.cell? ⟨p, 0, none⟩ = some (.int .i64 (A : Nat)) ∧ w'.cell? ⟨p, 1, none⟩ = some (.int .i64 (B' : Nat))) (by rintro ⟨_, _, h⟩; exact h) (by kernel_rfl) (by kernel_rfl) ?_
    refine wpAnyH_take (i := 0) (v := .string s) rfl (by kernel_rfl) (by kernel_rfl) (by kernel_rfl) (fun _ _ _ h => h) (.inl ⟨by rfl, fun w' hS' => ?_⟩) hS0 ?_
    · obtain ⟨k0, k1, k2, k3, k4⟩ := hS'
      go_simp
    refine wpAnyH_take (i := 1) (v := .pointer (some ⟨p, 0, none⟩)) rfl (by kernel_rfl) (by kernel_rfl) (by kernel_rfl) (fun _ _ _ h => h) (.inl ⟨by rfl, fun w' hS' => ?_⟩) hS0 ?_
    · obtain ⟨k0, k1, k2, k3, k4⟩ := hS'
      go_simp
    refine wpAnyH_take (i := 2) (v := .int .i64 (A : Nat)) rfl (by kernel_rfl) (by kernel_rfl) (by kernel_rfl) (fun _ _ _ h => h) (.inl ⟨by rfl, fun w' hS' => ?_⟩) hS0 ?_
    · obtain ⟨k0, k1, k2, k3, k4⟩ := hS'
      go_simp
    refine wpAnyH_take (i := 3) (v := .pointer (some ⟨p, 1, none⟩)) rfl (by kernel_rfl) (by kernel_rfl) (by kernel_rfl) (fun _ _ _ h => h) (.inl ⟨by rfl, fun w' hS' => ?_⟩) hS0 ?_
    · obtain ⟨k0, k1, k2, k3, k4⟩ := hS'
      go_simp
    refine wpAnyH_take (i := 4) (v := .int .i64 (B' : Nat)) rfl (by kernel_rfl) (by kernel_rfl) (by kernel_rfl) (fun _ _ _ h => h) (.inl ⟨by rfl, fun w' hS' => ?_⟩) hS0 ?_
    · obtain ⟨k0, k1, k2, k3, k4⟩ := hS'
      go_simp
    refine wpAnyH_take (i := 5) (v := .string st) rfl (by kernel_rfl) (by kernel_rfl) (by kernel_rfl) (fun _ _ _ h => h) (.inl ⟨by rfl, fun w' hS' => ?_⟩) hS0 ?_
    · obtain ⟨k0, k1, k2, k3, k4⟩ := hS'
      go_simp
    refine wpAnyH_take (i := 6) (v := .int .i64 W) rfl (by kernel_rfl) (by kernel_rfl) (by kernel_rfl) (fun _ _ _ h => h) (.inl ⟨by rfl, fun w' hS' => ?_⟩) hS0 ?_
    · obtain ⟨k0, k1, k2, k3, k4⟩ := hS'
      go_simp
    refine wpAnyH_take (i := 7) (v := .int .i64 T) rfl (by kernel_rfl) (by kernel_rfl) (by kernel_rfl) (fun _ _ _ h => h) (.inl ⟨by rfl, fun w' hS' => ?_⟩) hS0 ?_
    · obtain ⟨k0, k1, k2, k3, k4⟩ := hS'
      go_simp
    simp only [Act.put, List.getElem_toArray, List.getElem_cons_succ, List.getElem_cons_zero, List.setIfInBounds_toArray, List.set_cons_succ, List.set_cons_zero]
    refine wpAnyH_ready (rs := [8]) (by kernel_rfl) (by simp) (AllReadyH.cons rfl (fun K hK => ?_) AllReadyH.nil)
    go_simp
    refine (HS.out _ (HT.out.below tx2.bl.drew (Nat.le_refl _))).mono ?_
    rintro e w3 ⟨v, rfl, ho3, hb3⟩
    obtain ⟨as1, cs1, rfl⟩ := own_slice ho3
    have hS1 := And.intro (cellKeep hS0.1 hb3) (And.intro (cellKeep hS0.2.1 hb3) (And.intro (cellKeep hS0.2.2.1 hb3) (And.intro (cellKeep hS0.2.2.2.1 hb3) (cellKeep hS0.2.2.2.2 hb3))))
    refine hK.out _ _ hS1 (fun _ => ?_)
    clear hK K
    refine wpAnyH_take (i := 9) (v := .tuple #[.slice as1 k cs1, .int .i64 em]) rfl (by kernel_rfl) (by kernel_rfl) (by kernel_rfl) (fun _ _ _ h => h) (.inl ⟨by rfl, fun w' hS' => ?_⟩) hS1 ?_
    · obtain ⟨k0, k1, k2, k3, k4⟩ := hS'
      go_simp
    refine wpAnyH_take (i := 10) (v := .slice as1 k cs1) rfl (by kernel_rfl) (by kernel_rfl) (by kernel_rfl) (fun _ _ _ h => h) (.inl ⟨by rfl, fun w' hS' => ?_⟩) hS1 ?_
    · obtain ⟨k0, k1, k2, k3, k4⟩ := hS'
      go_simp
    refine wpAnyH_take (i := 11) (v := .int .i64 em) rfl (by kernel_rfl) (by kernel_rfl) (by kernel_rfl) (fun _ _ _ h => h) (.inl ⟨by rfl, fun w' hS' => ?_⟩) hS1 ?_
    · obtain ⟨k0, k1, k2, k3, k4⟩ := hS'
      go_simp
    refine wpAnyH_take (i := 12) (v := .slice as1 k cs1) rfl (by kernel_rfl) (by kernel_rfl) (by kernel_rfl) (fun _ _ _ h => h) (.inl ⟨by rfl, fun w' hS' => ?_⟩) hS1 ?_
    · obtain ⟨k0, k1, k2, k3, k4⟩ := hS'
      go_simp
    refine wpAnyH_take (i := 13) (v := .int .i64 em) rfl (by kernel_rfl) (by kernel_rfl) (by kernel_rfl) (fun _ _ _ h => h) (.inl ⟨by rfl, fun w' hS' => ?_⟩) hS1 ?_
    · obtain ⟨k0, k1, k2, k3, k4⟩ := hS'
      go_simp
    refine wpAnyH_done (by kernel_rfl) ?_ _
    clear hS0 hS1
    have hb3' : Below V2.heap.size V2 w3 := ((Below.refl V2.heap.size V2).drew).trans hb3
    have tx3 := Lib.hid (tx2.below hb3')
    have hJ3 := Lib.hid (HJ.out _ _ _ hJ2' (FrT.of_below hb3'))
    have hk3 := Lib.hid (show KpB w0.heap.size V1 w3 from kpB_t hk2 ⟨(keepsOthers_below hb3').walks, hb3'.mono (by omega)⟩)
    have hs3 : X.heap.size ≤ w3.heap.size := by have := hb3'.size; omega
    have ho3' := Lib.hid (show w3.ownsRow V2.heap.size 9 1 (.slice as1 k cs1) k (strV M) from ho3)
    have HCA := Lib.hid tx.ca
    clear hb3 hb3' ho3 tx2 hJ2' hk2 hJ1 tx tp
    gi_wp2
    gi_loopw [10, 29] (fun _ i wr => ∃ q : Nat, i = .int .i64 (q : Nat) ∧ q ≤ k ∧ Hid (J (q0 + q) wr) ∧ Hid (TxS w0 X.heap.size b0 l s W T (rec .busy none) m wr) ∧ Hid (wr.ownsRow V2.heap.size 9 1 (.slice as1 k cs1) k (strV M)) ∧ Hid (KpB w0.heap.size V1 wr) ∧ X.heap.size ≤ wr.heap.size) (fun _ i _ => k - (intOf i).toNat)
    case atStart => exact ⟨0, rfl, Nat.zero_le _, hJ3, tx3, ho3', hk3, hs3⟩
    case round =>
      clear hJ3 tx3 ho3' hk3 hs3
      obtain ⟨q, rfl, hq, hJr, hTx, hOr, hKr, hsr⟩ := hrel
      by_cases hlt : q < k
      · have hqi : (q : Int) < (k : Int) := by omega
        obtain ⟨g, rfl⟩ : ∃ g, as1 = some ⟨g, 0, none⟩ := by
          rcases hOr.out.2 with ⟨_, h0⟩ | ⟨g, cap, cur, h, _⟩
          · omega
          · injection h with h _ _
            exact ⟨g, h⟩
        obtain ⟨x, hx⟩ : ∃ x, M[q]? = some x := ⟨_, List.getElem?_eq_getElem (by rw [HM.out]; exact hlt)⟩
        have c0 : wr.cell? ⟨g, q, none⟩ = some (.string ⟨x.toArray⟩) := by
          rw [hOr.out.cellAt q (by omega)]
          unfold strV
          rw [List.getElem?_map, hx]
          rfl
        obtain ⟨fn2, tmps2, assign2, body2, hy, hR⟩ := HY.out (q0 + q) (m, x) wr hJr.out (HTA.out q x hx)
        dsimp only [encT] at hy
        obtain ⟨xb, hxb⟩ : ∃ b : ByteArray, ⟨x.toArray⟩ = b := ⟨_, rfl⟩
        rw [hxb] at c0 hy
        have e0 := hTx.out.cy.cell
        have e1 := hTx.out.cn.cell
        clear hx hxb
        gi_wp2
        refine ⟨fun e => (by cases e), RoundIn.mono (round_wide hR) ?_⟩
        rintro e W3 (⟨rfl, hJ3, hk3⟩ | ⟨rfl, hJx3, hk3⟩)
        · have hTx3 := Lib.hid (hTx.out.kp (by omega) hlX hBb hk3)
          have hO3 := Lib.hid (hk3.own hOr.out (by decide) (by omega) (by omega))
          have hK3 := Lib.hid (kpB_t hKr.out hk3.kb)
          have hs3 := Nat.le_trans hsr hk3.kb.2.size
          have HJ3 := Lib.hid hJ3
          clear hk3 hJ3 hJr hTx hOr hKr c0 e0 e1 hR hy
          gi_wp2
          exact ⟨⟨q + 1, by go_num, hlt, HJ3, hTx3, hO3, hK3, hs3⟩, by simp [intOf]; omega⟩
        · have hTx3 := hTx.out.kp (by omega) hlX hBb hk3
          have hN1 : q0 + q + 1 ≤ N := by
            have h1 := HTL.out
            have h2 := told_mono W T s (m + 1) _ hm
            omega
          have HJ3 := Lib.hid hJx3
          have HTX := Lib.hid hTx3
          clear hk3 hJx3 hTx3 hJr hTx hOr hKr c0 e0 e1 hR hy
          gi_wp2
          refine ⟨HTX.out.rc, .inr ⟨rfl, q0 + q + 1, m, hN1, HJX.out _ _ _ HJ3.out (FrT.put HTX.out.rc (by omega) (not_told_loop _)), HTX.out.put _ (by omega) hw0⟩⟩
      · obtain rfl : q = k := by omega
        have hd : decide (q < q) = false := decide_eq_false (by omega)
        have e1 := hTx.out.cn.cell
        have f1 := hTx.out.cn.frozen
        have hm9 : m ≤ 1048577 := by
          have := lnN_le (bs s)
          rw [← size_bs] at this
          omega
        have HJ4 := Lib.hid (show J (toldL W T s (m + 1)).length wr by rw [HTL.out]; exact hJr.out)
        have hs4 := hTx.out.lt
        gi_wp2
        have tx4 : TxS w0 X.heap.size b0 l s W T (rec .busy none) (m + 1) (wr.setCell ⟨X.heap.size + 1, 0, none⟩ (.int .i64 ((m : Nat) + 1))) := hTx.out.num (m + 1) (by omega) hw0
        have hJ5 := HJ.out _ _ _ HJ4.out (FrT.set (a := ⟨X.heap.size + 1, 0, none⟩) (o := .cells #[.int .i64 (m : Nat)] 3 (0, 0)) (.int .i64 ((m : Nat) + 1)) hTx.out.cn (Nat.le_succ _) (not_told_cells (by decide)))
        have hK5 : KpB w0.heap.size V1 (wr.setCell ⟨X.heap.size + 1, 0, none⟩ (.int .i64 ((m : Nat) + 1))) := kpB_t hKr.out ⟨KeepsWalks.setCell _ _ _, (Below.refl _ _).setCell (p := ⟨X.heap.size + 1, 0, none⟩) (Nat.le_succ_of_le hw0) _⟩
        have tx6 := tx4.put (rec .ready none) (by omega) hw0
        refine ⟨tx4.rc, .inl ⟨rfl, ⟨HJ.out _ _ _ hJ5 (FrT.put tx4.rc (by omega) (not_told_loop _)), tx6, by have := tx6.lt; omega⟩, kpB_t hK5 (kpB_b (w := X) hw0 _ _ _ _ (by omega) tx4.rc rfl rfl), Eq.trans tx6.ca HCA.out.symm⟩⟩
  clear hrec
  rintro e V ⟨⟨v, rfl⟩, ⟨h1, h2, h3⟩ | ⟨k', -, q, m, hq, hJx, htx⟩⟩
  · refine ⟨⟨_, rfl⟩, .inl ⟨h2.rc, ?_⟩⟩
    have tx4 := h2.put (rec .exhausted none) (by omega) hw0
    have hJ4 := HJ.out _ _ _ (HJ.out _ _ _ h1 (FrT.put (o' := .loop (rec .exhausted none)) h2.rc (by omega) (not_told_loop _))) (FrT.put (o' := .deferred none) tx4.rd (by omega) (not_told_def _))
    rw [hN] at hJ4
    have HJ4 := Lib.hid hJ4
    have hK := tx4.rd
    clear h1 h2 hJ4 tx4
    gi_wp2
    refine ⟨by simp, .inl ⟨_, _, rfl, run_takeDeferred hK, ?_⟩⟩
    exact ⟨_, results_none rfl _ _ _, ⟨⟨_, rfl⟩, .inl HJ4.out⟩⟩
  · refine ⟨⟨_, rfl⟩, .inr ⟨.ret, htx.rc, ?_⟩⟩
    have tx4 := htx.put (rec .exhausted (some .ret)) (by omega) hw0
    have HJ4 := Lib.hid (HJX.out _ _ _ (HJX.out _ _ _ hJx (FrT.put (o' := .loop (rec .exhausted (some .ret))) htx.rc (by omega) (not_told_loop _))) (FrT.put (o' := .deferred none) tx4.rd (by omega) (not_told_def _)))
    have hK := tx4.rd
    clear hJx htx tx4
    gi_wp2
    refine ⟨by simp, .inl ⟨_, _, rfl, run_takeDeferred hK, ?_⟩⟩
    exact ⟨_, results_none rfl _ _ _, ⟨⟨_, rfl⟩, .inr ⟨q, hq, HJ4.out⟩⟩⟩
end Go.Proofs.YticonolnagcakaaDoor

namespace Go.Proofs.YticonolnagcakaaDoor
open Go.RowKit

/-- rows told that are read -/
def TdAt (X : World) (ao : Option Addr) (L : List (Nat × Bs)) : Prop := 0 < L.length → ∃ g, ao = some ⟨g, 0, none⟩ ∧ g < X.heap.size ∧
  ∀ i p, L[i]? = some p → X.cell? ⟨g, i * 2, none⟩ = some (.int .i64 (p.1 : Nat)) ∧ X.cell? ⟨g, i * 2 + 1, none⟩ = some (.string ⟨p.2.toArray⟩)
theorem TdAt.below {X Y : World} {ao : Option Addr} {L : List (Nat × Bs)} (h : TdAt X ao L) (hb : Below X.heap.size X Y) : TdAt Y ao L := fun h0 => by
  obtain ⟨g, e1, e2, e3⟩ := h h0
  exact ⟨g, e1, Nat.lt_of_lt_of_le e2 hb.size, fun i p hp => ⟨cellKeep (e3 i p hp).1 hb, cellKeep (e3 i p hp).2 hb⟩⟩
theorem toldV_get (L : List (Nat × Bs)) : ∀ (i : Nat) (p : Nat × Bs), L[i]? = some p → (toldV L)[i * 2]? = some (.int .i64 (p.1 : Nat)) ∧ (toldV L)[i * 2 + 1]? = some (.string ⟨p.2.toArray⟩) := by
  induction L with
  | nil => intro i p h; cases h
  | cons a L ih =>
    intro i p h
    have e : toldV (a :: L) = toldC a ++ toldV L := rfl
    rw [e]
    cases i with
    | zero =>
      injection h with h
      subst h
      exact ⟨rfl, rfl⟩
    | succ i =>
      have h' : L[i]? = some p := h
      obtain ⟨h1, h2⟩ := ih i p h'
      have hl : (toldC a).length = 2 := rfl
      rw [List.getElem?_append_right (by rw [hl]; omega), List.getElem?_append_right (by rw [hl]; omega), hl, show (i + 1) * 2 - 2 = i * 2 by omega, show (i + 1) * 2 + 1 - 2 = i * 2 + 1 by omega]
      exact ⟨h1, h2⟩
theorem TdAt.of_own {X : World} {b c : Nat} {e : TypeId} {ao : Option Addr} {L : List (Nat × Bs)} (h : X.ownsRow b e 2 (.slice ao L.length c) L.length (toldV L)) : TdAt X ao L := fun h0 => by
  have hown := h
  rcases h.2 with ⟨h1, h2⟩ | ⟨g, cap, cur, h1, _, hg, _⟩
  · omega
  · injection h1 with h1 _ h3
    subst h1
    refine ⟨g, rfl, (Array.getElem?_eq_some_iff.1 hg).1, fun i p hp => ?_⟩
    have hi : i < L.length := (List.getElem?_eq_some_iff.1 hp).1
    obtain ⟨e1, e2⟩ := toldV_get L i p hp
    exact ⟨(hown.cellAt (i * 2) (by omega)).trans e1, (hown.cellAt (i * 2 + 1) (by omega)).trans e2⟩
theorem tabs_S {w X : World} {a b : Addr} {u v : Value} (hT : Tabs w) (h : X.cell? a = some u ∧ X.cell? b = some v ∧ Below w.heap.size w X) : Tabs X := hT.below h.2.2 (Nat.le_refl _)
/-- what told answers: at most m of the rows -/
def ToldLaw (W T : Int) (s : ByteArray) : Prop := ∀ (m : Nat) (w : World), 1 ≤ m → m ≤ 140737488351232 → Tabs w →
  Calls Tryd.prog 25 #[.string s, .agg #[.int .i64 W, .int .i64 T], .int .i64 (m : Nat)] w fun e w' => ∃ a c, e = .returned (.slice a (min m (toldL W T s (lnN (bs s))).length) c) ∧
    TdAt w' a ((toldL W T s (lnN (bs s))).take m) ∧ Below w.heap.size w w'

set_option maxRecDepth 100000 in
set_option maxHeartbeats 8000000 in
theorem viewTexts_of (s : ByteArray) (hs : s.size ≤ 1048576) (W T : Int) (fw : Int) (hf : 0 ≤ fw ∧ fw ≤ 255) (hL : ToldLaw W T s) (w : World) (hT : Tabs w) :
    Calls Tryd.prog 7 #[.string s, .agg #[.int .i64 W, .int .i64 T], .int .u8 fw] w fun e w' => e = .returned (.bool true) ∧ Below w.heap.size w w' := by
  have HT := Lib.hid hT
  clear hT
  have HW := Lib.hid (fun w hT => vworks_any w hT)
  have HR := Lib.hid (fun w => reftext_any W T s hs w)
  have hN := lnN_le (bs s)
  rw [← size_bs] at hN
  obtain ⟨f, rfl⟩ : ∃ f : Nat, fw = (f : Int) := ⟨fw.toNat, by omega⟩
  have htl := told_le W T s (lnN (bs s))
  have hkm : lnN (bs s) * (s.size + 1) ≤ 1048577 * 1048577 := Nat.mul_le_mul (by omega) (by omega)
  unfold ToldLaw at hL
  obtain ⟨L, hLL⟩ : ∃ x, toldL W T s (lnN (bs s)) = x := ⟨_, rfl⟩
  rw [hLL] at HR hL htl
  obtain ⟨n, hn⟩ : ∃ n, L.length = n := ⟨_, rfl⟩
  have HNN := Lib.hid hn
  have HT9 := Lib.hid (fun w hT => hL (n + 9) w (by omega) (by omega) hT)
  have HTM := Lib.hid (fun w hT => hL (1 + f) w (by omega) (by omega) hT)
  have htk : L.take (n + 9) = L := List.take_of_length_le (by omega)
  have HOWN := Lib.hid (fun (X : World) b c ao h => TdAt.of_own (X := X) (b := b) (c := c) (e := 57) (ao := ao) (L := L) h)
  rw [hn, htk, show min (n + 9) n = n by omega, Int.natCast_add, show ((9 : Nat) : Int) = 9 from rfl] at HT9
  rw [hn, Int.natCast_add, show ((1 : Nat) : Int) = 1 from rfl] at HTM
  rw [hn] at HR htl HOWN
  obtain ⟨q, hq⟩ : ∃ q, min (1 + f) n = q := ⟨_, rfl⟩
  rw [hq] at HTM
  have hqn : q ≤ n := by omega
  have hqi : min (n : Int) (1 + (f : Int)) = (q : Int) := by omega
  have hn9 : n ≤ 1048577 * 1048577 := by omega
  have hfl : f ≤ 255 := by omega
  have HQ := Lib.hid hq
  clear hf hL hN htl hkm hLL hn htk hq
  go_enter Tryd.func7, Tryd.ntmps7
  go_upto_region 1 with fail
  go_name_world X hX
  have hR0 : Blk X w.heap.size 23 [.int .i64 W, .int .i64 T] := by rw [← hX]; exact Blk.new w _ _
  have hb0 : Below w.heap.size w X := by rw [← hX]; exact al (Below.refl _ _) _
  clear hX
  have v0 := hR0.cell 0 rfl
  have v1 := hR0.cell 1 rfl
  go_upto_region 2 with (first | (go_at_call 24; (with_reducible refine (HR.out _).mono ?_); rintro e w1 ⟨v, rfl, ho, hb1⟩; obtain ⟨a1, c1, rfl⟩ := own_slice ho))
  have hR1 := hR0.below hb1
  have hB1 := nx hb0 hb1
  have R1 := HOWN.out _ _ _ _ ho
  have hS : w1.cell? ⟨w.heap.size, 0, none⟩ = some (.int .i64 W) ∧ w1.cell? ⟨w.heap.size, 1, none⟩ = some (.int .i64 T) ∧ Below w.heap.size w w1 := ⟨hR1.cell 0 rfl, hR1.cell 1 rfl, hB1⟩
  clear hR0 hR1 ho hb0 hb1 v0 v1
  have hw9 : IntKind.i64.wrap ((n : Int) + 9) = (n : Int) + 9 := by rw [IntKind.wrap_i64]; omega
  have hwf : IntKind.i64.wrap (f : Int) = (f : Int) := by rw [IntKind.wrap_i64]; omega
  have hwg : IntKind.i64.wrap (1 + (f : Int)) = 1 + (f : Int) := by rw [IntKind.wrap_i64]; omega
  have HR1 := Lib.hid R1
  have S0 : Below w1.heap.size w1 w1 := Below.refl _ _
  go_cut [8, 9] from 17 to 28 (fun x y wx => ∃ a8, ∃ c8 : Nat, x = .slice a8 n c8 ∧ Hid (TdAt wx a8 L) ∧ ∃ a9, ∃ c9 : Nat, y = .slice a9 q c9 ∧ Hid (TdAt wx a9 (L.take (1 + f))) ∧ Below w1.heap.size w1 wx)
  case first =>
    go_region_held_law (fun w' => w'.cell? ⟨w.heap.size, 0, none⟩ = some (.int .i64 W) ∧ w'.cell? ⟨w.heap.size, 1, none⟩ = some (.int .i64 T) ∧ Below w.heap.size w w') (first | (with_reducible assumption) | (with_reducible exact two_keep hS (Below.refl _ _).drew) | (with_reducible exact two_keep (by assumption) (by assumption)))
      (first
        | (go_at_call 25; (with_reducible refine (HT9.out _ (tabs_S HT.out (by assumption))).mono ?_); rintro e w3 ⟨a8, c8, rfl, h8, hb8⟩)
        | (go_at_call 25; (with_reducible refine (HTM.out _ (tabs_S HT.out (by assumption))).mono ?_); rintro e w5 ⟨a9, c9, rfl, h9, hb9⟩))
    all_goals (go_wp2_with fail; go_meet)
    all_goals first
      | exact ⟨a8, c8, rfl, Lib.hid (h8.below hb9), a9, c9, rfl, Lib.hid h9, (nx S0.drew hb8).trans (hb9.mono (nx S0.drew hb8).size)⟩
      | exact ⟨a8, c8, rfl, Lib.hid h8, a9, c9, rfl, Lib.hid (h9.below hb8), (nx S0.drew hb9).trans (hb8.mono (nx S0.drew hb9).size)⟩
  case rest =>
    obtain ⟨a8, c8, rfl, H8, a9, c9, rfl, H9, hbc⟩ := hcut
    have RC := Lib.hid (HR1.out.below hbc)
    have hBc := nx hB1 hbc
    clear hS hB1 HR1 S0 hbc
    have hnn : (((n : Nat) : Int) != (n : Int)) = false := by simp
    have hqq : (((q : Nat) : Int) != (q : Int)) = false := by simp
    go_wp2_with fail
    go_loopw [10] (fun i wr => ∃ k : Nat, i = .int .i64 (k : Nat) ∧ k ≤ n ∧ Below wc.heap.size wc wr) (fun i _ => n - (intOf i).toNat)
    case atStart => exact ⟨0, rfl, Nat.zero_le _, Below.refl _ _⟩
    case round =>
      obtain ⟨k, rfl, hk, hb⟩ := hrel
      by_cases hlt : k < n
      · have hki : (k : Int) < (n : Int) := by omega
        obtain ⟨g1, rfl, hg1, hr1⟩ := (RC.out.below hb) (by rw [HNN.out]; omega)
        obtain ⟨g8, rfl, hg8, hr8⟩ := (H8.out.below hb) (by rw [HNN.out]; omega)
        obtain ⟨⟨pi, px⟩, hp⟩ : ∃ p, L[k]? = some p := ⟨_, List.getElem?_eq_getElem (by rw [HNN.out]; exact hlt)⟩
        obtain ⟨d0, d1⟩ := hr1 k _ hp
        obtain ⟨e0, e1⟩ := hr8 k _ hp
        simp only at d0 d1 e0 e1
        obtain ⟨xb, hxb⟩ : ∃ b : ByteArray, ⟨px.toArray⟩ = b := ⟨_, rfl⟩
        rw [hxb] at d1 e1
        have hes := eq_told (pi : Nat) xb
        have hgs := guard_told
        by_cases hkq : k < q
        · have hkf : k < 1 + f := by have := HQ.out; omega
          have hl9 : (L.take (1 + f)).length = min (1 + f) n := by rw [List.length_take, HNN.out]
          obtain ⟨g9, rfl, hg9, hr9⟩ := (H9.out.below hb) (by rw [hl9]; omega)
          obtain ⟨m0, m1⟩ := hr9 k (pi, px) (by rw [List.getElem?_take_of_lt hkf]; exact hp)
          simp only at m0 m1
          rw [hxb] at m1
          have hkd : decide (k < q) = true := decide_eq_true hkq
          have hkqi : (k : Int) < (q : Int) := by omega
          clear hr1 hr8 hr9 hp hxb hl9 hkf
          go_wp2_with fail
          go_quiet (fail)
          go_wp2_with fail
          go_roundw
          case rel => exact ⟨k + 1, by go_num, hlt, below_drewN hb _⟩
          case measure => simp [intOf]; omega
        · have hkd : decide (k < q) = false := decide_eq_false hkq
          clear hr1 hr8 hp hxb
          go_wp2_with fail
          go_quiet (fail)
          go_wp2_with fail
          go_roundw
          case rel => exact ⟨k + 1, by go_num, hlt, below_drewN hb _⟩
          case measure => simp [intOf]; omega
      · obtain rfl : k = n := by omega
        have hd : decide (k < k) = false := decide_eq_false (by omega)
        have hbw := nx hBc hb
        go_wp2_with (first | (go_at_call 16; (with_reducible refine (HW.out _ (HT.out.below hbw (Nat.le_refl _))).mono ?_); rintro e wg ⟨rfl, hbg⟩))
        go_ret
        exact ⟨rfl, nx hbw hbg⟩
end Go.Proofs.YticonolnagcakaaDoor

namespace Go.Proofs.YticonolnagcakaaDoor
open Go.RowKit
attribute [local go_sem] Oper.semAt_some

theorem vnot_nil (W : World) (p q r : Option Addr) : (binOp .eql 97 (.func (.func 52) #[] #[.pointer p, .pointer q, .pointer r]) .nilFunc).run Tryd.prog W = .ok (.bool false) W := by
  kernel_rfl
/-- what told has between two rounds: its two boxes, its row, its loop's record -/
structure TdJ (w : World) (base m l : Nat) (rec : Loop) (L : List (Nat × Bs)) (q : Nat) (V : World) : Prop where
  cm : Boxed V (w.heap.size + 1) 3 (.int .i64 (m : Nat))
  co : ∃ v, Boxed V (w.heap.size + 1 + 1) 53 v ∧ V.ownsRow base 57 2 v q (toldV (L.take q))
  rd : V.heap[w.heap.size + 1 + 1 + 1 + 1 + 1 + 1]? = some (.deferred (some []))
  rc : V.heap[l]? = some (.loop rec)
  bl : Below w.heap.size w V
  sz : base ≤ V.heap.size
theorem TdJ.fr {w : World} {base m l : Nat} {rec : Loop} {L : List (Nat × Bs)} {q : Nat} {V V' : World} (h : TdJ w base m l rec L q V) (h1 : w.heap.size + 1 + 1 + 1 + 1 + 1 + 1 < base) (h2 : l < base) (hf : FrT base V V') : TdJ w base m l rec L q V' := by
  obtain ⟨v, c, ho⟩ := h.co
  refine ⟨hf.same _ _ h.cm (.inl (by omega)), ⟨v, hf.same _ _ c (.inl (by omega)), ho.1, ?_⟩, hf.same _ _ h.rd (.inl (by omega)), hf.same _ _ h.rc (.inl h2),
    h.bl.trans ⟨hf.os, hf.tape, hf.output, hf.size, fun k hk => ?_⟩, Nat.le_trans h.sz hf.size⟩
  · rcases ho.2 with h1 | ⟨g, cap, cur, e1, e2, e3, e4⟩
    · exact .inl h1
    · exact .inr ⟨g, cap, cur, e1, e2, hf.same g _ e3 (.inr ⟨cur, rfl⟩), e4⟩
  · have hlt : k < V.heap.size := by have := h.sz; omega
    rw [Array.getElem?_eq_getElem hlt]
    exact hf.same k _ (Array.getElem?_eq_getElem hlt) (.inl (by omega))
theorem TdJ.put {w : World} {base m l : Nat} {rec : Loop} {L : List (Nat × Bs)} {q : Nat} {V : World} (rec' : Loop) (h : TdJ w base m l rec L q V) (h1 : w.heap.size + 1 + 1 + 1 + 1 + 1 + 1 < l) : TdJ w base m l rec' L q (V.putObj l (.loop rec')) := by
  obtain ⟨v, c, ho⟩ := h.co
  have hlt : l < V.heap.size := (Array.getElem?_eq_some_iff.1 h.rc).1
  refine ⟨(World.putObj_heap_other (by omega)).trans h.cm, ⟨v, (World.putObj_heap_other (by omega)).trans c, ho.1, ?_⟩, (World.putObj_heap_other (by omega)).trans h.rd, World.putObj_heap_same hlt,
    h.bl.grown (grownBy_putObj' _ _ _) (by omega) (fun k e => by cases e; omega), by rw [World.putObj_size]; exact h.sz⟩
  rcases ho.2 with h1 | ⟨g, cap, cur, e1, e2, e3, e4⟩
  · exact .inl h1
  · refine .inr ⟨g, cap, cur, e1, e2, (World.putObj_heap_other (fun e => ?_)).trans e3, e4⟩
    subst e
    rw [h.rc] at e3
    cases e3

theorem own_put {W : World} {base size n D : Nat} {e : TypeId} {v : Value} {xs : List Value} {o : Obj} (o' : Obj) (h : W.ownsRow base e size v n xs) (hD : W.heap[D]? = some o) (hc : o.isCells = false) : (W.putObj D o').ownsRow base e size v n xs := by
  refine ⟨h.1, ?_⟩
  rcases h.2 with h1 | ⟨g, cap, cur, e1, e2, e3, e4⟩
  · exact .inl h1
  · refine .inr ⟨g, cap, cur, e1, e2, (World.putObj_heap_other (fun e => ?_)).trans e3, e4⟩
    subst e
    rw [hD] at e3
    cases e3
    cases hc
theorem own_told {W : World} {base size n k : Nat} {v : Value} {xs : List Value} {o : Obj} (h : W.ownsRow base 57 size v n xs) (ho : W.heap[k]? = some o) (hn : ¬ IsTold o) : some k ≠ v.ownBlock := by
  rcases h.2 with ⟨rfl, _⟩ | ⟨g, cap, cur, rfl, _, hgb, _⟩
  · simp [Value.ownBlock]
  · intro e'
    obtain rfl : k = g := by simpa [Value.ownBlock] using e'
    rw [ho] at hgb
    cases hgb
    exact hn ⟨cur, rfl⟩
theorem KpT.put {n₀ B l : Nat} {X : World} {o : Obj} (o' : Obj) (hl : X.heap[l]? = some o) (hw : o.isWalk = false) (hn : n₀ ≤ l) : KpT n₀ B l X (X.putObj l o') :=
  ⟨⟨⟨by rw [World.putObj_size]; exact Nat.le_refl _, fun k o1 hk hw1 => (World.putObj_heap_other (fun e => by subst e; rw [hk] at hl; cases hl; rw [hw] at hw1; cases hw1)).trans hk⟩,
    ⟨rfl, rfl, rfl, by rw [World.putObj_size]; exact Nat.le_refl _, fun k hk => World.putObj_heap_other (by omega)⟩⟩, fun k _ hk _ h1 _ _ => (World.putObj_heap_other h1).trans hk⟩

set_option maxRecDepth 100000 in
set_option maxHeartbeats 8000000 in
theorem vtold_any (W T : Int) (s : ByteArray) (hs : s.size ≤ 1048576) : ToldLaw W T s := by
  intro m w hm1 hm2 hT
  obtain ⟨i0, hi, hz0, hz1, hz2⟩ := info_parts info_told
  have HT := Lib.hid hT
  have hN := lnN_le (bs s)
  rw [← size_bs] at hN
  have htl := told_le W T s (lnN (bs s))
  have hkm : lnN (bs s) * (s.size + 1) ≤ 1048577 * 1048577 := Nat.mul_le_mul (by omega) (by omega)
  have HTX := Lib.hid (fun l b0 B J Jx X hX h1 h2 h3 h4 h5 h6 h7 h8 h9 h10 => text1_in 8 (by decide) l b0 B w hT s hs W T J Jx X hX h1 h2 h3 h4 h5 h6 h7 h8 h9 h10)
  clear hT
  obtain ⟨L, hL⟩ : ∃ x, toldL W T s (lnN (bs s)) = x := ⟨_, rfl⟩
  rw [hL] at htl HTX ⊢
  obtain ⟨N, hNN⟩ : ∃ n, L.length = n := ⟨_, rfl⟩
  rw [hNN] at htl HTX ⊢
  have HNN := Lib.hid hNN
  have hN9 : N ≤ 1048577 * 1048577 := by omega
  clear hL hNN hkm htl hN
  have hnf := vnot_nil
  refine callsIn_wide.1 (callsIn_of_wp_marks (n := 9) Tryd.func25 rfl trivial (wpIn_wide.2 ?_) rfl)
  simp only [Tryd.ntmps25, List.size_toArray, List.length_cons, List.length_nil, Nat.reduceAdd, Nat.reduceSub, Array.replicate_succ, Array.replicate_zero, List.push_toArray, List.append_toArray, List.nil_append, List.cons_append]
  go_wp2_with (first | (go_at_call 39; (with_reducible refine (ltext_in s W T _).mono ?_); rintro e w2 ⟨rfl, rfl⟩))
  obtain ⟨X, hX⟩ : ∃ X, allocs w [.cells #[.int .i64 W, .int .i64 T] 23, .cells #[.int .i64 (m : Nat)] 3, .cells #[.slice none 0 0] 53, .cells #[.string s] 9, .cells #[.int .i64 W] 3, .cells #[.int .i64 T] 3] = X := ⟨_, rfl⟩
  have b1 : Boxed X (w.heap.size + 1) 3 (.int .i64 (m : Nat)) := by rw [← hX]; exact allocs_get _ w 1 _ rfl
  have b2 : Boxed X (w.heap.size + 1 + 1) 53 (.slice none 0 0) := by rw [← hX]; exact allocs_get _ w 2 _ rfl
  have b3 : Boxed X (w.heap.size + 1 + 1 + 1) 9 (.string s) := by rw [← hX]; exact allocs_get _ w 3 _ rfl
  have b4 : Boxed X (w.heap.size + 1 + 1 + 1 + 1) 3 (.int .i64 W) := by rw [← hX]; exact allocs_get _ w 4 _ rfl
  have b5 : Boxed X (w.heap.size + 1 + 1 + 1 + 1 + 1) 3 (.int .i64 T) := by rw [← hX]; exact allocs_get _ w 5 _ rfl
  have hbX : Below w.heap.size w X := by rw [← hX]; exact allocs_below _ _ _ (Below.refl _ _)
  have hszX : X.heap.size = w.heap.size + 1 + 1 + 1 + 1 + 1 + 1 := by rw [← hX]; exact allocs_size _ w
  simp only [allocs] at hX
  rw [hX]
  clear hX
  refine (wpIn_wide (n := 9)).1 ?_
  refine' range_shell2 rfl (by decide) (gf := 52) (lb := #[.pointer (some ⟨w.heap.size + 1 + 1 + 1, 0, none⟩), .pointer (some ⟨w.heap.size + 1 + 1 + 1 + 1, 0, none⟩), .pointer (some ⟨w.heap.size + 1 + 1 + 1 + 1 + 1, 0, none⟩)]) rfl trivial (enters_of Tryd.func52 (by kernel_rfl) rfl) ?_
  intro fn hfn rec hrec
  rw [hszX]
  obtain ⟨X2, hX2⟩ : ∃ X2, (X.alloc (.deferred (some []))).alloc (.loop (rec .ready none)) = X2 := ⟨_, rfl⟩
  rw [hX2]
  have hb12 : Below X.heap.size X X2 := by rw [← hX2]; exact al (al (Below.refl _ _) _) _
  have hsz2 : X2.heap.size = w.heap.size + 1 + 1 + 1 + 1 + 1 + 1 + 1 + 1 := by rw [← hX2, World.size_alloc, World.size_alloc, hszX]
  have hh : ∀ k o, X.heap[k]? = some o → X2.heap[k]? = some o := fun k o ho => (hb12.block k (Array.getElem?_eq_some_iff.1 ho).1).trans ho
  have j0 : TdJ w X2.heap.size m (w.heap.size + 1 + 1 + 1 + 1 + 1 + 1 + 1) (rec .ready none) L 0 X2 := by
    refine ⟨hh _ _ b1, ⟨_, hh _ _ b2, by rw [List.take_zero]; exact World.ownsRow_nil _ _ _ _⟩, ?_, ?_, nx hbX hb12, Nat.le_refl _⟩
    · rw [← hX2, ← hszX]
      exact (Below.heap_alloc _ _ _ (by simp)).trans (World.alloc_heap_new X _)
    · rw [← hX2, ← hszX]
      have := World.alloc_heap_new (X.alloc (.deferred (some []))) (.loop (rec .ready none))
      rwa [World.size_alloc] at this
  refine (HTX.out (w.heap.size + 1 + 1 + 1 + 1 + 1 + 1 + 1) (w.heap.size + 1 + 1 + 1) (w.heap.size + 1 + 1 + 1)
    (fun q V => q < m ∧ TdJ w X2.heap.size m (w.heap.size + 1 + 1 + 1 + 1 + 1 + 1 + 1) (rec .ready none) L q V)
    (fun q V => q = m ∧ TdJ w X2.heap.size m (w.heap.size + 1 + 1 + 1 + 1 + 1 + 1 + 1) (rec .done (some (.exit 0))) L q V) X2 (nx hbX hb12) (Nat.le_refl _) (by omega) (by omega)
    (fun q V V' h hf => ⟨h.1, h.2.fr (by omega) (by omega) hf⟩) (fun q V V' h hf => ⟨h.1, h.2.fr (by omega) (by omega) hf⟩) ?yy (hh _ _ b3) (hh _ _ b4) (hh _ _ b5) ⟨by omega, j0⟩).mono ?_
  case yy =>
    clear j0 hh hb12 hX2 b1 b2 b3 b4 b5
    rintro q ⟨pi, px⟩ V ⟨hqm, tj⟩ hp
    have HREC := Lib.hid hrec
    clear hrec
    refine round_at2 HREC.out hfn tj.rc rfl ?_
    clear HREC
    have hqN : q < N := by rw [← HNN.out]; exact (List.getElem?_eq_some_iff.1 hp).1
    have HTK := Lib.hid (show toldV (L.take q) ++ toldC (pi, px) = toldV (L.take (q + 1)) by
      obtain ⟨hql, hpe⟩ := List.getElem?_eq_some_iff.1 hp
      rw [List.take_succ_eq_append_getElem hql, toldV_snoc, hpe])
    dsimp only [encT]
    gi_wp2
    refine ⟨tj.rc, ?_⟩
    have tj2 := tj.put (rec .busy none) (by omega)
    have hk2 := KpT.put (n₀ := w.heap.size) (B := w.heap.size + 1 + 1 + 1) (.loop (rec .busy none)) tj.rc rfl (by omega)
    obtain ⟨V2, hV2⟩ : ∃ V2, V.putObj (w.heap.size + 1 + 1 + 1 + 1 + 1 + 1 + 1) (.loop (rec .busy none)) = V2 := ⟨_, rfl⟩
    rw [hV2] at tj2 hk2 ⊢
    obtain ⟨v, co, hrow⟩ := tj2.co
    have c1 := co.cell
    have f1 := co.frozen
    have hszV := tj2.sz
    clear hV2 tj hp
    by_cases hg : q + 1 < m
    · have hg1 : (q : Int) + 1 < (m : Int) := by omega
      have hg2 : decide (m ≤ q + 1) = false := decide_eq_false (by omega)
      gi_wp2_with (gi_at_builtin; refine wpListIn_append_own _ rfl _ _ 53 rfl X2.heap.size 57 i0 (.agg #[.int .i64 0, .string ⟨#[]⟩]) 2 24 Tryd.underlying53 hi hz0 hz1 hz2 rfl (by decide) _ _ _ rfl (hrow.alloc _) ⟨V2.heap.size, 0, none⟩ 1 1 [.int .i64 (pi : Nat), .string ⟨px.toArray⟩] rfl (by simp) (cells_new _ _ _) (told_one _ _) (by unfold maxLen; omega) (by omega) (by rw [World.size_alloc]; exact Nat.le_succ_of_le hszV) ?_; intro v2 w2 hown2 hgrow2 _; obtain ⟨g2, cap2, rfl⟩ := ownsRow_succ hown2; obtain ⟨hv1, hv2, hr2, hk5, hb2, hoth⟩ := app_box (n₀ := w.heap.size) co (by omega) hrow hszV (by omega) hown2 hgrow2; have hc1 := hv1.cell; have hf1 := hv1.frozen; have hc2 := hv2.cell; have c0Y := hoth (w.heap.size + 1) 3 (.int .i64 (m : Nat)) (by omega) (by omega) tj2.cm; have d0Y := c0Y.cell)
      have tj5 : TdJ w X2.heap.size m (w.heap.size + 1 + 1 + 1 + 1 + 1 + 1 + 1) (rec .busy none) L (q + 1) (w2.setCell ⟨w.heap.size + 1 + 1, 0, none⟩ (.slice (some ⟨g2, 0, none⟩) (q + 1) cap2)) :=
        ⟨c0Y, ⟨_, hv2, by rw [← HTK.out]; exact hr2⟩, hk5.same _ _ tj2.rd rfl, hk5.same _ _ tj2.rc rfl, tj2.bl.trans hb2, Nat.le_trans hszV hb2.size⟩
      have hkt5 : KpT w.heap.size (w.heap.size + 1 + 1 + 1) (w.heap.size + 1 + 1 + 1 + 1 + 1 + 1 + 1) V (w2.setCell ⟨w.heap.size + 1 + 1, 0, none⟩ (.slice (some ⟨g2, 0, none⟩) (q + 1) cap2)) := by
        refine hk2.trans ⟨⟨hk5.walks, hb2⟩, fun k o hk h1 _ _ h4 => ?_⟩
        refine (Below.heap_setCell _ _ _ k (by simp only; omega)).trans ?_
        have hlt : k < V2.heap.size := (Array.getElem?_eq_some_iff.1 hk).1
        exact (hgrow2.block k (by rw [World.size_alloc]; omega) (own_told hrow hk h4)).trans ((Below.heap_alloc _ _ _ hlt).trans hk)
      exact ⟨tj5.rc, .inl ⟨rfl, ⟨hg, tj5.put _ (by omega)⟩, hkt5.trans (KpT.put _ tj5.rc rfl (by omega))⟩⟩
    · have hg1 : (m : Int) ≤ (q : Int) + 1 := by omega
      have hg2 : decide (m ≤ q + 1) = true := decide_eq_true (by omega)
      gi_wp2_with (gi_at_builtin; refine wpListIn_append_own _ rfl _ _ 53 rfl X2.heap.size 57 i0 (.agg #[.int .i64 0, .string ⟨#[]⟩]) 2 24 Tryd.underlying53 hi hz0 hz1 hz2 rfl (by decide) _ _ _ rfl (hrow.alloc _) ⟨V2.heap.size, 0, none⟩ 1 1 [.int .i64 (pi : Nat), .string ⟨px.toArray⟩] rfl (by simp) (cells_new _ _ _) (told_one _ _) (by unfold maxLen; omega) (by omega) (by rw [World.size_alloc]; exact Nat.le_succ_of_le hszV) ?_; intro v2 w2 hown2 hgrow2 _; obtain ⟨g2, cap2, rfl⟩ := ownsRow_succ hown2; obtain ⟨hv1, hv2, hr2, hk5, hb2, hoth⟩ := app_box (n₀ := w.heap.size) co (by omega) hrow hszV (by omega) hown2 hgrow2; have hc1 := hv1.cell; have hf1 := hv1.frozen; have hc2 := hv2.cell; have c0Y := hoth (w.heap.size + 1) 3 (.int .i64 (m : Nat)) (by omega) (by omega) tj2.cm; have d0Y := c0Y.cell)
      have tj5 : TdJ w X2.heap.size m (w.heap.size + 1 + 1 + 1 + 1 + 1 + 1 + 1) (rec .busy none) L (q + 1) (w2.setCell ⟨w.heap.size + 1 + 1, 0, none⟩ (.slice (some ⟨g2, 0, none⟩) (q + 1) cap2)) :=
        ⟨c0Y, ⟨_, hv2, by rw [← HTK.out]; exact hr2⟩, hk5.same _ _ tj2.rd rfl, hk5.same _ _ tj2.rc rfl, tj2.bl.trans hb2, Nat.le_trans hszV hb2.size⟩
      have hkt5 : KpT w.heap.size (w.heap.size + 1 + 1 + 1) (w.heap.size + 1 + 1 + 1 + 1 + 1 + 1 + 1) V (w2.setCell ⟨w.heap.size + 1 + 1, 0, none⟩ (.slice (some ⟨g2, 0, none⟩) (q + 1) cap2)) := by
        refine hk2.trans ⟨⟨hk5.walks, hb2⟩, fun k o hk h1 _ _ h4 => ?_⟩
        refine (Below.heap_setCell _ _ _ k (by simp only; omega)).trans ?_
        have hlt : k < V2.heap.size := (Array.getElem?_eq_some_iff.1 hk).1
        exact (hgrow2.block k (by rw [World.size_alloc]; omega) (own_told hrow hk h4)).trans ((Below.heap_alloc _ _ _ hlt).trans hk)
      exact ⟨tj5.rc, .inr ⟨rfl, ⟨by omega, tj5.put _ (by omega)⟩, hkt5.trans (KpT.put _ tj5.rc rfl (by omega))⟩⟩
  clear hrec
  rintro e V ⟨⟨v, rfl⟩, ⟨h1, tj⟩ | ⟨m0, hq, hqe, tj⟩⟩
  · refine ⟨⟨_, rfl⟩, .inl ⟨tj.rc, ?_⟩⟩
    have tj3 := tj.put (rec .exhausted none) (by omega)
    obtain ⟨qq, hqq⟩ : ∃ x, N = x := ⟨N, rfl⟩
    rw [hqq] at tj3
    have HQ := Lib.hid (show qq = min m N by omega)
    have HL := Lib.hid (show L.take m = L.take qq by rw [List.take_of_length_le (by rw [HNN.out]; omega), List.take_of_length_le (by rw [HNN.out]; omega)])
    have HLN := Lib.hid (show (L.take qq).length = qq by rw [List.length_take, HNN.out]; omega)
    clear h1 hqq
    obtain ⟨v, co, hrow⟩ := tj3.co
    obtain ⟨a1, c1, rfl⟩ := own_slice hrow
    have d1 := co.cell
    have hK := tj3.rd
    have hR := Lib.hid (own_put (.deferred none) hrow hK rfl)
    have hB := Lib.hid (tj3.bl.trans (belowK_b (w := w) (Nat.le_refl _) _ _ _ (.deferred none) (by omega) hK rfl rfl))
    clear tj tj3 hrow
    go_wp2_with fail
    refine ⟨by simp, .inl ⟨_, _, rfl, run_takeDeferred hK, ?_⟩⟩
    refine ⟨.slice a1 qq c1, ?_, a1, c1, by rw [← HQ.out], ?_, hB.out⟩
    · simp [results, Tryd.f25, go_sem]
    · rw [HL.out]
      refine TdAt.of_own (b := X2.heap.size) (c := c1) (e := 57) ?_
      rw [HLN.out]
      exact hR.out
  · refine ⟨⟨_, rfl⟩, .inr ⟨.exit 0, tj.rc, ?_⟩⟩
    have tj3 := tj.put (rec .exhausted (some (.exit 0))) (by omega)
    obtain ⟨qq, hqq⟩ : ∃ x, m0 = x := ⟨_, rfl⟩
    rw [hqq] at tj3
    have HQ := Lib.hid (show qq = min m N by omega)
    have HL := Lib.hid (show L.take m = L.take qq by rw [show m = qq by omega])
    have HLN := Lib.hid (show (L.take qq).length = qq by rw [List.length_take, HNN.out]; omega)
    clear hqq hq hqe
    refine wpIn_wide.2 ?_
    obtain ⟨v, co, hrow⟩ := tj3.co
    obtain ⟨a1, c1, rfl⟩ := own_slice hrow
    have d1 := co.cell
    have hK := tj3.rd
    have hR := Lib.hid (own_put (.deferred none) hrow hK rfl)
    have hB := Lib.hid (tj3.bl.trans (belowK_b (w := w) (Nat.le_refl _) _ _ _ (.deferred none) (by omega) hK rfl rfl))
    clear tj tj3 hrow
    go_wp2_with fail
    refine ⟨by simp, .inl ⟨_, _, rfl, run_takeDeferred hK, ?_⟩⟩
    refine ⟨.slice a1 qq c1, ?_, a1, c1, by rw [← HQ.out], ?_, hB.out⟩
    · simp [results, Tryd.f25, go_sem]
    · rw [HL.out]
      refine TdAt.of_own (b := X2.heap.size) (c := c1) (e := 57) ?_
      rw [HLN.out]
      exact hR.out
end Go.Proofs.YticonolnagcakaaDoor

namespace Go.Proofs.YticonolnagcakaaDoor
open Go.RowKit

theorem viewTexts_any (s : ByteArray) (hs : s.size ≤ 1048576) (W T : Int) (fw : Int) (hf : 0 ≤ fw ∧ fw ≤ 255) (w : World) (hT : Tabs w) :
    Calls Tryd.prog 7 #[.string s, .agg #[.int .i64 W, .int .i64 T], .int .u8 fw] w fun e w' => e = .returned (.bool true) ∧ Below w.heap.size w w' :=
  viewTexts_of s hs W T fw hf (vtold_any W T s hs) w hT
end Go.Proofs.YticonolnagcakaaDoor
