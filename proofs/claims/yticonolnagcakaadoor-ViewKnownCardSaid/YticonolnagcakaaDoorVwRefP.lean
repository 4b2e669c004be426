/-
  The document's Where and Place: the contracts.
-/
import Derived.Test.YticonolnagcakaaDoorVwA
import Derived.Test.YticonolnagcakaaDoorVwB
import Derived.Deep.RegionWith
import Derived.StillTailTactics
import Derived.Deep.DrawnRows
import Derived.Deep.DeepCutAuto
import Derived.Lib.ItoaWalk
import Derived.Lib.OthersKept
import Derived.WalkSmall
import Derived.Test.YticonolnagcakaaDoorVwC
namespace Go.Proofs.YticonolnagcakaaDoor
open Go.RowKit

def flat2 (L : List (Int × Int)) : List Int := L.flatMap fun p => [p.1, p.2]
theorem flat2_len (L : List (Int × Int)) : (flat2 L).length = 2 * L.length := by
  induction L with
  | nil => rfl
  | cons p L ih => rw [show flat2 (p :: L) = p.1 :: p.2 :: flat2 L from rfl, List.length_cons, List.length_cons, ih, List.length_cons]; omega
theorem flat2_at (L : List (Int × Int)) : ∀ k, k < L.length → (flat2 L)[2 * k]?.getD 0 = (L[k]?.getD (0, 0)).1 ∧ (flat2 L)[2 * k + 1]?.getD 0 = (L[k]?.getD (0, 0)).2 := by
  induction L with
  | nil => intro k hk; simp at hk
  | cons p L ih =>
    intro k hk
    rw [show flat2 (p :: L) = p.1 :: p.2 :: flat2 L from rfl]
    cases k with
    | zero => exact ⟨rfl, rfl⟩
    | succ k =>
      have := ih k (by simpa using hk)
      rw [show 2 * (k + 1) = 2 * k + 1 + 1 by omega]
      simpa using this
theorem inR_drop (L : List (Int × Int)) (r : Int) (k : Nat) (hk : k < L.length) : inR (L.drop k) r = ((decide ((L[k]?.getD (0, 0)).1 ≤ r) && decide (r ≤ (L[k]?.getD (0, 0)).2)) || inR (L.drop (k + 1)) r) := by
  rw [List.drop_eq_getElem_cons hk, inR_cons, List.getElem?_eq_getElem hk]
  rfl

set_option maxHeartbeats 1000000 in
theorem within_any (ao : Option Addr) (cap : Nat) (L : List (Int × Int)) (hL : L.length ≤ 1000) (r : Int) (w : World) (hR : ReadsI w .i32 ao (flat2 L)) :
    Calls Tryd.prog 66 #[.int .i32 r, .slice ao (flat2 L).length cap] w fun e w' => e = .returned (.bool (inR L r)) ∧ w = w' := by
  have HR := Lib.hid hR
  obtain ⟨N, hN⟩ : ∃ N, (flat2 L).length = N := ⟨_, rfl⟩
  have hNL : N = 2 * L.length := by rw [← hN, flat2_len]
  rw [hN]
  have HN := Lib.hid hN
  have HNL := Lib.hid hNL
  have hN2 : N ≤ 2000 := by omega
  clear hR hN hNL
  go_enter Tryd.func66, Tryd.ntmps66
  go_wp2_with fail
  go_loopw [5] (fun i wr => ∃ j k, Hid (j = 2 * k) ∧ k ≤ L.length ∧ i = .int .i64 (j : Nat) ∧ w = wr ∧ Hid (inR L r = inR (L.drop k) r)) (fun i _ => N - (intOf i).toNat)
  case atStart => exact ⟨0, 0, Lib.hid rfl, Nat.zero_le _, rfl, rfl, Lib.hid rfl⟩
  case round =>
    obtain ⟨j, k, hj, hk, rfl, rfl, hI⟩ := hrel
    by_cases hlt : k < L.length
    · have hne : flat2 L ≠ [] := by intro e; have := HN.out; rw [e] at this; have := HNL.out; simp at *; omega
      rcases HR.out with h0 | ⟨g, o, rfl, hc⟩
      · exact absurd h0 hne
      · have h2 := HNL.out
        have h3 := hj.out
        have e0 := hc j (by rw [HN.out]; omega)
        have e1 := hc (j + 1) (by rw [HN.out]; omega)
        have hat := flat2_at L k hlt
        rw [← h3] at hat
        rw [hat.1] at e0
        rw [hat.2] at e1
        have hD := inR_drop L r k hlt
        obtain ⟨p1, hp1⟩ : ∃ p, (L[k]?.getD (0, 0)).1 = p := ⟨_, rfl⟩
        obtain ⟨p2, hp2⟩ : ∃ p, (L[k]?.getD (0, 0)).2 = p := ⟨_, rfl⟩
        rw [hp1] at e0 hD
        rw [hp2] at e1 hD
        have hki : (j : Int) + 1 < (N : Int) := by omega
        have hki' : (j : Int) < (N : Int) := by omega
        have hk0 : (0 : Int) ≤ (j : Int) := by omega
        have hj2 : j ≤ 2000 := by omega
        have HD := Lib.hid hD
        clear hc hat hp1 hp2 hne h2 h3 hD
        by_cases hb1 : p1 ≤ r
        · by_cases hb2 : r ≤ p2
          · go_wp2_with fail
            go_ret
            refine ⟨ret_bool ?_, rfl⟩
            rw [hI.out, HD.out, decide_eq_true hb1, decide_eq_true hb2]
            rfl
          · have hb2' : p2 < r := by omega
            have HI := Lib.hid (show inR L r = inR (L.drop (k + 1)) r by rw [hI.out, HD.out, decide_eq_true hb1, decide_eq_false hb2]; rfl)
            have HJ := Lib.hid (show j + 2 = 2 * (k + 1) by have := hj.out; omega)
            go_wp2_with fail
            exact ⟨⟨j + 2, k + 1, HJ, hlt, by go_num, trivial, HI⟩, by simp [intOf]; omega⟩
        · have hb1' : r < p1 := by omega
          have HI := Lib.hid (show inR L r = inR (L.drop (k + 1)) r by rw [hI.out, HD.out, decide_eq_false hb1]; rfl)
          have HJ := Lib.hid (show j + 2 = 2 * (k + 1) by have := hj.out; omega)
          go_wp2_with fail
          exact ⟨⟨j + 2, k + 1, HJ, hlt, by go_num, trivial, HI⟩, by simp [intOf]; omega⟩
    · have hki : (N : Int) ≤ (j : Int) + 1 := by have := HNL.out; have := hj.out; omega
      have hj2 : j ≤ 2000 := by have := hj.out; omega
      have HI := Lib.hid (show inR L r = false by rw [hI.out, List.drop_of_length_le (by omega)]; rfl)
      go_wp2_with fail
      go_ret
      exact ⟨ret_bool HI.out.symm, rfl⟩

theorem within_lit (L : List (Int × Int)) (hL : L.length ≤ 1000) (N : Nat) (hN : (flat2 L).length = N) (r : Int) (w : World) (xs : Array Value) (hx : xs = ((flat2 L).map (Value.int .i32)).toArray) (b : Nat) (hb : b = w.heap.size) (cap : Nat) (t : TypeId) :
    Calls Tryd.prog 66 #[.int .i32 r, .slice (some ⟨b, 0, none⟩) N cap] (w.alloc (.cells xs t)) fun e w' => e = .returned (.bool (inR L r)) ∧ w.alloc (.cells xs t) = w' := by
  subst hN
  subst hx
  subst hb
  exact within_any _ cap L hL r _ (reads_new w .i32 (flat2 L) t)

set_option maxRecDepth 10000 in
set_option maxHeartbeats 4000000 in
theorem refwidth_any (r : Int) (w : World) : Calls Tryd.prog 55 #[.int .i32 r] w fun e w' => e = .returned (.int .i64 (widthN r : Nat)) ∧ Below w.heap.size w w' := by
  have HZ := Lib.hid (fun N hN => within_lit zeroL (by decide) N hN r)
  have HW := Lib.hid (fun N hN => within_lit wideL (by decide) N hN r)
  unfold widthN
  go_enter Tryd.func55, Tryd.ntmps55
  cases hz : inR zeroL r
  · rw [hz] at HZ
    cases hw : inR wideL r
    · rw [hw] at HW
      go_wp2_with (first | ((go_at_call 66; (with_reducible refine (HZ.out _ ?_ _ _ ?_ _ ?_ _ _).mono ?_); rfl; rfl; rfl; rintro e w1 ⟨rfl, rfl⟩)) | ((go_at_call 66; (with_reducible refine (HW.out _ ?_ _ _ ?_ _ ?_ _ _).mono ?_); rfl; rfl; (exact (World.size_alloc _ _).symm); rintro e w1 ⟨rfl, rfl⟩)))
      go_ret
      exact ⟨rfl, al (al (Below.refl _ _) _) _⟩
    · rw [hw] at HW
      go_wp2_with (first | ((go_at_call 66; (with_reducible refine (HZ.out _ ?_ _ _ ?_ _ ?_ _ _).mono ?_); rfl; rfl; rfl; rintro e w1 ⟨rfl, rfl⟩)) | ((go_at_call 66; (with_reducible refine (HW.out _ ?_ _ _ ?_ _ ?_ _ _).mono ?_); rfl; rfl; (exact (World.size_alloc _ _).symm); rintro e w1 ⟨rfl, rfl⟩)))
      go_ret
      exact ⟨rfl, al (al (Below.refl _ _) _) _⟩
  · rw [hz] at HZ
    go_wp2_with (first | ((go_at_call 66; (with_reducible refine (HZ.out _ ?_ _ _ ?_ _ ?_ _ _).mono ?_); rfl; rfl; rfl; rintro e w1 ⟨rfl, rfl⟩)) | ((go_at_call 66; (with_reducible refine (HW.out _ ?_ _ _ ?_ _ ?_ _ _).mono ?_); rfl; rfl; (exact (World.size_alloc _ _).symm); rintro e w1 ⟨rfl, rfl⟩)))
    go_ret
    exact ⟨rfl, al (Below.refl _ _) _⟩

/-! ### Fold -/
def flat4 (L : List (Int × Int × Int × Int)) : List Int := L.flatMap fun p => [p.1, p.2.1, p.2.2.1, p.2.2.2]
theorem flat4_len (L : List (Int × Int × Int × Int)) : (flat4 L).length = 4 * L.length := by
  induction L with
  | nil => rfl
  | cons p L ih => rw [show flat4 (p :: L) = p.1 :: p.2.1 :: p.2.2.1 :: p.2.2.2 :: flat4 L from rfl]; simp only [List.length_cons, ih]; omega
theorem flat4_at (L : List (Int × Int × Int × Int)) : ∀ k, k < L.length → (flat4 L)[4 * k]?.getD 0 = (L[k]?.getD (0, 0, 0, 0)).1 ∧ (flat4 L)[4 * k + 1]?.getD 0 = (L[k]?.getD (0, 0, 0, 0)).2.1 ∧
    (flat4 L)[4 * k + 2]?.getD 0 = (L[k]?.getD (0, 0, 0, 0)).2.2.1 ∧ (flat4 L)[4 * k + 3]?.getD 0 = (L[k]?.getD (0, 0, 0, 0)).2.2.2 := by
  induction L with
  | nil => intro k hk; simp at hk
  | cons p L ih =>
    intro k hk
    rw [show flat4 (p :: L) = p.1 :: p.2.1 :: p.2.2.1 :: p.2.2.2 :: flat4 L from rfl]
    cases k with
    | zero => exact ⟨rfl, rfl, rfl, rfl⟩
    | succ k =>
      have := ih k (by simpa using hk)
      rw [show 4 * (k + 1) = 4 * k + 1 + 1 + 1 + 1 by omega]
      simpa using this

theorem wpl_world {P : Program} {ops : Array Oper} {Q : Exit → Act → World → Prop} {rest : List Oper} {o : Oper} {a : Act} {w w' : World} {v : Value} {d : Nat} (hw : Region.wanted o (yielded ops a.tmps) = true) (hd : o.dst = some d)
    (he : (execOp a.eval o).run P w = .ok (.value v) w') (h : wpList P ops Q rest (a.put (some d) v) w') : wpList P ops Q (o :: rest) a w := by
  refine wpList_step fun K hK => ?_
  rw [if_pos hw]
  unfold Oper.wp
  rw [he]
  show K (a.put o.dst v) w'
  rw [hd]
  exact hK _ _ h
end Go.Proofs.YticonolnagcakaaDoor

namespace Go.Proofs.YticonolnagcakaaDoor
open Go.RowKit
attribute [local go_sem ↓] Go.wp_at_zero Go.wp_at_succ

/-- one cell of one element is written -/
theorem rowsF_set (c : Nat) (f : Nat → List Value) (hf : ∀ k, (f k).length = c) (n i j : Nat) (v : Value) (hi : i < n) (hj : j < c) : (rowsF n f).set (i * c + j) v = rowsF n (fun k => if k = i then (f i).set j v else f k) := by
  have hg : ∀ k, ((fun k => if k = i then (f i).set j v else f k) k).length = c := by
    intro k
    simp only
    split
    · rw [List.length_set]; exact hf i
    · exact hf k
  apply List.ext_getElem?
  intro x
  by_cases hx : x < n * c
  · have hc : 0 < c := by omega
    have e : x = x / c * c + x % c := by rw [Nat.mul_comm]; exact (Nat.div_add_mod x c).symm
    have hq : x / c < n := Nat.div_lt_of_lt_mul (by rw [Nat.mul_comm]; exact hx)
    have hr : x % c < c := Nat.mod_lt _ hc
    obtain ⟨q, hq'⟩ : ∃ q, x / c = q := ⟨_, rfl⟩
    obtain ⟨r, hr'⟩ : ∃ r, x % c = r := ⟨_, rfl⟩
    rw [hq', hr'] at e
    rw [hq'] at hq
    rw [hr'] at hr
    subst e
    rw [rowsF_get c _ hg n q r hq hr]
    by_cases he : q = i
    · subst he
      simp only [if_true]
      by_cases hrj : r = j
      · subst hrj
        rw [List.getElem?_set_self (by rw [rowsF_len c n f hf]; exact hx), List.getElem?_set_self (by rw [hf]; exact hr)]
      · rw [List.getElem?_set_ne (by omega), List.getElem?_set_ne (fun e => hrj e.symm), rowsF_get c f hf n q r hq hr]
    · simp only [if_neg he]
      have hne : i * c + j ≠ q * c + r := by
        intro e
        rcases Nat.lt_or_ge i q with h | h
        · have h1 : (i + 1) * c ≤ q * c := Nat.mul_le_mul_right c h
          rw [Nat.succ_mul] at h1
          omega
        · have h1 : (q + 1) * c ≤ i * c := Nat.mul_le_mul_right c (by omega)
          rw [Nat.succ_mul] at h1
          omega
      rw [List.getElem?_set_ne hne, rowsF_get c f hf n q r hq hr]
  · rw [List.getElem?_eq_none (by rw [List.length_set, rowsF_len c n f hf]; omega), List.getElem?_eq_none (by rw [rowsF_len c n _ hg]; omega)]

theorem info_rchar : (Tryd.prog.info? 76).map (fun i => (i.zero, i.size, i.bytes)) = some (some (.agg #[.int .i32 0, .int .i64 0, .int .i64 0, .bool false]), 4, 32) := by kernel_rfl
/-- a character as the document has it; and as it is first laid -/
def rcV (r f t : Nat) (b : Bool) : List Value := [.int .i32 (r : Nat), .int .i64 (f : Nat), .int .i64 (t : Nat), .bool b]
def rcC (l : Bs) (k : Nat) : List Value := rcV ((tk l)[k]?.getD (0, 0)).1 (atN l k) (atN l (k + 1)) (rightR (((tk l)[k]?.getD (0, 0)).1 : Int) ((tk l)[k]?.getD (0, 0)).2)
def rc0 (l : Bs) (k : Nat) : List Value := rcV ((tk l)[k]?.getD (0, 0)).1 (atN l k) 0 false
def rcI (l : Bs) (i k : Nat) : List Value := if k < i then rcC l k else rc0 l k
theorem rcV_one (r f t : Nat) (b : Bool) : ∀ u ∈ rcV r f t b, u.oneCell' = true := by
  intro u hu
  simp [rcV] at hu
  rcases hu with rfl | rfl | rfl | rfl <;> rfl
theorem rcI_len (l : Bs) (i k : Nat) : (rcI l i k).length = 4 := by
  unfold rcI
  split <;> rfl
theorem rcC_len (l : Bs) (k : Nat) : (rcC l k).length = 4 := rfl
theorem rc0_len (l : Bs) (k : Nat) : (rc0 l k).length = 4 := rfl
theorem right_three (l : Bs) (k : Nat) (hk : k < countN l) : rightR (((tk l)[k]?.getD (0, 0)).1 : Int) ((tk l)[k]?.getD (0, 0)).2 = (decide (((tk l)[k]?.getD (0, 0)).1 ≠ 65533) || decide (((tk l)[k]?.getD (0, 0)).2 = 3)) := by
  have hk' : k < (tk l).length := hk
  have hlt := atN_lt l (show k < countN l from hk) (Nat.le_refl _)
  rw [atN_full] at hlt
  have hg := (cut_at l k (Nat.le_of_lt hk)).get hlt
  rw [List.length_take, Nat.min_eq_left (Nat.le_of_lt hk')] at hg
  rw [hg]
  unfold rightR
  rcases dec_cases (l.drop (atN l k)) with ⟨a, h⟩ | ⟨a, h⟩ | ⟨a, h⟩ | ⟨a, h⟩ | ⟨_, _, _, _, h⟩ <;> rw [h]
  · have h1 : by' (l.drop (atN l k)) 0 ≠ 65533 := by omega
    have h2 : ((by' (l.drop (atN l k)) 0 : Int) == 65533) = false := beq_eq_false_iff_ne.2 (by omega)
    simp [h1, h2]
  · obtain ⟨a1, a2, a3, a4, a5⟩ := a
    have h1 : n2 (by' (l.drop (atN l k)) 0) (by' (l.drop (atN l k)) 1) ≠ 65533 := by unfold n2; omega
    have h2 : ((n2 (by' (l.drop (atN l k)) 0) (by' (l.drop (atN l k)) 1) : Int) == 65533) = false := beq_eq_false_iff_ne.2 (by omega)
    simp [h1, h2]
  · simp
  · obtain ⟨a1, a2, a3, a4, a5, a6, a7, a8, a9, a10, a11⟩ := a
    have h1 : n4 (by' (l.drop (atN l k)) 0) (by' (l.drop (atN l k)) 1) (by' (l.drop (atN l k)) 2) (by' (l.drop (atN l k)) 3) ≠ 65533 := by omega
    have h2 : ((n4 (by' (l.drop (atN l k)) 0) (by' (l.drop (atN l k)) 1) (by' (l.drop (atN l k)) 2) (by' (l.drop (atN l k)) 3) : Int) == 65533) = false := beq_eq_false_iff_ne.2 (by omega)
    simp [h1, h2]
  · simp

theorem grown_trans' {a b c : World} {row : Option Nat} (h : a.grownBy b row) (k : b.grownBy c row) : a.grownBy c row :=
  ⟨k.os.trans h.os, k.tape.trans h.tape, k.output.trans h.output, Nat.le_trans h.size k.size, fun i hi hr => (k.block i (Nat.lt_of_lt_of_le hi h.size) hr).trans (h.block i hi hr)⟩
/-- the characters while the second round goes over them: the one at k has so much laid -/
def rcJ (l : Bs) (k t : Nat) (b : Bool) (q : Nat) : List Value := if q = k then rcV ((tk l)[k]?.getD (0, 0)).1 (atN l k) t b else rcI l k q
theorem rcJ_len (l : Bs) (k t : Nat) (b : Bool) (q : Nat) : (rcJ l k t b q).length = 4 := by
  unfold rcJ
  split
  · rfl
  · exact rcI_len l k q
theorem rcJ_start (l : Bs) (k n : Nat) : rowsF n (rcI l k) = rowsF n (rcJ l k 0 false) := by
  refine rowsF_congr n _ _ (fun q _ => ?_)
  unfold rcJ
  by_cases h : q = k
  · subst h
    rw [if_pos rfl]
    unfold rcI
    rw [if_neg (Nat.lt_irrefl _)]
    rfl
  · rw [if_neg h]
theorem rcJ_end (l : Bs) (k n : Nat) : rowsF n (rcJ l k (atN l (k + 1)) (rightR (((tk l)[k]?.getD (0, 0)).1 : Int) ((tk l)[k]?.getD (0, 0)).2)) = rowsF n (rcI l (k + 1)) := by
  refine rowsF_congr n _ _ (fun q _ => ?_)
  unfold rcJ rcI
  by_cases h : q = k
  · subst h
    rw [if_pos rfl, if_pos (Nat.lt_succ_self _)]
    rfl
  · rw [if_neg h]
    by_cases h2 : q < k
    · rw [if_pos h2, if_pos (by omega)]
    · rw [if_neg h2, if_neg (by omega)]
theorem rcJ_cell {X : World} {base : Nat} {e : TypeId} {G C N k t : Nat} {b : Bool} {l : Bs} (h : X.ownsRow base e 4 (.slice (some ⟨G, 0, none⟩) N C) N (rowsF N (rcJ l k t b))) (q j : Nat) (hq : q < N) (hj : j < 4) : X.cell? ⟨G, q * 4 + j, none⟩ = (rcJ l k t b q)[j]? := by
  have hm : (q + 1) * 4 ≤ N * 4 := Nat.mul_le_mul_right 4 hq
  rw [h.cellAt (q * 4 + j) (by omega), rowsF_get 4 _ (rcJ_len l k t b) N q j hq hj]
theorem rcJ_set {X Y : World} {base : Nat} {e : TypeId} {G C N k t t' j : Nat} {b b' : Bool} {l : Bs} {u : Value} (h : X.ownsRow base e 4 (.slice (some ⟨G, 0, none⟩) N C) N (rowsF N (rcJ l k t b))) (hk : k < N) (hj : j < 4)
    (hu : (rcV ((tk l)[k]?.getD (0, 0)).1 (atN l k) t b).set j u = rcV ((tk l)[k]?.getD (0, 0)).1 (atN l k) t' b') (hY : X.setCell ⟨G, k * 4 + j, none⟩ u = Y) :
    Y.ownsRow base e 4 (.slice (some ⟨G, 0, none⟩) N C) N (rowsF N (rcJ l k t' b')) ∧ X.grownBy Y (some G) := by
  obtain ⟨h1, h2⟩ := h.stored (k * 4 + j) u
  subst hY
  refine ⟨?_, h2⟩
  rw [rowsF_set 4 _ (rcJ_len l k t b) N k j u hk hj] at h1
  rw [rowsF_congr N (rcJ l k t' b') _ (fun q _ => ?_)]
  · exact h1
  · by_cases hq : q = k
    · subst hq
      rw [if_pos rfl]
      unfold rcJ
      rw [if_pos rfl, if_pos rfl]
      exact hu.symm
    · rw [if_neg hq]
      unfold rcJ
      rw [if_neg hq, if_neg hq]

set_option maxRecDepth 100000 in
set_option maxHeartbeats 4000000 in
theorem refchars_any (s : ByteArray) (hs : s.size ≤ 67108864) (w : World) :
    Calls Tryd.prog 42 #[.string s] w fun e w' => ∃ v, e = .returned v ∧ w'.ownsRow w.heap.size 76 4 v (countN (bs s)) (rowsF (countN (bs s)) (rcC (bs s))) ∧ Below w.heap.size w w' := by
  obtain ⟨i0, hi, hz0, hz1, hz2⟩ := info_parts info_rchar
  have hle : countN (bs s) ≤ s.size := by rw [size_bs]; exact countN_le _
  obtain ⟨l, hl⟩ : ∃ l, bs s = l := ⟨_, rfl⟩
  have HL := Lib.hid hl
  have HLEN := Lib.hid (show l.length = s.size by rw [← hl, size_bs])
  rw [hl] at hle ⊢
  obtain ⟨N, hN⟩ : ∃ N, countN l = N := ⟨_, rfl⟩
  rw [hN] at hle ⊢
  have HN := Lib.hid hN
  clear hl hN
  go_enter Tryd.func42, Tryd.ntmps42
  go_wp2_with fail
  go_loopw [3] (fun v wr => ∃ done p, Cut l done p ∧ wr.heap[w.heap.size]? = some (.stringIter s p) ∧ wr.ownsRow (w.heap.size + 1) 76 4 v done.length (rowsF done.length (rc0 l)) ∧ Below w.heap.size w wr ∧ w.heap.size + 1 ≤ wr.heap.size) (fun _ wr => s.size - wr.iterPos w.heap.size)
  case atStart => exact ⟨[], 0, Cut.zero _, World.iter_heap _ _ _, World.ownsRow_nil _ _ _ _, al (Below.refl _ _) _, by show _ ≤ (w.alloc (.stringIter s 0)).heap.size; rw [World.size_alloc]; exact Nat.le_refl _⟩
  case round =>
    obtain ⟨done, p, hc, hit, hown, hb, hsz⟩ := hrel
    have hkp := hc.len_le
    have hpl := hc.1
    have hll := HLEN.out
    by_cases hp : p < s.size
    · have hp' : p < l.length := by omega
      have hnx := fun ty => Lib.run_next_any_at (P := Tryd.prog) wr w.heap.size s p ty hit hp
      rw [decode_bs, HL.out] at hnx
      have hcs := hc.step hp'
      have hget := hc.get hp'
      have hat := hc.at'
      have hw := (wid_bounds (l.drop p)).1
      have hle2 : p + (Lib.decodeL (l.drop p)).2 ≤ l.length := hcs.1
      obtain ⟨d, hd⟩ : ∃ d, d = Lib.decodeL (l.drop p) := ⟨_, rfl⟩
      rw [← hd] at hnx hcs hget hw hle2
      obtain ⟨r, n⟩ := d
      simp only at hnx hcs hw hle2
      have HX := Lib.hid (show rowsF done.length (rc0 l) ++ rcV r p 0 false = rowsF (done.length + 1) (rc0 l) by rw [rowsF_succ]; unfold rc0; rw [hget, hat])
      have hbi : Below w.heap.size wr (wr.iterAt w.heap.size s (p + n)) := Lib.below_iterAt (Below.refl _ _) (Nat.le_refl _) s (p + n)
      have hit2 := Lib.iterAt_heap wr w.heap.size s p (p + n) hit
      have hsv : (wr.iterAt w.heap.size s (p + n)).heap.size = wr.heap.size := Lib.iterAt_size _ _ _ _
      have hown2 : (wr.iterAt w.heap.size s (p + n)).ownsRow (w.heap.size + 1) 76 4 u3 done.length (rowsF done.length (rc0 l)) := by
        refine hown.kept (row := some w.heap.size) ⟨rfl, rfl, rfl, hbi.size, fun j _ hj => Lib.iterAt_other _ _ j s _ (fun e => hj (by rw [e]))⟩ ?_
        rcases e : u3.ownBlock with _ | q
        · exact .inl rfl
        · refine .inr fun e' => ?_
          injection e' with e'
          have := (hown.lt q e).1
          omega
      have HIP := Lib.hid (show wr.iterPos w.heap.size = p from iterPos_of hit)
      have hbV := hb.trans hbi
      obtain ⟨V, hV⟩ : ∃ V, wr.iterAt w.heap.size s (p + n) = V := ⟨_, rfl⟩
      rw [hV] at hnx hit2 hown2 hbV hsv
      have hszV : w.heap.size + 1 ≤ V.heap.size := by omega
      clear hsv hsz
      have HCS := Lib.hid hcs
      have HHK := Lib.hid (And.intro hkp (And.intro hle2 hw))
      have hk9 : done.length ≤ 67108864 := by omega
      clear hV hbi hown hit hd hget hat hc hcs hb hp' hkp hpl hll hle2
      go_wp2_with (at_builtin; refine wpList_append_own _ rfl _ _ 69 rfl (w.heap.size + 1) 76 i0 (.agg #[.int .i32 0, .int .i64 0, .int .i64 0, .bool false]) 4 32 Tryd.underlying69 hi hz0 hz1 hz2 rfl (by decide) u3 _ _ rfl (hown2.alloc _) ⟨V.heap.size, 0, none⟩ 1 1 (rcV r p 0 false) rfl (by simp [rcV]) (cells_new _ _ _) (rcV_one _ _ _ _) (by unfold maxLen; omega) (by omega) (by simp; omega) ?_; intro v' w2 hown' hgrow _)
      rw [HX.out] at hown'
      have hne : some w.heap.size ≠ u3.ownBlock := fun e => by have := (hown2.lt _ e.symm).1; omega
      have hit3 : w2.heap[w.heap.size]? = some (.stringIter s (p + n)) := by
        rw [hgrow.block _ (by rw [World.size_alloc]; omega) hne]
        exact (Below.heap_alloc V _ _ (by omega)).trans hit2
      have hs2 := hgrow.size
      rw [World.size_alloc] at hs2
      obtain ⟨h1, h2, h3⟩ := HHK.out
      refine ⟨⟨_, _, HCS.out, hit3, by rw [List.length_append, List.length_singleton]; exact hown', (al hbV _).grown hgrow (by have := hbV.size; rw [World.size_alloc]; omega) (fun q e => by have := (hown2.lt q e).1; omega), by omega⟩, ?_⟩
      rw [iterPos_of hit3, HIP.out]
      omega
    · have hnx := fun ty => Lib.run_next_end_at (P := Tryd.prog) wr w.heap.size s p ty hit hp
      have hE := (hc.end' (by omega)).1
      have hdl : done.length = N := by rw [hE]; exact HN.out
      have hro : wr.ownsRow (w.heap.size + 1) 76 4 u3 N (rowsF N (rcI l 0)) := by
        rw [← hdl]
        rw [rowsF_congr done.length (rcI l 0) (rc0 l) (fun q _ => by unfold rcI; rw [if_neg (Nat.not_lt_zero _)])]
        exact hown
      clear hc hE hown hit hdl
      go_wp2_with fail
      go_loopw [6] (fun i wx => ∃ k : Nat, i = .int .i64 (k : Nat) ∧ k ≤ N ∧ wx.ownsRow (w.heap.size + 1) 76 4 u3 N (rowsF N (rcI l k)) ∧ Below w.heap.size w wx) (fun i _ => N - (intOf i).toNat)
      case atStart => exact ⟨0, rfl, Nat.zero_le _, hro, hb⟩
      case round =>
        clear hro hb
        obtain ⟨k, rfl, hk, hro, hb⟩ := hrel
        obtain ⟨ao, C, rfl⟩ : ∃ ao C, u3 = .slice ao N C := by
          rcases hro.2 with ⟨h1, h2⟩ | ⟨g, cap, cur, h1, _⟩
          · exact ⟨_, _, by rw [h1, h2]⟩
          · exact ⟨_, _, h1⟩
        by_cases hlt : k < N
        · obtain ⟨G, rfl, hG⟩ : ∃ G, ao = some ⟨G, 0, none⟩ ∧ w.heap.size + 1 ≤ G := by
            rcases hro.2 with ⟨_, h2⟩ | ⟨g, cap, cur, h1, hg, _⟩
            · omega
            · injection h1 with h1 _ _
              exact ⟨g, h1, hg⟩
          rw [rcJ_start] at hro
          have hs1 := HLEN.out
          have hN := HN.out
          have hright := right_three l k (by rw [hN]; exact hlt)
          have hsucc := atN_succ l k (by rw [hN]; exact hlt)
          have hlast : ¬ k + 1 < N → atN l (k + 1) = s.size := by
            intro h
            rw [← hs1, show k + 1 = countN l by omega]
            exact atN_full l
          have hatb : atN l (k + 1) ≤ s.size := by
            rw [← hs1]
            exact (cut_at l (k + 1) (by omega)).1
          have HSU := Lib.hid (And.intro hright (And.intro hsucc hlast))
          have hro2 := hro
          have c2 := rcJ_cell hro k 2 hlt (by omega)
          have f2 := hro.frozenAt (k * 4 + 2)
          have hc2 : wr.cell? ⟨G, k * 4 + 2, none⟩ = some (.int .i64 ((0 : Nat) : Int)) := by rw [c2]; unfold rcJ; rw [if_pos rfl]; rfl
          have hki : (k : Int) < (N : Int) := by omega
          clear c2 hright hsucc hlast hro2
          go_upto_region 10 with fail
          go_name_world X9 hX9
          obtain ⟨hr9, hg9⟩ := rcJ_set (t' := s.size) (b' := false) hro hlt (j := 2) (by omega) rfl hX9
          clear hX9 hro hc2 f2
          have hgr : ∀ {wx}, wr.grownBy wx (some G) → Below w.heap.size w wx := fun h => hb.grown h hb.size (fun q e => by injection e with e; omega)
          go_upto_if 35 with fail
          go_cut [36] from 36 to 45 (fun _ wx => wx.ownsRow (w.heap.size + 1) 76 4 (.slice (some ⟨G, 0, none⟩) N C) N (rowsF N (rcJ l k (atN l (k + 1)) false)) ∧ wr.grownBy wx (some G))
          case first =>
            by_cases hk1 : k + 1 < N
            · have hk1i : (k : Int) + 1 < (N : Int) := by omega
              have c1 := rcJ_cell hr9 (k + 1) 1 hk1 (by omega)
              have hc1 : X9.cell? ⟨G, (k + 1) * 4 + 1, none⟩ = some (.int .i64 ((atN l (k + 1) : Nat) : Int)) := by
                rw [c1]
                unfold rcJ
                rw [if_neg (by omega)]
                unfold rcI
                rw [if_neg (by omega)]
                rfl
              have c2 := rcJ_cell hr9 k 2 hlt (by omega)
              have hc2 : X9.cell? ⟨G, k * 4 + 2, none⟩ = some (.int .i64 ((s.size : Nat) : Int)) := by rw [c2]; unfold rcJ; rw [if_pos rfl]; rfl
              have f2 := hr9.frozenAt (k * 4 + 2)
              clear c1 c2
              go_wp2_with fail
              go_meet
              obtain ⟨hr11, hg11⟩ := rcJ_set (t' := atN l (k + 1)) (b' := false) hr9 hlt (j := 2) (by omega) rfl rfl
              exact ⟨hr11, grown_trans' hg9 hg11⟩
            · have hk1i : ¬ (k : Int) + 1 < (N : Int) := by omega
              go_wp2_with fail
              go_meet
              rw [HSU.out.2.2 hk1]
              exact ⟨hr9, hg9⟩
          case rest =>
            obtain ⟨hr, hg⟩ := hcut
            clear hr9 hg9
            have hbw := hgr hg
            clear hgr hg
            obtain ⟨hright, hsucc, -⟩ := HSU.out
            have c0 := rcJ_cell hr k 0 hlt (by omega)
            have c1 := rcJ_cell hr k 1 hlt (by omega)
            have c2 := rcJ_cell hr k 2 hlt (by omega)
            have c3 := rcJ_cell hr k 3 hlt (by omega)
            have f3 := hr.frozenAt (k * 4 + 3)
            have hx0 : wc.cell? ⟨G, k * 4, none⟩ = some (.int .i32 ((((tk l)[k]?.getD (0, 0)).1 : Nat) : Int)) := by
              rw [Nat.add_zero] at c0
              rw [c0]; unfold rcJ; rw [if_pos rfl]; rfl
            have hx1 : wc.cell? ⟨G, k * 4 + 1, none⟩ = some (.int .i64 ((atN l k : Nat) : Int)) := by rw [c1]; unfold rcJ; rw [if_pos rfl]; rfl
            have hx2 : wc.cell? ⟨G, k * 4 + 2, none⟩ = some (.int .i64 ((atN l (k + 1) : Nat) : Int)) := by rw [c2]; unfold rcJ; rw [if_pos rfl]; rfl
            have hx3 : wc.cell? ⟨G, k * 4 + 3, none⟩ = some (.bool false) := by rw [c3]; unfold rcJ; rw [if_pos rfl]; rfl
            have hend := fun Y (hY : wc.setCell ⟨G, k * 4 + 3, none⟩ (.bool (rightR (((tk l)[k]?.getD (0, 0)).1 : Int) ((tk l)[k]?.getD (0, 0)).2)) = Y) => rcJ_set (t' := atN l (k + 1)) (b' := rightR (((tk l)[k]?.getD (0, 0)).1 : Int) ((tk l)[k]?.getD (0, 0)).2) hr hlt (j := 3) (by omega) rfl hY
            rw [rcJ_end] at hend
            obtain ⟨n, hn⟩ : ∃ x, ((tk l)[k]?.getD (0, 0)).2 = x := ⟨_, rfl⟩
            rw [hn] at hright hsucc hend
            obtain ⟨r, hr'⟩ : ∃ x, ((tk l)[k]?.getD (0, 0)).1 = x := ⟨_, rfl⟩
            rw [hr'] at hright hx0 hend
            rw [hright] at hend
            obtain ⟨a, ha⟩ : ∃ x, atN l k = x := ⟨_, rfl⟩
            rw [ha] at hsucc hx1
            rw [hsucc] at hx2 hatb
            have HEND := Lib.hid hend
            clear hend hright hsucc hn hr' ha c0 c1 c2 c3 hr HSU
            have hwr : IntKind.i64.wrap (((a + n : Nat) : Int) - (a : Int)) = (n : Int) := by rw [IntKind.wrap_i64]; omega
            have hwr2 : IntKind.i64.wrap ((a : Int) + (n : Int) - (a : Int)) = (n : Int) := by rw [IntKind.wrap_i64]; omega
            have HT : Hid (∀ V, (∃ b, b = (decide (r ≠ 65533) || decide (n = 3)) ∧ V = (wc.setCell ⟨G, k * 4 + 3, none⟩ (.bool b)).drew) → (∃ k_1 : Nat, Value.int IntKind.i64 ((k : Int) + 1) = .int .i64 (k_1 : Nat) ∧ k_1 ≤ N ∧ V.ownsRow (w.heap.size + 1) 76 4 (.slice (some ⟨G, 0, none⟩) N C) N (rowsF N (rcI l k_1)) ∧ Below w.heap.size w V) ∧ N - (intOf (.int .i64 ((k : Int) + 1))).toNat < N - (intOf (.int .i64 (k : Nat))).toNat) := by
              refine Lib.hid ?_
              rintro V ⟨b, rfl, rfl⟩
              obtain ⟨h4, h5⟩ := HEND.out _ rfl
              exact ⟨⟨k + 1, by go_num, hlt, h4, (hbw.grown h5 hbw.size (fun q e => by injection e with e; omega)).drew⟩, by simp [intOf]; omega⟩
            clear HEND
            by_cases h1 : r = 65533
            · have hy0 : wc.cell? ⟨G, k * 4, none⟩ = some (.int .i32 65533) := by rw [hx0, h1]; rfl
              by_cases h3 : n = 3
              · have hd3 : ((n : Int) == 3) = true := beq_iff_eq.2 (by omega)
                have hT2 := Lib.hid (fun V hV => HT.out V ⟨true, by rw [h1, h3]; rfl, hV⟩)
                clear h1 h3 hx0 HT
                go_wp2_with fail
                refine wp_region_still_tail 24 (by kernel_rfl) (by kernel_rfl) ?_
                simp only [List.take_succ_cons, List.take_zero, List.drop_succ_cons, List.drop_zero]
                iterate 24 still_step
                refine wpStill_nil ?_
                show wpList _ _ _ _ _ wc.drew
                go_wp2_with fail
                exact hT2.out _ rfl
              · have hd3 : ((n : Int) == 3) = false := beq_eq_false_iff_ne.2 (by omega)
                have hT2 := Lib.hid (fun V hV => HT.out V ⟨false, by rw [h1, decide_eq_false h3]; rfl, hV⟩)
                clear h1 h3 hx0 HT
                go_wp2_with fail
                refine wp_region_still_tail 24 (by kernel_rfl) (by kernel_rfl) ?_
                simp only [List.take_succ_cons, List.take_zero, List.drop_succ_cons, List.drop_zero]
                iterate 24 still_step
                refine wpStill_nil ?_
                show wpList _ _ _ _ _ wc.drew
                go_wp2_with fail
                exact hT2.out _ rfl
            · have hd1 : ((r : Int) == 65533) = false := beq_eq_false_iff_ne.2 (by omega)
              have hT2 := Lib.hid (fun V hV => HT.out V ⟨true, by simp [h1], hV⟩)
              obtain ⟨z, hz⟩ : ∃ z : Int, ((r : Nat) : Int) = z := ⟨_, rfl⟩
              rw [hz] at hx0 hd1
              have hq : ¬ z = 65533 := by omega
              clear h1 HT hz hd1
              go_wp2_with fail
              refine wp_region_still_tail 24 (by kernel_rfl) (by kernel_rfl) ?_
              simp only [List.take_succ_cons, List.take_zero, List.drop_succ_cons, List.drop_zero]
              iterate 24 still_step
              refine wpStill_nil ?_
              show wpList _ _ _ _ _ wc.drew
              go_wp2_with fail
              exact hT2.out _ rfl
        · obtain rfl : k = N := by omega
          have hd : decide (k < k) = false := decide_eq_false (by omega)
          rw [rowsF_congr k (rcI l k) (rcC l) (fun q hq => by unfold rcI; rw [if_pos hq])] at hro
          go_wp2_with fail
          go_ret
          exact ⟨_, rfl, owns_base hro (Nat.le_succ _), hb⟩
end Go.Proofs.YticonolnagcakaaDoor

namespace Go.Proofs.YticonolnagcakaaDoor
open Go.RowKit

set_option maxHeartbeats 1000000 in
theorem reftakes_any (W T : Nat) (hW : W ≤ 1024) (hT : 1 ≤ T) (hT2 : T ≤ 16) (b : Bool) (r col : Nat) (hcol : col ≤ 1026) (f t : Int) (w : World) :
    Calls Tryd.prog 43 #[.agg #[.int .i32 (r : Nat), .int .i64 f, .int .i64 t, .bool b], .int .i64 (col : Nat), .int .i64 (W : Nat), .int .i64 (T : Nat)] w fun e w' => e = .returned (.int .i64 (takesB W T b r col : Nat)) ∧ Below w.heap.size w w' := by
  have HWD := Lib.hid (fun w => refwidth_any (r : Int) w)
  cases hbb : b
  · rw [show takesB W T false r col = 1 from if_pos rfl]
    subst hbb
    go_enter Tryd.func43, Tryd.ntmps43
    go_upto_region 1 with fail
    go_name_world X hX
    have hc0 : Blk X w.heap.size 76 [.int .i32 (r : Nat), .int .i64 f, .int .i64 t, .bool false] := by rw [← hX]; exact Blk.new w _ _
    have hb0 : Below w.heap.size w X := by rw [← hX]; exact al (Below.refl _ _) _
    have c3 := hc0.cell 3 rfl
    clear hX
    go_wp2_with fail
    go_ret
    exact ⟨rfl, hb0⟩
  · have e1 : takesB W T true r col = if r = 9 then max 1 (min ((col / T + 1) * T) W - col) else widthN (r : Int) := if_neg (by simp)
    subst hbb
    by_cases h9 : r = 9
    · subst h9
      rw [if_pos rfl] at e1
      rw [e1]
      clear e1 HWD
      obtain ⟨q, hq⟩ : ∃ q, col / T = q := ⟨_, rfl⟩
      have hq1 : (col : Int) / (T : Int) = (q : Int) := by rw [← hq]; rfl
      have hq2 : (col : Int).tdiv (T : Int) = (q : Int) := by rw [Int.tdiv_eq_ediv_of_nonneg (by omega)]; exact hq1
      have hqT : (q + 1) * T ≤ col + T := by
        rw [← hq, Nat.succ_mul]
        have := Nat.div_mul_le_self col T
        omega
      have hq3 : ((q : Int) + 1) * (T : Int) = (((q + 1) * T : Nat) : Int) := by rw [Int.natCast_mul, Int.natCast_add]; rfl
      rw [hq]
      obtain ⟨m, hm⟩ : ∃ m, (q + 1) * T = m := ⟨_, rfl⟩
      rw [hm] at hqT hq3 ⊢
      have hT0 : (T : Int) ≠ 0 := by omega
      have hTn : T ≠ 0 := by omega
      have hqm : q ≤ m := by
        rw [← hm, Nat.succ_mul]
        have := Nat.le_mul_of_pos_right q (show 0 < T by omega)
        omega
      have w1 : IntKind.i64.wrap (q : Int) = (q : Int) := by rw [IntKind.wrap_i64]; omega
      clear hq hm
      obtain ⟨mx, hmx⟩ : ∃ mx, max 1 (min m W - col) = mx := ⟨_, rfl⟩
      rw [hmx]
      have HMX := Lib.hid hmx
      clear hmx
      go_enter Tryd.func43, Tryd.ntmps43
      go_upto_region 1 with fail
      go_name_world X hX
      have hc0 : Blk X w.heap.size 76 [.int .i32 9, .int .i64 f, .int .i64 t, .bool true] := by rw [← hX]; exact Blk.new w _ _
      have hb0 : Below w.heap.size w X := by rw [← hX]; exact al (Below.refl _ _) _
      have c0 := hc0.cell 0 rfl
      have c3 := hc0.cell 3 rfl
      clear hX
      rcases Nat.lt_or_ge W m with hWm | hWm
      · go_wp2_with fail
        all_goals
          go_ret
          refine ⟨ret_int ?_, hb0⟩
          have := HMX.out
          omega
      · go_wp2_with fail
        all_goals
          go_ret
          refine ⟨ret_int ?_, hb0⟩
          have := HMX.out
          omega
    · rw [if_neg h9] at e1
      rw [e1]
      clear e1
      have hd' : ((r : Int) == 9) = false := beq_eq_false_iff_ne.2 (by omega)
      clear h9
      go_enter Tryd.func43, Tryd.ntmps43
      go_upto_region 1 with fail
      go_name_world X hX
      have hc0 : Blk X w.heap.size 76 [.int .i32 (r : Nat), .int .i64 f, .int .i64 t, .bool true] := by rw [← hX]; exact Blk.new w _ _
      have hb0 : Below w.heap.size w X := by rw [← hX]; exact al (Below.refl _ _) _
      have c0 := hc0.cell 0 rfl
      have c3 := hc0.cell 3 rfl
      clear hX
      go_wp2_with (first | (go_at_call 55; (with_reducible refine (HWD.out _).mono ?_); rintro e w2 ⟨rfl, hb2⟩))
      go_ret
      exact ⟨rfl, nx hb0 hb2⟩

theorem refwrong28_any (W T : Int) (w : World) : Calls Tryd.prog 28 #[.int .i64 W, .int .i64 T] w fun e w' => e = .returned (.bool (!goodV W T)) ∧ w = w' := by
  unfold goodV
  by_cases h1 : 1 ≤ W
  · by_cases h2 : W ≤ 1024
    · by_cases h3 : 1 ≤ T
      · by_cases h4 : T ≤ 16
        · rw [decide_eq_true (show 1 ≤ W ∧ W ≤ 1024 ∧ 1 ≤ T ∧ T ≤ 16 from ⟨h1, h2, h3, h4⟩)]
          go_enter Tryd.func28, Tryd.ntmps28
          go_wp2_with fail
          go_ret
          exact ⟨ret_bool (by first | rfl | (simp; omega) | simp_all), rfl⟩
        · rw [decide_eq_false (show ¬ (1 ≤ W ∧ W ≤ 1024 ∧ 1 ≤ T ∧ T ≤ 16) from fun h => h4 h.2.2.2)]
          go_enter Tryd.func28, Tryd.ntmps28
          go_wp2_with fail
          go_ret
          exact ⟨ret_bool (by first | rfl | (simp; omega) | simp_all), rfl⟩
      · rw [decide_eq_false (show ¬ (1 ≤ W ∧ W ≤ 1024 ∧ 1 ≤ T ∧ T ≤ 16) from fun h => h3 h.2.2.1)]
        go_enter Tryd.func28, Tryd.ntmps28
        go_wp2_with fail
        go_ret
        exact ⟨ret_bool (by first | rfl | (simp; omega) | simp_all), rfl⟩
    · rw [decide_eq_false (show ¬ (1 ≤ W ∧ W ≤ 1024 ∧ 1 ≤ T ∧ T ≤ 16) from fun h => h2 h.2.1)]
      go_enter Tryd.func28, Tryd.ntmps28
      go_wp2_with fail
      go_ret
      exact ⟨ret_bool (by first | rfl | (simp; omega) | simp_all), rfl⟩
  · rw [decide_eq_false (show ¬ (1 ≤ W ∧ W ≤ 1024 ∧ 1 ≤ T ∧ T ≤ 16) from fun h => h1 h.1)]
    go_enter Tryd.func28, Tryd.ntmps28
    go_wp2_with fail
    go_ret
    exact ⟨ret_bool (by first | rfl | (simp; omega) | simp_all), rfl⟩
theorem refbare_any (r : Int) (w : World) : Calls Tryd.prog 35 #[.int .i32 r] w fun e w' => e = .returned (.bool (hideV r)) ∧ w = w' := by
  rw [← bare_hide]
  unfold bareV
  by_cases h1 : r < 32
  · rw [decide_eq_true h1]
    go_enter Tryd.func35, Tryd.ntmps35
    go_wp2_with fail
    go_ret
    exact ⟨rfl, rfl⟩
  · rw [decide_eq_false h1]
    by_cases h2 : 127 ≤ r
    · by_cases h3 : r < 160
      · rw [decide_eq_true h2, decide_eq_true h3]
        go_enter Tryd.func35, Tryd.ntmps35
        go_wp2_with fail
        go_ret
        exact ⟨rfl, rfl⟩
      · rw [decide_eq_true h2, decide_eq_false h3]
        go_enter Tryd.func35, Tryd.ntmps35
        go_wp2_with fail
        all_goals
          go_ret
          exact ⟨ret_bool (by first | rfl | simp_all | (simp; omega) | (rename_i hd; rw [beq_eq_false_iff_ne.2 hd]; rfl)), rfl⟩
    · rw [decide_eq_false h2]
      have hd1 : ¬ r = 8232 := by omega
      have hd2 : ¬ r = 8233 := by omega
      go_enter Tryd.func35, Tryd.ntmps35
      go_wp2_with fail
      all_goals
        go_ret
        exact ⟨ret_bool (by first | rfl | simp_all | (simp; omega) | (rename_i hd; rw [beq_eq_false_iff_ne.2 hd]; rfl)), rfl⟩
end Go.Proofs.YticonolnagcakaaDoor

namespace Go.Proofs.YticonolnagcakaaDoor
open Go.RowKit

/-- a spot's cells -/
def spotC (W T : Nat) (l : Bs) (k : Nat) : List Value := [.int .i64 ((atV W T l k).1 : Nat), .int .i64 ((atV W T l k).2 : Nat)]
def takeC (W T : Nat) (l : Bs) (k : Nat) : List Value := [.int .i64 (tkV W T (tk l) k : Nat)]
theorem spotC_len (W T : Nat) (l : Bs) (k : Nat) : (spotC W T l k).length = 2 := rfl
theorem takeC_len (W T : Nat) (l : Bs) (k : Nat) : (takeC W T l k).length = 1 := rfl
theorem RowAt.kept {X Y : World} {g c n : Nat} {f : Nat → List Value} {row : Option Nat} (h : RowAt X g c n f) (hg : X.grownBy Y row) (hl : g < X.heap.size) (hne : some g ≠ row) : RowAt Y g c n f := by
  intro i j hi hj
  rw [← h i j hi hj]
  simp [World.cell?, hg.block g hl hne]
theorem rows_apart {X : World} {b b' c c' n n' : Nat} {e e' : TypeId} {v v' : Value} {xs ys : List Value} (h : X.ownsRow b e c v n xs) (h' : X.ownsRow b' e' c' v' n' ys) (hne : e ≠ e') : v.ownBlock = none ∨ v.ownBlock ≠ v'.ownBlock := by
  rcases h.2 with ⟨rfl, _⟩ | ⟨g, cap, cur, rfl, _, hg, _⟩
  · exact .inl rfl
  · refine .inr fun e1 => ?_
    rcases h'.2 with ⟨rfl, _⟩ | ⟨g', cap', cur', rfl, _, hg', _⟩
    · simp [Value.ownBlock] at e1
    · obtain rfl : g = g' := by simpa [Value.ownBlock] using e1
      have := hg.symm.trans hg'
      simp at this
      exact hne this.2
theorem own_not {X : World} {b c n B : Nat} {e : TypeId} {v : Value} {xs : List Value} (h : X.ownsRow b e c v n xs) (hB : B < b) : v.ownBlock = none ∨ v.ownBlock ≠ some B := by
  rcases e : v.ownBlock with _ | q
  · exact .inl rfl
  · refine .inr fun e' => ?_
    injection e' with e'
    have := (h.lt q e).1
    omega

/-- what stands while the document puts a line -/
structure RefS (W T : Nat) (l : Bs) (N : Nat) (w : World) (P : Nat) (ao : Option Addr) (cap : Nat) (v2 v3 : Value) (k2 k3 li co : Nat) (X : World) : Prop where
  box : Blk X P 73 [.slice ao N cap, v2, v3]
  sp : Blk X (P + 1) 42 [.int .i64 (li : Nat), .int .i64 (co : Nat)]
  rs : Blk X w.heap.size 73 [.slice none 0 0, .slice none 0 0, .slice none 0 0]
  ch : 0 < N → ∃ g, ao = some ⟨g, 0, none⟩ ∧ g < P ∧ w.heap.size < g ∧ RowAt X g 4 N (rcC l)
  r2 : X.ownsRow (P + 2) 42 2 v2 k2 (rowsF k2 (spotC W T l))
  r3 : X.ownsRow (P + 2) 3 1 v3 k3 (rowsF k3 (takeC W T l))
  bel : Below w.heap.size w X
  hP : w.heap.size < P
  siz : P + 2 ≤ X.heap.size

section
variable {W T : Nat} {l : Bs} {N : Nat} {w : World} {P : Nat} {ao : Option Addr} {cap : Nat} {v2 v3 : Value} {k2 k3 li co : Nat} {X Y : World}
theorem RefS.below (h : RefS W T l N w P ao cap v2 v3 k2 k3 li co X) (hb : Below X.heap.size X Y) : RefS W T l N w P ao cap v2 v3 k2 k3 li co Y :=
  ⟨h.box.below hb, h.sp.below hb, h.rs.below hb, fun h0 => by
    obtain ⟨g, h1, h2, h4, h3⟩ := h.ch h0
    exact ⟨g, h1, h2, h4, h3.below (rcC_len l) hb⟩, owns_below h.r2 hb (Nat.le_refl _), owns_below h.r3 hb (Nat.le_refl _), nx h.bel hb, h.hP, Nat.le_trans h.siz hb.size⟩
theorem RefS.chars {row : Option Nat} (h : RefS W T l N w P ao cap v2 v3 k2 k3 li co X) (hg : X.grownBy Y row) (hr : ∀ q, row = some q → P ≤ q) : 0 < N → ∃ g, ao = some ⟨g, 0, none⟩ ∧ g < P ∧ w.heap.size < g ∧ RowAt Y g 4 N (rcC l) := fun h0 => by
  obtain ⟨g, h1, h2, h4, h3⟩ := h.ch h0
  exact ⟨g, h1, h2, h4, h3.kept hg (by have := h.siz; omega) (fun e => by have := hr g e.symm; omega)⟩
theorem RefS.spot (h : RefS W T l N w P ao cap v2 v3 k2 k3 li co X) {li' co' : Nat} {a b : Value} (ha : a = .int .i64 (li' : Nat)) (hb : b = .int .i64 (co' : Nat)) (hX : (X.setCell ⟨P + 1, 0, none⟩ a).setCell ⟨P + 1, 1, none⟩ b = Y) : RefS W T l N w P ao cap v2 v3 k2 k3 li' co' Y := by
  obtain ⟨h1, hg⟩ := stored2 h.sp hX
  subst ha hb
  have := h.hP
  exact ⟨h.box.kept hg (by simp), h1, h.rs.kept hg (by simp; omega), h.chars hg (fun q e => by injection e with e; omega), h.r2.kept hg (own_not h.r2 (by omega)), h.r3.kept hg (own_not h.r3 (by omega)),
    h.bel.grown hg h.bel.size (fun q e => by injection e with e; omega), h.hP, Nat.le_trans h.siz hg.size⟩
theorem RefS.col (h : RefS W T l N w P ao cap v2 v3 k2 k3 li co X) {co' : Nat} {b : Value} (hb : b = .int .i64 (co' : Nat)) (hX : X.setCell ⟨P + 1, 1, none⟩ b = Y) : RefS W T l N w P ao cap v2 v3 k2 k3 li co' Y := by
  obtain ⟨h1, hg⟩ := stored1 h.sp hX
  subst hb
  have := h.hP
  exact ⟨h.box.kept hg (by simp), h1, h.rs.kept hg (by simp; omega), h.chars hg (fun q e => by injection e with e; omega), h.r2.kept hg (own_not h.r2 (by omega)), h.r3.kept hg (own_not h.r3 (by omega)),
    h.bel.grown hg h.bel.size (fun q e => by injection e with e; omega), h.hP, Nat.le_trans h.siz hg.size⟩
/-- a cell of the box is written -/
theorem RefS.boxed (h : RefS W T l N w P ao cap v2 v3 k2 k3 li co X) {i : Nat} {u : Value} (hX : X.setCell ⟨P, i, none⟩ u = Y) :
    Blk Y P 73 ([.slice ao N cap, v2, v3].set i u) ∧ Blk Y (P + 1) 42 [.int .i64 (li : Nat), .int .i64 (co : Nat)] ∧ X.grownBy Y (some P) ∧
      Blk Y w.heap.size 73 [.slice none 0 0, .slice none 0 0, .slice none 0 0] ∧ Below w.heap.size w Y := by
  obtain ⟨h1, hg⟩ := stored1 h.box hX
  have := h.hP
  exact ⟨h1, h.sp.kept hg (by simp), hg, h.rs.kept hg (by simp; omega), h.bel.grown hg h.bel.size (fun q e => by injection e with e; omega)⟩
/-- one more spot -/
theorem RefS.more2 (h : RefS W T l N w P ao cap v2 v3 k2 k3 li co X) {o : Obj} {v' : Value} {xs : List Value} {Z : World} (hown : Y.ownsRow (P + 2) 42 2 v' (k2 + 1) (rowsF k2 (spotC W T l) ++ xs)) (hx : xs = spotC W T l k2)
    (hg : (X.alloc o).grownBy Y v2.ownBlock) (hZ : Y.setCell ⟨P, 1, none⟩ v' = Z) : RefS W T l N w P ao cap v' v3 (k2 + 1) k3 li co Z := by
  have h1 := h.below (al (Below.refl _ _) o)
  have hq : ∀ q, v2.ownBlock = some q → P + 2 ≤ q := fun q e => (h.r2.lt q e).1
  have hne : ∀ j, j < P + 2 → some j ≠ v2.ownBlock := fun j hj e => by
    have := hq j e.symm
    omega
  have := h.hP
  subst hx
  rw [← rowsF_succ] at hown
  have hm : RefS W T l N w P ao cap v2 v3 k2 k3 li co (X.alloc o) := h1
  have r3' : Y.ownsRow (P + 2) 3 1 v3 k3 (rowsF k3 (takeC W T l)) := h1.r3.kept hg (rows_apart h.r3 h.r2 (by decide))
  have b' := h1.box.kept hg (hne _ (by omega))
  have s' := h1.sp.kept hg (hne _ (by omega))
  have t' := h1.rs.kept hg (hne _ (by omega))
  have c' := h1.chars hg (fun q e => by have := hq q e; omega)
  have l' := h1.bel.grown hg h1.bel.size (fun q e => by have := hq q e; omega)
  have z' := Nat.le_trans h1.siz hg.size
  obtain ⟨bz, gz⟩ := stored1 b' hZ
  exact ⟨bz, s'.kept gz (by simp), t'.kept gz (by simp; omega), fun h0 => by
      obtain ⟨g, e1, e2, e4, e3⟩ := c' h0
      exact ⟨g, e1, e2, e4, e3.kept gz (by omega) (by simp; omega)⟩, hown.kept gz (own_not hown (by omega)), r3'.kept gz (own_not r3' (by omega)),
    l'.grown gz l'.size (fun q e => by injection e with e; omega), h.hP, Nat.le_trans z' gz.size⟩
/-- one more number of columns -/
theorem RefS.more3 (h : RefS W T l N w P ao cap v2 v3 k2 k3 li co X) {o : Obj} {v' : Value} {xs : List Value} {Z : World} (hown : Y.ownsRow (P + 2) 3 1 v' (k3 + 1) (rowsF k3 (takeC W T l) ++ xs)) (hx : xs = takeC W T l k3)
    (hg : (X.alloc o).grownBy Y v3.ownBlock) (hZ : Y.setCell ⟨P, 2, none⟩ v' = Z) : RefS W T l N w P ao cap v2 v' k2 (k3 + 1) li co Z := by
  have h1 := h.below (al (Below.refl _ _) o)
  have hq : ∀ q, v3.ownBlock = some q → P + 2 ≤ q := fun q e => (h.r3.lt q e).1
  have hne : ∀ j, j < P + 2 → some j ≠ v3.ownBlock := fun j hj e => by
    have := hq j e.symm
    omega
  have := h.hP
  subst hx
  rw [← rowsF_succ] at hown
  have r2' : Y.ownsRow (P + 2) 42 2 v2 k2 (rowsF k2 (spotC W T l)) := h1.r2.kept hg (rows_apart h.r2 h.r3 (by decide))
  have b' := h1.box.kept hg (hne _ (by omega))
  have s' := h1.sp.kept hg (hne _ (by omega))
  have t' := h1.rs.kept hg (hne _ (by omega))
  have c' := h1.chars hg (fun q e => by have := hq q e; omega)
  have l' := h1.bel.grown hg h1.bel.size (fun q e => by have := hq q e; omega)
  have z' := Nat.le_trans h1.siz hg.size
  obtain ⟨bz, gz⟩ := stored1 b' hZ
  exact ⟨bz, s'.kept gz (by simp), t'.kept gz (by simp; omega), fun h0 => by
      obtain ⟨g, e1, e2, e4, e3⟩ := c' h0
      exact ⟨g, e1, e2, e4, e3.kept gz (by omega) (by simp; omega)⟩, r2'.kept gz (own_not r2' (by omega)), hown.kept gz (own_not hown (by omega)),
    l'.grown gz l'.size (fun q e => by injection e with e; omega), h.hP, Nat.le_trans z' gz.size⟩
end
end Go.Proofs.YticonolnagcakaaDoor

namespace Go.Proofs.YticonolnagcakaaDoor
open Go.RowKit

theorem info_rspot : (Tryd.prog.info? 42).map (fun i => (i.zero, i.size, i.bytes)) = some (some (.agg #[.int .i64 0, .int .i64 0]), 2, 16) := by kernel_rfl
theorem info_rint : (Tryd.prog.info? 3).map (fun i => (i.zero, i.size, i.bytes)) = some (some (.int .i64 0), 1, 8) := by kernel_rfl
theorem spot_one (a b : Nat) : ∀ u ∈ ([.int .i64 (a : Nat), .int .i64 (b : Nat)] : List Value), u.oneCell' = true := by
  intro u hu
  simp at hu
  rcases hu with rfl | rfl <;> rfl
theorem int_one (a : Nat) : ∀ u ∈ ([.int .i64 (a : Nat)] : List Value), u.oneCell' = true := by
  intro u hu
  simp at hu
  subst hu
  rfl
theorem own_slice {X : World} {b c n : Nat} {e : TypeId} {v : Value} {xs : List Value} (h : X.ownsRow b e c v n xs) : ∃ a d, v = .slice a n d := by
  rcases h.2 with ⟨rfl, rfl⟩ | ⟨g, cap, cur, rfl, _⟩
  · exact ⟨_, _, rfl⟩
  · exact ⟨_, _, rfl⟩
/-- the row that Chars hands back, opened -/
theorem refchars_at (s : ByteArray) (hs : s.size ≤ 67108864) (w : World) :
    Calls Tryd.prog 42 #[.string s] w fun e w' => ∃ ao cap, e = .returned (.slice ao (countN (bs s)) cap) ∧ (0 < countN (bs s) → ∃ g, ao = some ⟨g, 0, none⟩ ∧ w.heap.size ≤ g ∧ g < w'.heap.size ∧ RowAt w' g 4 (countN (bs s)) (rcC (bs s))) ∧ Below w.heap.size w w' := by
  refine (refchars_any s hs w).mono ?_
  rintro e w' ⟨v, rfl, hown, hb⟩
  obtain ⟨ao, cap, rfl, _, ho⟩ := own_open (rcC_len (bs s)) hown
  exact ⟨ao, cap, rfl, ho, hb⟩
set_option maxRecDepth 100000 in
set_option maxHeartbeats 4000000 in
theorem refput_any (W T : Nat) (hW2 : W ≤ 1024) (hT1 : 1 ≤ T) (hT2 : T ≤ 16) (s : ByteArray) (hs : s.size ≤ 67108864) (w : World) :
    Calls Tryd.prog 29 #[.string s, .int .i64 (W : Nat), .int .i64 (T : Nat)] w fun e w' => ∃ a1 c1 v2 v3, e = .returned (.agg #[.slice a1 (countN (bs s)) c1, v2, v3]) ∧
      (0 < countN (bs s) → ∃ g, a1 = some ⟨g, 0, none⟩ ∧ g < w'.heap.size ∧ RowAt w' g 4 (countN (bs s)) (rcC (bs s))) ∧
      w'.ownsRow w.heap.size 42 2 v2 (countN (bs s) + 1) (rowsF (countN (bs s) + 1) (spotC W T (bs s))) ∧
      w'.ownsRow w.heap.size 3 1 v3 (countN (bs s)) (rowsF (countN (bs s)) (takeC W T (bs s))) ∧ Below w.heap.size w w' := by
  obtain ⟨i0, hi, hz0, hz1, hz2⟩ := info_parts info_rspot
  obtain ⟨j0, hj, hy0, hy1, hy2⟩ := info_parts info_rint
  have hle : countN (bs s) ≤ s.size := by rw [size_bs]; exact countN_le _
  have HC := Lib.hid (fun w => refchars_at s hs w)
  obtain ⟨l, hl⟩ : ∃ l, bs s = l := ⟨_, rfl⟩
  rw [hl] at hle HC ⊢
  obtain ⟨N, hN⟩ : ∃ N, countN l = N := ⟨_, rfl⟩
  rw [hN] at hle HC ⊢
  have HN := Lib.hid hN
  have hN9 : N ≤ 67108864 := by omega
  clear hl hN hle hs
  go_enter Tryd.func29, Tryd.ntmps29
  go_upto_region 1 with fail
  go_name_world X hX
  have hR : Blk X w.heap.size 73 [.slice none 0 0, .slice none 0 0, .slice none 0 0] := by rw [← hX]; exact Blk.new w _ _
  have hb : Below w.heap.size w X := by rw [← hX]; exact al (Below.refl _ _) _
  have hXs : w.heap.size < X.heap.size := by rw [← hX, World.size_alloc]; omega
  clear hX
  go_upto_region 3 with (first | (go_at_call 42; (with_reducible refine (HC.out _).mono ?_); rintro e w2 ⟨ao, cap, rfl, hro, hb2⟩))
  go_name_world Y hY
  obtain ⟨P, hP⟩ : ∃ P, w2.heap.size = P := ⟨_, rfl⟩
  have hS0 : RefS W T l N w P ao cap (.slice none 0 0) (.slice none 0 0) 0 0 0 0 Y := by
    obtain ⟨y1, y2, y3, y4⟩ := two_boxes hY
    rw [hP] at y1 y2 y4
    have h2 := hb2.size
    exact ⟨y1, y2, (hR.below hb2).below y3, fun h0 => by
      obtain ⟨g, e1, e2, e3, e4⟩ := hro h0
      exact ⟨g, e1, by omega, by omega, e4.below (rcC_len l) y3⟩, World.ownsRow_nil _ _ _ _, World.ownsRow_nil _ _ _ _, nx (nx hb hb2) y3, by omega, by omega⟩
  rw [hP]
  clear hY hro hR hb hb2 hXs hP
  go_wp2_with fail
  go_loopw [9] (fun i wr => ∃ k : Nat, i = .int .i64 (k : Nat) ∧ k ≤ N ∧ ∃ v2 v3, RefS W T l N w P ao cap v2 v3 k k (stV W T (tk l) k).1 (stV W T (tk l) k).2 wr) (fun i _ => N - (intOf i).toNat)
  case atStart => exact ⟨0, rfl, Nat.zero_le _, _, _, hS0⟩
  case round =>
    clear hS0
    obtain ⟨k, rfl, hk, v2, v3, hS⟩ := hrel
    have hcb := st_col W T (tk l) k
    have hrb := st_row W T (tk l) k
    obtain ⟨st, hst⟩ : ∃ st, stV W T (tk l) k = st := ⟨_, rfl⟩
    rw [hst] at hS hcb hrb
    obtain ⟨li, co⟩ := st
    simp only at hS hcb hrb
    have HST := Lib.hid hst
    clear hst
    have b0 := hS.box.cell 0 rfl
    by_cases hlt : k < N
    · obtain ⟨g, rfl, hgP, -, hrow⟩ := hS.ch (by omega)
      have hki : (k : Int) < (N : Int) := by omega
      obtain ⟨r, hr⟩ : ∃ x, ((tk l)[k]?.getD (0, 0)).1 = x := ⟨_, rfl⟩
      obtain ⟨a, ha⟩ : ∃ x, atN l k = x := ⟨_, rfl⟩
      obtain ⟨a2, ha2⟩ : ∃ x, atN l (k + 1) = x := ⟨_, rfl⟩
      obtain ⟨b, hbb⟩ : ∃ x, rightR (((tk l)[k]?.getD (0, 0)).1 : Int) ((tk l)[k]?.getD (0, 0)).2 = x := ⟨_, rfl⟩
      have d0 := hrow k 0 hlt (by omega)
      have d1 := hrow k 1 hlt (by omega)
      have d2 := hrow k 2 hlt (by omega)
      have d3 := hrow k 3 hlt (by omega)
      have hrc : rcC l k = [.int .i32 (r : Nat), .int .i64 (a : Nat), .int .i64 (a2 : Nat), .bool b] := by unfold rcC; rw [hbb, hr, ha, ha2]; rfl
      rw [hrc] at d0 d1 d2 d3
      have HRC := Lib.hid hrc
      clear hrc
      have D0 : wr.cell? ⟨g, k * 4, none⟩ = some (.int .i32 (r : Nat)) := d0
      have D1 : wr.cell? ⟨g, k * 4 + 1, none⟩ = some (.int .i64 (a : Nat)) := d1
      have D2 : wr.cell? ⟨g, k * 4 + 2, none⟩ = some (.int .i64 (a2 : Nat)) := d2
      have D3 : wr.cell? ⟨g, k * 4 + 3, none⟩ = some (.bool b) := d3
      have p1 := hS.sp.cell 1 rfl
      have htv : ∀ col, takesV W T ((tk l)[k]?.getD (0, 0)) col = takesB W T b r col := fun col => by rw [takesV_B, hbb, hr]
      have hspe : spV W T (tk l) k = (putV W T (li, co) ((tk l)[k]?.getD (0, 0))).1 := by unfold spV; rw [HST.out]
      have htke : tkV W T (tk l) k = (putV W T (li, co) ((tk l)[k]?.getD (0, 0))).2 := by unfold tkV; rw [HST.out]
      unfold putV at hspe htke
      rw [htv, htv] at hspe htke
      have hb1 := takes_le W T ((tk l)[k]?.getD (0, 0)) co
      have hb2 := takes_le W T ((tk l)[k]?.getD (0, 0)) 0
      rw [htv] at hb1 hb2
      obtain ⟨t1, ht1⟩ : ∃ x, takesB W T b r co = x := ⟨_, rfl⟩
      obtain ⟨t2, ht2⟩ : ∃ x, takesB W T b r 0 = x := ⟨_, rfl⟩
      rw [ht1, ht2] at hspe htke
      rw [ht1] at hb1
      rw [ht2] at hb2
      have hco9 : co ≤ 1026 := by omega
      have HT1 := Lib.hid (fun w => reftakes_any W T hW2 hT1 hT2 b r co hco9 (a : Nat) (a2 : Nat) w)
      have HT2 := Lib.hid (fun w => reftakes_any W T hW2 hT1 hT2 b r 0 (Nat.zero_le _) (a : Nat) (a2 : Nat) w)
      rw [ht1] at HT1
      rw [ht2, show ((0 : Nat) : Int) = 0 from rfl] at HT2
      have ht1b : t1 ≤ 1024 := by omega
      have ht2b : t2 ≤ 1024 := by omega
      have HAT := Lib.hid (show atV W T l k = spV W T (tk l) k from if_pos (by rw [HN.out]; exact hlt))
      have cT : ∀ p' : Later wr, Calls Tryd.prog 43 #[.agg #[.int .i32 (r : Nat), .int .i64 (a : Nat), .int .i64 (a2 : Nat), .bool b], .int .i64 (co : Nat), .int .i64 (W : Nat), .int .i64 (T : Nat)] p'.W fun e w'' => e = .returned (.int .i64 (t1 : Nat)) ∧ ∃ q : Later wr, w'' = q.W := fun p' => Calls.later_of (HT1.out _)
      clear htv hr ha ha2 hbb d0 d1 d2 d3 ht1 ht2 HT1 hb1 hb2
      go_upto_region 6 with fail
      have y0 := Later.cell b0
      have y1 := Later.cell p1
      have x0 := Later.cell D0
      have x1 := Later.cell D1
      have x2 := Later.cell D2
      have x3 := Later.cell D3
      clear b0 p1 D0 D1 D2 D3 hrow
      refine wp_region_later (by kernel_rfl) (by kernel_rfl) ?_
      repeat (go_big_quiet_step (first | with_reducible exact cT _))
      refine wpQuiet_nil ?_
      intro _ hw'
      obtain ⟨pq, hw''⟩ := hw'
      subst hw''
      have hSV := hS.below pq.hb
      obtain ⟨V, hV⟩ : ∃ V, pq.W = V := ⟨_, rfl⟩
      rw [hV] at hSV ⊢
      clear hV y0 y1 x0 x1 x2 x3 cT hS
      have p1 := hSV.sp.cell 1 rfl
      obtain ⟨ov, hov⟩ : ∃ ov, decide (0 < t1 ∧ 0 < co ∧ W < co + t1) = ov := ⟨_, rfl⟩
      have HOV := Lib.hid hov
      clear hov
      go_upto_region 7 with fail
      go_cut [46] from 32 to 46 (fun c wx => V = wx ∧ c = .bool ov)
      case first =>
        cases ov
        · have hno := of_decide_eq_false HOV.out
          by_cases h1 : 0 < t1
          · by_cases h2 : 0 < co
            · have h3' : co + t1 ≤ W := by omega
              clear hno
              go_wp2_with fail
              all_goals (go_meet; exact ⟨rfl, congrArg Value.bool (decide_eq_false (by omega))⟩)
            · obtain rfl : co = 0 := by omega
              clear hno
              go_wp2_with fail
              all_goals (go_meet; exact ⟨rfl, rfl⟩)
          · obtain rfl : t1 = 0 := by omega
            clear hno
            go_wp2_with fail
            all_goals (go_meet; exact ⟨rfl, rfl⟩)
        · obtain ⟨h1, h2, h3⟩ := of_decide_eq_true HOV.out
          go_wp2_with fail
          all_goals (go_meet; exact ⟨rfl, congrArg Value.bool (decide_eq_true (by omega))⟩)
      case rest =>
        obtain ⟨rfl, rfl⟩ := hcut
        obtain ⟨⟨sl, sc⟩, hsp⟩ : ∃ x, spV W T (tk l) k = x := ⟨_, rfl⟩
        obtain ⟨tn, htn⟩ : ∃ x, tkV W T (tk l) k = x := ⟨_, rfl⟩
        have hsc : sc + tn ≤ 1024 ∨ sc + tn ≤ 2 := by
          have := st_col W T (tk l) (k + 1)
          rw [st_succ, hsp, htn] at this
          simp only at this
          omega
        rw [hsp] at hspe
        rw [htn] at htke
        have HSP := Lib.hid hsp
        have HTN := Lib.hid htn
        clear hsp htn
        go_upto_if 46 with fail
        go_cut [10] from 47 to 58 (fun n wx => n = .int .i64 (tn : Nat) ∧ RefS W T l N w P (some ⟨g, 0, none⟩) cap v2 v3 k k sl sc wx)
        case first =>
          cases ov
          · have hno := of_decide_eq_false HOV.out
            rw [if_neg hno] at hspe htke
            injection hspe with hw3 hw4
            subst htke hw3 hw4
            go_wp2_with fail
            go_meet
            exact ⟨rfl, hSV⟩
          · obtain ⟨h1, h2, h3⟩ := of_decide_eq_true HOV.out
            rw [if_pos ⟨h1, h2, h3⟩] at hspe htke
            injection hspe with hw3 hw4
            subst htke hw3 hw4
            have p0 := hSV.sp.cell 0 rfl
            have z0 := hSV.sp.frozen 0
            have z1 := hSV.sp.frozen 1
            go_upto_region 9 with fail
            go_name_world X10 hX10
            have hS10 := hSV.spot (li' := li + 1) (co' := 0) rfl rfl hX10
            clear hX10 hSV p0 p1 z0 z1
            obtain ⟨g', e', hgP', -, hrow⟩ := hS10.ch (by omega)
            injection e' with e'
            injection e' with e' _ _
            subst e'
            have b0 := hS10.box.cell 0 rfl
            have d0 := hrow k 0 hlt (by omega)
            have d1 := hrow k 1 hlt (by omega)
            have d2 := hrow k 2 hlt (by omega)
            have d3 := hrow k 3 hlt (by omega)
            rw [HRC.out] at d0 d1 d2 d3
            have D0 : X10.cell? ⟨g, k * 4, none⟩ = some (.int .i32 (r : Nat)) := d0
            have D1 : X10.cell? ⟨g, k * 4 + 1, none⟩ = some (.int .i64 (a : Nat)) := d1
            have D2 : X10.cell? ⟨g, k * 4 + 2, none⟩ = some (.int .i64 (a2 : Nat)) := d2
            have D3 : X10.cell? ⟨g, k * 4 + 3, none⟩ = some (.bool b) := d3
            clear d0 d1 d2 d3
            go_wp2_with (first | (go_at_call 43; (with_reducible refine (HT2.out _).mono ?_); rintro e w5 ⟨rfl, hb5⟩))
            go_meet
            exact ⟨rfl, hS10.below hb5⟩
        case rest =>
          obtain ⟨rfl, hS⟩ := hcut
          clear hSV HOV HT2 hspe htke p1 HRC
          have b1 := hS.box.cell 1 rfl
          have p0 := hS.sp.cell 0 rfl
          have p1 := hS.sp.cell 1 rfl
          have f1 := hS.box.frozen 1
          have hsz := hS.siz
          have hkP := hS.hP
          go_upto_region 11 with (at_builtin; refine wpList_append_own _ rfl _ _ 70 rfl (P + 2) 42 i0 (.agg #[.int .i64 0, .int .i64 0]) 2 16 Tryd.underlying70 hi hz0 hz1 hz2 rfl (by decide) v2 _ _ rfl (hS.r2.alloc _) ⟨wc.heap.size, 0, none⟩ 1 1 [.int .i64 (sl : Nat), .int .i64 (sc : Nat)] rfl (by simp) (cells_new _ _ _) (spot_one _ _) (by unfold maxLen; omega) (by omega) (by simp; omega) ?_; intro v2' w6 hown6 hgrow6 _; obtain ⟨a2', c2', rfl⟩ := own_slice hown6; have q1 := (hS.below (al (Below.refl _ _) _)).box.kept hgrow6 (fun e => by have := (hS.r2.lt _ e.symm).1; omega); have q2 := q1.frozen 1; have q3 := q1.cell 1 rfl)
          go_name_world X11 hX11
          have hS11 := hS.more2 hown6 (by unfold spotC; rw [HAT.out, HSP.out]) hgrow6 hX11
          clear hX11 hown6 hgrow6 hS b1 p0 p1 f1 hsz q1 q2 q3
          have b2 := hS11.box.cell 2 rfl
          have f2 := hS11.box.frozen 2
          have hsz := hS11.siz
          go_upto_region 12 with (at_builtin; refine wpList_append_own _ rfl _ _ 71 rfl (P + 2) 3 j0 (.int .i64 0) 1 8 Tryd.underlying71 hj hy0 hy1 hy2 rfl (by decide) v3 _ _ rfl (hS11.r3.alloc _) ⟨X11.heap.size, 0, none⟩ 1 1 [.int .i64 (tn : Nat)] rfl (by simp) (cells_new _ _ _) (int_one _) (by unfold maxLen; omega) (by omega) (by simp; omega) ?_; intro v3' w7 hown7 hgrow7 _; obtain ⟨a3', c3', rfl⟩ := own_slice hown7; have q1 := (hS11.below (al (Below.refl _ _) _)).box.kept hgrow7 (fun e => by have := (hS11.r3.lt _ e.symm).1; omega); have q2 := q1.frozen 2; have q3 := q1.cell 2 rfl)
          go_name_world X12 hX12
          have hS12 := hS11.more3 hown7 (by unfold takeC; rw [HTN.out]) hgrow7 hX12
          clear hX12 hown7 hgrow7 hS11 b2 f2 hsz q1 q2 q3
          have p1 := hS12.sp.cell 1 rfl
          have f1 := hS12.sp.frozen 1
          go_wp2_with fail
          have hst2 : stV W T (tk l) (k + 1) = (sl, sc + tn) := by rw [st_succ, HSP.out, HTN.out]
          have hS13 : RefS W T l N w P (some ⟨g, 0, none⟩) cap (.slice a2' (k + 1) c2') (.slice a3' (k + 1) c3') (k + 1) (k + 1) (stV W T (tk l) (k + 1)).1 (stV W T (tk l) (k + 1)).2 (X12.setCell ⟨P + 1, 1, none⟩ (.int .i64 ((sc : Int) + (tn : Int)))) := by
            rw [hst2]
            exact hS12.col (co' := sc + tn) rfl rfl
          exact ⟨⟨k + 1, by go_num, hlt, _, _, hS13⟩, by simp [intOf]; omega⟩
    · obtain rfl : k = N := by omega
      have hd : decide (k < k) = false := decide_eq_false (by omega)
      have HAT := Lib.hid (show atV W T l k = (li, co) by unfold atV; rw [HN.out, if_neg (Nat.lt_irrefl _)]; exact HST.out)
      have b1 := hS.box.cell 1 rfl
      have p0 := hS.sp.cell 0 rfl
      have p1 := hS.sp.cell 1 rfl
      have f1 := hS.box.frozen 1
      have hsz := hS.siz
      have hkP := hS.hP
      go_upto_region 14 with (at_builtin; refine wpList_append_own _ rfl _ _ 70 rfl (P + 2) 42 i0 (.agg #[.int .i64 0, .int .i64 0]) 2 16 Tryd.underlying70 hi hz0 hz1 hz2 rfl (by decide) v2 _ _ rfl (hS.r2.alloc _) ⟨wr.heap.size, 0, none⟩ 1 1 [.int .i64 (li : Nat), .int .i64 (co : Nat)] rfl (by simp) (cells_new _ _ _) (spot_one _ _) (by unfold maxLen; omega) (by omega) (by simp; omega) ?_; intro v2' w6 hown6 hgrow6 _; obtain ⟨a2', c2', rfl⟩ := own_slice hown6; have q1 := (hS.below (al (Below.refl _ _) _)).box.kept hgrow6 (fun e => by have := (hS.r2.lt _ e.symm).1; omega); have q2 := q1.frozen 1; have q3 := q1.cell 1 rfl)
      go_name_world X11 hX11
      have hS11 := hS.more2 hown6 (by unfold spotC; rw [HAT.out]) hgrow6 hX11
      clear hX11 hown6 hgrow6 hS b0 b1 p0 p1 f1 hsz q1 q2 q3
      obtain ⟨a3, c3, rfl⟩ := own_slice hS11.r3
      have b0 := hS11.box.cell 0 rfl
      have b1 := hS11.box.cell 1 rfl
      have b2 := hS11.box.cell 2 rfl
      have f0 := hS11.rs.frozen 0
      have f1 := hS11.rs.frozen 1
      have f2 := hS11.rs.frozen 2
      have e0 := hS11.rs.cell 0 rfl
      have e1 := hS11.rs.cell 1 rfl
      have e2 := hS11.rs.cell 2 rfl
      go_wp2_with fail
      obtain ⟨h1, g1⟩ := stored2 hS11.rs (i := 0) (j := 1) (a := .slice ao k cap) (b := .slice a2' (k + 1) c2') rfl
      obtain ⟨h2, g2⟩ := stored1 h1 (i := 2) (a := .slice a3 k c3) rfl
      simp only [List.set_cons_zero, List.set_cons_succ] at h2
      have gg := grown_trans g1 g2
      have q0 := h2.cell 0 rfl
      have q1 := h2.cell 1 rfl
      have q2 := h2.cell 2 rfl
      have hz := hS11.siz
      refine bodyPost_ret (v := .agg #[.slice ao k cap, .slice a2' (k + 1) c2', .slice a3 k c3]) (by simp [results, Tryd.results29, go_sem, q0, q1, q2]) rfl ⟨ao, cap, _, _, rfl, ?_, ?_, ?_, ?_⟩
      · intro h0
        obtain ⟨g, e1, e2, e4, e3⟩ := hS11.ch h0
        exact ⟨g, e1, Nat.lt_of_lt_of_le (by omega) gg.size, e3.kept gg (by omega) (by simp; omega)⟩
      · exact owns_base (hS11.r2.kept gg (own_not hS11.r2 (by omega))) (by omega)
      · exact owns_base (hS11.r3.kept gg (own_not hS11.r3 (by omega))) (by omega)
      · exact hS11.bel.grown gg hS11.bel.size (fun q e => by injection e with e; omega)
end Go.Proofs.YticonolnagcakaaDoor

namespace Go.Proofs.YticonolnagcakaaDoor
open Go.RowKit

/-- what Put hands back, opened -/
theorem refput_at (W T : Nat) (hW2 : W ≤ 1024) (hT1 : 1 ≤ T) (hT2 : T ≤ 16) (s : ByteArray) (hs : s.size ≤ 67108864) (w : World) :
    Calls Tryd.prog 29 #[.string s, .int .i64 (W : Nat), .int .i64 (T : Nat)] w fun e w' => ∃ a1 c1 g2 c2 a3 c3, e = .returned (.agg #[.slice a1 (countN (bs s)) c1, .slice (some ⟨g2, 0, none⟩) (countN (bs s) + 1) c2, .slice a3 (countN (bs s)) c3]) ∧
      (0 < countN (bs s) → ∃ g, a1 = some ⟨g, 0, none⟩ ∧ g < w'.heap.size ∧ RowAt w' g 4 (countN (bs s)) (rcC (bs s))) ∧
      g2 < w'.heap.size ∧ RowAt w' g2 2 (countN (bs s) + 1) (spotC W T (bs s)) ∧
      (0 < countN (bs s) → ∃ g, a3 = some ⟨g, 0, none⟩ ∧ g < w'.heap.size ∧ RowAt w' g 1 (countN (bs s)) (takeC W T (bs s))) ∧ Below w.heap.size w w' := by
  refine (refput_any W T hW2 hT1 hT2 s hs w).mono ?_
  rintro e w' ⟨a1, c1, v2, v3, rfl, hc, h2, h3, hb⟩
  obtain ⟨a2, c2, rfl, _, ho2⟩ := own_open (spotC_len W T (bs s)) h2
  obtain ⟨a3, c3, rfl, _, ho3⟩ := own_open (takeC_len W T (bs s)) h3
  obtain ⟨g2, rfl, _, hg2, hr2⟩ := ho2 (Nat.succ_pos _)
  refine ⟨a1, c1, g2, c2, a3, c3, rfl, hc, hg2, hr2, fun h0 => ?_, hb⟩
  obtain ⟨g3, e3, _, hg3, hr3⟩ := ho3 h0
  exact ⟨g3, e3, hg3, hr3⟩

set_option maxRecDepth 100000 in
set_option maxHeartbeats 1000000 in
theorem refwhere_any (W T : Int) (s : ByteArray) (hs : s.size ≤ 67108864) (c : Int) (w : World) :
    Calls Tryd.prog 18 #[.string s, .int .i64 W, .int .i64 T, .int .i64 c] w fun e w' => e = .returned (.tuple #[.agg #[.int .i64 ((whereV W T (bs s) c).1.1 : Nat), .int .i64 ((whereV W T (bs s) c).1.2 : Nat)], .int .i64 (whereV W T (bs s) c).2]) ∧ Below w.heap.size w w' := by
  have HG := Lib.hid (fun w => refwrong28_any W T w)
  cases hg : goodV W T
  · rw [hg] at HG
    have hv : whereV W T (bs s) c = ((0, 0), 280) := if_pos hg
    rw [hv]
    clear hv hg
    go_enter Tryd.func18, Tryd.ntmps18
    go_upto_region 1 with fail
    go_name_world X hX
    have hR : Blk X w.heap.size 42 [.int .i64 0, .int .i64 0] := by rw [← hX]; exact Blk.new w _ _
    have hb : Below w.heap.size w X := by rw [← hX]; exact al (Below.refl _ _) _
    clear hX
    have f0 := hR.frozen 0
    have f1 := hR.frozen 1
    have c0 := hR.cell 0 rfl
    have c1 := hR.cell 1 rfl
    go_wp2_with (first | (go_at_call 28; (with_reducible refine (HG.out _).mono ?_); rintro e w2 ⟨rfl, rfl⟩))
    obtain ⟨hF, hgF⟩ := stored2 hR (i := 0) (j := 1) (a := .int .i64 0) (b := .int .i64 0) rfl
    have q0 := hF.cell 0 rfl
    have q1 := hF.cell 1 rfl
    exact bodyPost_ret (v := .tuple #[.agg #[.int .i64 0, .int .i64 0], .int .i64 280]) (by simp [results, Tryd.results18, go_sem, q0, q1]) rfl ⟨rfl, hb.grown hgF hb.size (fun q e => by injection e with e; omega)⟩
  · rw [hg] at HG
    obtain ⟨W', T', rfl, rfl, hW, hW2, hT1, hT2⟩ := goodV_of hg
    have hv : whereV (W' : Nat) (T' : Nat) (bs s) c = if c < 0 ∨ (countN (bs s) : Int) < c then ((0, 0), 6) else (atV W' T' (bs s) c.toNat, 0) := if_neg (by rw [hg]; simp)
    have HP := Lib.hid (fun w => refput_at W' T' hW2 hT1 hT2 s hs w)
    have hle : countN (bs s) ≤ s.size := by rw [size_bs]; exact countN_le _
    obtain ⟨l, hl⟩ : ∃ l, bs s = l := ⟨_, rfl⟩
    rw [hl] at HP hle hv ⊢
    obtain ⟨N, hN⟩ : ∃ N, countN l = N := ⟨_, rfl⟩
    rw [hN] at HP hle hv
    have HN := Lib.hid hN
    clear hl hN hg hW hW2 hT1 hT2
    obtain ⟨⟨⟨ra, rb⟩, re⟩, hr⟩ : ∃ x, whereV (W' : Nat) (T' : Nat) l c = x := ⟨_, rfl⟩
    rw [hr] at hv ⊢
    have HV := Lib.hid hv
    clear hv hr
    go_enter Tryd.func18, Tryd.ntmps18
    go_upto_region 1 with fail
    go_name_world X hX
    have hR : Blk X w.heap.size 42 [.int .i64 0, .int .i64 0] := by rw [← hX]; exact Blk.new w _ _
    have hb : Below w.heap.size w X := by rw [← hX]; exact al (Below.refl _ _) _
    clear hX
    go_upto_region 4 with (first
      | (go_at_call 28; (with_reducible refine (HG.out _).mono ?_); rintro e w2 ⟨rfl, rfl⟩)
      | (go_at_call 29; (with_reducible refine (HP.out _).mono ?_); rintro e w2 ⟨a1, c1, g2, c2, a3, c3, rfl, -, hg2, hr2, -, hb2⟩))
    go_name_world Y hY
    have hR2 : Blk Y w.heap.size 42 [.int .i64 0, .int .i64 0] := by rw [← hY]; exact (hR.below hb2).alloc _
    have hL : Blk Y w2.heap.size 73 [.slice a1 N c1, .slice (some ⟨g2, 0, none⟩) (N + 1) c2, .slice a3 N c3] := by rw [← hY]; exact Blk.new w2 _ _
    have hB : Below w.heap.size w Y := by rw [← hY]; exact al (nx hb hb2) _
    have hg3 : Below w2.heap.size w2 Y := by rw [← hY]; exact al (Below.refl _ _) _
    have f0 := hR2.frozen 0
    have f1 := hR2.frozen 1
    have c0 := hR2.cell 0 rfl
    have cc1 := hR2.cell 1 rfl
    have d0 := hL.cell 0 rfl
    have d1 := hL.cell 1 rfl
    clear hY hb hR
    by_cases h0 : c < 0
    · have ev := HV.out
      rw [if_pos (Or.inl h0)] at ev
      injection ev with e1 e2
      injection e1 with e3 e4
      subst e2 e3 e4
      go_wp2_with fail
      obtain ⟨hF, hgF⟩ := stored2 hR2 (i := 0) (j := 1) (a := .int .i64 0) (b := .int .i64 0) rfl
      have q0 := hF.cell 0 rfl
      have q1 := hF.cell 1 rfl
      exact bodyPost_ret (v := .tuple #[.agg #[.int .i64 0, .int .i64 0], .int .i64 6]) (by simp [results, Tryd.results18, go_sem, q0, q1]) rfl ⟨rfl, hB.grown hgF hB.size (fun q e => by injection e with e; omega)⟩
    by_cases h1 : (N : Int) < c
    · have ev := HV.out
      rw [if_pos (Or.inr h1)] at ev
      injection ev with e1 e2
      injection e1 with e3 e4
      subst e2 e3 e4
      go_wp2_with fail
      obtain ⟨hF, hgF⟩ := stored2 hR2 (i := 0) (j := 1) (a := .int .i64 0) (b := .int .i64 0) rfl
      have q0 := hF.cell 0 rfl
      have q1 := hF.cell 1 rfl
      exact bodyPost_ret (v := .tuple #[.agg #[.int .i64 0, .int .i64 0], .int .i64 6]) (by simp [results, Tryd.results18, go_sem, q0, q1]) rfl ⟨rfl, hB.grown hgF hB.size (fun q e => by injection e with e; omega)⟩
    have ev := HV.out
    rw [if_neg (by omega)] at ev
    obtain ⟨m, rfl⟩ : ∃ m : Nat, c = (m : Int) := ⟨c.toNat, by omega⟩
    rw [Int.toNat_natCast] at ev
    have hmN : m < N + 1 := by omega
    have k0 := (hr2.below (spotC_len _ _ _) hg3) m 0 hmN (by omega)
    have k1 := (hr2.below (spotC_len _ _ _) hg3) m 1 hmN (by omega)
    unfold spotC at k0 k1
    obtain ⟨⟨sl, sc⟩, hsp⟩ : ∃ x, atV W' T' l m = x := ⟨_, rfl⟩
    rw [hsp] at k0 k1 ev
    replace k0 : Y.cell? ⟨g2, m * 2, none⟩ = some (.int .i64 (sl : Nat)) := k0
    replace k1 : Y.cell? ⟨g2, m * 2 + 1, none⟩ = some (.int .i64 (sc : Nat)) := k1
    have hmi : (m : Int) < ((N + 1 : Nat) : Int) := by omega
    clear hsp hr2 h1 h0 HV
    injection ev with e1 e2
    injection e1 with e3 e4
    subst e2 e3 e4
    have hm2 : ¬ (N : Int) < (m : Int) := by omega
    go_wp2_with fail
    obtain ⟨hF, hgF⟩ := stored2 hR2 (i := 0) (j := 1) (a := .int .i64 (ra : Nat)) (b := .int .i64 (rb : Nat)) rfl
    have q0 := hF.cell 0 rfl
    have q1 := hF.cell 1 rfl
    exact bodyPost_ret (v := .tuple #[.agg #[.int .i64 (ra : Nat), .int .i64 (rb : Nat)], .int .i64 0]) (by simp [results, Tryd.results18, go_sem, q0, q1]) rfl ⟨rfl, hB.grown hgF hB.size (fun q e => by injection e with e; omega)⟩

set_option maxRecDepth 100000 in
set_option maxHeartbeats 2000000 in
theorem refplace_any (W T : Int) (s : ByteArray) (hs : s.size ≤ 67108864) (r c : Int) (w : World) :
    Calls Tryd.prog 20 #[.string s, .int .i64 W, .int .i64 T, .agg #[.int .i64 r, .int .i64 c]] w fun e w' => e = .returned (.tuple #[.int .i64 (placeR W T (bs s) r c).1, .int .i64 (placeR W T (bs s) r c).2]) ∧ Below w.heap.size w w' := by
  have HG := Lib.hid (fun w => refwrong28_any W T w)
  cases hg : goodV W T
  · rw [hg] at HG
    have hv : placeR W T (bs s) r c = (0, 280) := if_pos hg
    rw [hv]
    clear hv hg
    go_enter Tryd.func20, Tryd.ntmps20
    go_wp2_with (first | (go_at_call 28; (with_reducible refine (HG.out _).mono ?_); rintro e w2 ⟨rfl, rfl⟩))
    go_ret2
    exact ⟨rfl, al (Below.refl _ _) _⟩
  · rw [hg] at HG
    obtain ⟨W', T', rfl, rfl, hW, hW2, hT1, hT2⟩ := goodV_of hg
    have hv : placeR (W' : Nat) (T' : Nat) (bs s) r c = placeO (findP (hereV W' T' (bs s) r c) (countN (bs s) + 1)) := if_neg (by rw [hg]; simp)
    have HP := Lib.hid (fun w => refput_at W' T' hW2 hT1 hT2 s hs w)
    have hle : countN (bs s) ≤ s.size := by rw [size_bs]; exact countN_le _
    obtain ⟨l, hl⟩ : ∃ l, bs s = l := ⟨_, rfl⟩
    rw [hl] at HP hle hv ⊢
    obtain ⟨N, hN⟩ : ∃ N, countN l = N := ⟨_, rfl⟩
    rw [hN] at HP hle hv
    have HN := Lib.hid hN
    obtain ⟨⟨ra, re⟩, hr⟩ : ∃ x, placeR (W' : Nat) (T' : Nat) l r c = x := ⟨_, rfl⟩
    rw [hr] at hv ⊢
    have HV := Lib.hid hv
    clear hl hN hg hW hW2 hT1 hT2 hv hr
    go_enter Tryd.func20, Tryd.ntmps20
    go_upto_region 1 with fail
    go_name_world X hX
    have hR : Blk X w.heap.size 42 [.int .i64 r, .int .i64 c] := by rw [← hX]; exact Blk.new w _ _
    have hb : Below w.heap.size w X := by rw [← hX]; exact al (Below.refl _ _) _
    clear hX
    go_upto_region 4 with (first
      | (go_at_call 28; (with_reducible refine (HG.out _).mono ?_); rintro e w2 ⟨rfl, rfl⟩)
      | (go_at_call 29; (with_reducible refine (HP.out _).mono ?_); rintro e w2 ⟨a1, c1, g2, c2, a3, c3, rfl, -, hg2, hr2, -, hb2⟩))
    go_name_world Y hY
    have hR6 : Blk Y w.heap.size 42 [.int .i64 r, .int .i64 c] := by rw [← hY]; exact (hR.below hb2).alloc _
    have hL : Blk Y w2.heap.size 73 [.slice a1 N c1, .slice (some ⟨g2, 0, none⟩) (N + 1) c2, .slice a3 N c3] := by rw [← hY]; exact Blk.new w2 _ _
    have hB6 : Below w.heap.size w Y := by rw [← hY]; exact al (nx hb hb2) _
    have hg3 : Below w2.heap.size w2 Y := by rw [← hY]; exact al (Below.refl _ _) _
    have HROW := Lib.hid (hr2.below (spotC_len _ _ _) hg3)
    have d1 := hL.cell 1 rfl
    have wn : IntKind.i64.wrap ((N : Int) + 1 - 1) = (N : Int) := by rw [IntKind.wrap_i64]; omega
    clear hY hR hr2 hg3 hb hb2
    go_wp2_with fail
    clear d1
    go_loopw [11] (fun i wr => ∃ m : Nat, i = .int .i64 ((m : Int) - 1) ∧ m ≤ N + 1 ∧ Hid (∀ j, m ≤ j → j < N + 1 → hereV W' T' l r c j = false) ∧ Below Y.heap.size Y wr) (fun i _ => (intOf i + 1).toNat)
    case atStart => exact ⟨N + 1, by simp, Nat.le_refl _, Lib.hid (fun j a b => by omega), Below.refl _ _⟩
    case round =>
      obtain ⟨m, rfl, hm, hall, hbr⟩ := hrel
      cases m with
      | zero =>
        have ev := HV.out
        rw [findP_top (m := 0) (Nat.zero_le _) (fun j a b => hall.out j a b)] at ev
        injection ev with e1 e2
        subst e1 e2
        go_wp2_with fail
        go_ret2
        exact ⟨rfl, nx hB6 hbr⟩
      | succ k =>
        rw [show (((k + 1 : Nat) : Int) - 1) = (k : Int) by omega]
        have hk : k < N + 1 := by omega
        have k4 := (HROW.out.below (spotC_len _ _ _) hbr) k 0 hk (by omega)
        have k5 := (HROW.out.below (spotC_len _ _ _) hbr) k 1 hk (by omega)
        unfold spotC at k4 k5
        have hR7 := hR6.below hbr
        have p0 := hR7.cell 0 rfl
        have p1 := hR7.cell 1 rfl
        have d1 := (hL.below hbr).cell 1 rfl
        have hki : (k : Int) < ((N + 1 : Nat) : Int) := by omega
        have hhere : hereV W' T' l r c k = (decide (((atV W' T' l k).1 : Int) = r) && decide (((atV W' T' l k).2 : Int) ≤ c)) := rfl
        obtain ⟨⟨sl, sc⟩, hsp⟩ : ∃ x, atV W' T' l k = x := ⟨_, rfl⟩
        rw [hsp] at k4 k5 hhere
        simp only at hhere
        replace k4 : wr.cell? ⟨g2, k * 2, none⟩ = some (.int .i64 (sl : Nat)) := k4
        replace k5 : wr.cell? ⟨g2, k * 2 + 1, none⟩ = some (.int .i64 (sc : Nat)) := k5
        by_cases h1 : (sl : Int) = r
        · by_cases h2 : (sc : Int) ≤ c
          · have ev := HV.out
            rw [findP_top (m := k + 1) (by omega) (fun j a b => hall.out j a b)] at ev
            rw [show findP (hereV W' T' l r c) (k + 1) = some k from if_pos (by rw [hhere, decide_eq_true h1, decide_eq_true h2]; rfl)] at ev
            injection ev with e1 e2
            subst e1 e2 h1
            clear hsp hhere
            go_wp2_with fail
            go_quiet (fail)
            go_wp2_with fail
            go_ret2
            exact ⟨rfl, nx hB6 (below_drewN hbr _)⟩
          · have HA := Lib.hid (show hereV W' T' l r c k = false by rw [hhere, decide_eq_false h2, Bool.and_false])
            have h2d : decide ((sc : Int) ≤ c) = false := decide_eq_false h2
            subst h1
            clear hsp hhere
            go_wp2_with fail
            go_quiet (fail)
            go_wp2_with fail
            go_roundw
            case rel =>
              refine ⟨k, rfl, by omega, Lib.hid (fun j a b => ?_), below_drewN hbr _⟩
              by_cases e : j = k
              · rw [e]; exact HA.out
              · exact hall.out j (by omega) b
            case measure => simp [intOf]
        · have HA := Lib.hid (show hereV W' T' l r c k = false by rw [hhere, decide_eq_false h1, Bool.false_and])
          have h1d : ((sl : Int) == r) = false := beq_eq_false_iff_ne.2 h1
          clear hsp hhere
          go_wp2_with fail
          go_quiet (fail)
          go_wp2_with fail
          go_roundw
          case rel =>
            refine ⟨k, rfl, by omega, Lib.hid (fun j a b => ?_), below_drewN hbr _⟩
            by_cases e : j = k
            · rw [e]; exact HA.out
            · exact hall.out j (by omega) b
          case measure => simp [intOf]
end Go.Proofs.YticonolnagcakaaDoor
