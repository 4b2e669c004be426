/-
  The document's Next and Back, and the walk of KindsStops.
-/
import Derived.Test.YtfoppbignompkaaDoorKinds
import Derived.BigQuiet
import Derived.Deep.QuietTactic
import Derived.Test.YtfoppbignompkaaDoorBackWalk
import Derived.Deep.RegionHeldLaw
import Derived.Test.YtfoppbignompkaaDoorColLaw
import Derived.Test.YtfoppbignompkaaDoorLater
namespace Go.Proofs.YtfoppbignompkaaDoor
open Go.RowKit

def flat2 (L : List (Int × Int)) : List Int := L.flatMap fun p => [p.1, p.2]
theorem flat2_len (L : List (Int × Int)) : (flat2 L).length = 2 * L.length := by
  induction L with
  | nil => rfl
  | cons p L ih => rw [show flat2 (p :: L) = p.1 :: p.2 :: flat2 L from rfl, List.length_cons, List.length_cons, ih, List.length_cons]; omega
theorem flat2_at (L : List (Int × Int)) : ∀ k, k < L.length → (flat2 L)[2 * k]?.getD 0 = (L[k]?.getD (0, 0)).1 ∧ (flat2 L)[2 * k + 1]?.getD 0 = (L[k]?.getD (0, 0)).2 := by
  induction L with
  | nil => intro k hk; simp at hk
  | cons p L ih =>
    intro k hk
    rw [show flat2 (p :: L) = p.1 :: p.2 :: flat2 L from rfl]
    cases k with
    | zero => exact ⟨rfl, rfl⟩
    | succ k =>
      have := ih k (by simpa using hk)
      rw [show 2 * (k + 1) = 2 * k + 1 + 1 by omega]
      simpa using this
theorem inR_drop (L : List (Int × Int)) (r : Int) (k : Nat) (hk : k < L.length) : inR (L.drop k) r = ((decide ((L[k]?.getD (0, 0)).1 ≤ r) && decide (r ≤ (L[k]?.getD (0, 0)).2)) || inR (L.drop (k + 1)) r) := by
  rw [List.drop_eq_getElem_cons hk, inR_cons, List.getElem?_eq_getElem hk]
  rfl

set_option maxHeartbeats 1000000 in
theorem within_any (ao : Option Addr) (cap : Nat) (L : List (Int × Int)) (hL : L.length ≤ 1000) (r : Int) (w : World) (hR : ReadsI w .i32 ao (flat2 L)) :
    Calls Tryd.prog 116 #[.int .i32 r, .slice ao (flat2 L).length cap] w fun e w' => e = .returned (.bool (inR L r)) ∧ w = w' := by
  have HR := Lib.hid hR
  obtain ⟨N, hN⟩ : ∃ N, (flat2 L).length = N := ⟨_, rfl⟩
  have hNL : N = 2 * L.length := by rw [← hN, flat2_len]
  rw [hN]
  have HN := Lib.hid hN
  have HNL := Lib.hid hNL
  have hN2 : N ≤ 2000 := by omega
  clear hR hN hNL
  go_enter Tryd.func116, Tryd.ntmps116
  go_wp2_with fail
  go_loopw [5] (fun i wr => ∃ j k, Hid (j = 2 * k) ∧ k ≤ L.length ∧ i = .int .i64 (j : Nat) ∧ w = wr ∧ Hid (inR L r = inR (L.drop k) r)) (fun i _ => N - (intOf i).toNat)
  case atStart => exact ⟨0, 0, Lib.hid rfl, Nat.zero_le _, rfl, rfl, Lib.hid rfl⟩
  case round =>
    obtain ⟨j, k, hj, hk, rfl, rfl, hI⟩ := hrel
    by_cases hlt : k < L.length
    · have hne : flat2 L ≠ [] := by intro e; have := HN.out; rw [e] at this; have := HNL.out; simp at *; omega
      rcases HR.out with h0 | ⟨g, o, rfl, hc⟩
      · exact absurd h0 hne
      · have h2 := HNL.out
        have h3 := hj.out
        have e0 := hc j (by rw [HN.out]; omega)
        have e1 := hc (j + 1) (by rw [HN.out]; omega)
        have hat := flat2_at L k hlt
        rw [← h3] at hat
        rw [hat.1] at e0
        rw [hat.2] at e1
        have hD := inR_drop L r k hlt
        obtain ⟨p1, hp1⟩ : ∃ p, (L[k]?.getD (0, 0)).1 = p := ⟨_, rfl⟩
        obtain ⟨p2, hp2⟩ : ∃ p, (L[k]?.getD (0, 0)).2 = p := ⟨_, rfl⟩
        rw [hp1] at e0 hD
        rw [hp2] at e1 hD
        have hki : (j : Int) + 1 < (N : Int) := by omega
        have hki' : (j : Int) < (N : Int) := by omega
        have hk0 : (0 : Int) ≤ (j : Int) := by omega
        have hj2 : j ≤ 2000 := by omega
        have HD := Lib.hid hD
        clear hc hat hp1 hp2 hne h2 h3 hD
        by_cases hb1 : p1 ≤ r
        · by_cases hb2 : r ≤ p2
          · go_wp2_with fail
            go_ret
            refine ⟨ret_bool ?_, rfl⟩
            rw [hI.out, HD.out, decide_eq_true hb1, decide_eq_true hb2]
            rfl
          · have hb2' : p2 < r := by omega
            have HI := Lib.hid (show inR L r = inR (L.drop (k + 1)) r by rw [hI.out, HD.out, decide_eq_true hb1, decide_eq_false hb2]; rfl)
            have HJ := Lib.hid (show j + 2 = 2 * (k + 1) by have := hj.out; omega)
            go_wp2_with fail
            exact ⟨⟨j + 2, k + 1, HJ, hlt, by go_num, trivial, HI⟩, by simp [intOf]; omega⟩
        · have hb1' : r < p1 := by omega
          have HI := Lib.hid (show inR L r = inR (L.drop (k + 1)) r by rw [hI.out, HD.out, decide_eq_false hb1]; rfl)
          have HJ := Lib.hid (show j + 2 = 2 * (k + 1) by have := hj.out; omega)
          go_wp2_with fail
          exact ⟨⟨j + 2, k + 1, HJ, hlt, by go_num, trivial, HI⟩, by simp [intOf]; omega⟩
    · have hki : (N : Int) ≤ (j : Int) + 1 := by have := HNL.out; have := hj.out; omega
      have hj2 : j ≤ 2000 := by have := hj.out; omega
      have HI := Lib.hid (show inR L r = false by rw [hI.out, List.drop_of_length_le (by omega)]; rfl)
      go_wp2_with fail
      go_ret
      exact ⟨ret_bool HI.out.symm, rfl⟩

theorem within_lit (L : List (Int × Int)) (hL : L.length ≤ 1000) (N : Nat) (hN : (flat2 L).length = N) (r : Int) (w : World) (xs : Array Value) (hx : xs = ((flat2 L).map (Value.int .i32)).toArray) (b : Nat) (hb : b = w.heap.size) (cap : Nat) (t : TypeId) :
    Calls Tryd.prog 116 #[.int .i32 r, .slice (some ⟨b, 0, none⟩) N cap] (w.alloc (.cells xs t)) fun e w' => e = .returned (.bool (inR L r)) ∧ w.alloc (.cells xs t) = w' := by
  subst hN
  subst hx
  subst hb
  exact within_any _ cap L hL r _ (reads_new w .i32 (flat2 L) t)

set_option maxRecDepth 10000 in
set_option maxHeartbeats 2000000 in
theorem refblank_any (r : Int) (w : World) : Calls Tryd.prog 114 #[.int .i32 r] w fun e w' => e = .returned (.bool (blankB r)) ∧ Below w.heap.size w w' := by
  have H := Lib.hid (within_lit blankL (by decide))
  go_enter Tryd.func114, Tryd.ntmps114
  go_wp2_with ((go_at_call 116; (with_reducible refine (H.out _ ?_ r _ _ ?_ _ ?_ _ _).mono ?_); rfl; rfl; rfl; rintro e w1 ⟨rfl, rfl⟩))
  go_ret
  exact ⟨rfl, al (Below.refl _ _) _⟩
set_option maxRecDepth 10000 in
set_option maxHeartbeats 2000000 in
theorem refword_any (r : Int) (w : World) : Calls Tryd.prog 115 #[.int .i32 r] w fun e w' => e = .returned (.bool (wordB r)) ∧ Below w.heap.size w w' := by
  have H := Lib.hid (within_lit wordL (by decide))
  go_enter Tryd.func115, Tryd.ntmps115
  go_wp2_with ((go_at_call 116; (with_reducible refine (H.out _ ?_ r _ _ ?_ _ ?_ _ _).mono ?_); rfl; rfl; rfl; rintro e w1 ⟨rfl, rfl⟩))
  go_ret
  exact ⟨rfl, al (Below.refl _ _) _⟩
/-! ### Fold -/
def flat4 (L : List (Int × Int × Int × Int)) : List Int := L.flatMap fun p => [p.1, p.2.1, p.2.2.1, p.2.2.2]
theorem flat4_len (L : List (Int × Int × Int × Int)) : (flat4 L).length = 4 * L.length := by
  induction L with
  | nil => rfl
  | cons p L ih => rw [show flat4 (p :: L) = p.1 :: p.2.1 :: p.2.2.1 :: p.2.2.2 :: flat4 L from rfl]; simp only [List.length_cons, ih]; omega
theorem flat4_at (L : List (Int × Int × Int × Int)) : ∀ k, k < L.length → (flat4 L)[4 * k]?.getD 0 = (L[k]?.getD (0, 0, 0, 0)).1 ∧ (flat4 L)[4 * k + 1]?.getD 0 = (L[k]?.getD (0, 0, 0, 0)).2.1 ∧
    (flat4 L)[4 * k + 2]?.getD 0 = (L[k]?.getD (0, 0, 0, 0)).2.2.1 ∧ (flat4 L)[4 * k + 3]?.getD 0 = (L[k]?.getD (0, 0, 0, 0)).2.2.2 := by
  induction L with
  | nil => intro k hk; simp at hk
  | cons p L ih =>
    intro k hk
    rw [show flat4 (p :: L) = p.1 :: p.2.1 :: p.2.2.1 :: p.2.2.2 :: flat4 L from rfl]
    cases k with
    | zero => exact ⟨rfl, rfl, rfl, rfl⟩
    | succ k =>
      have := ih k (by simpa using hk)
      rw [show 4 * (k + 1) = 4 * k + 1 + 1 + 1 + 1 by omega]
      simpa using this

theorem wpl_world {P : Program} {ops : Array Oper} {Q : Exit → Act → World → Prop} {rest : List Oper} {o : Oper} {a : Act} {w w' : World} {v : Value} {d : Nat} (hw : Region.wanted o (yielded ops a.tmps) = true) (hd : o.dst = some d)
    (he : (execOp a.eval o).run P w = .ok (.value v) w') (h : wpList P ops Q rest (a.put (some d) v) w') : wpList P ops Q (o :: rest) a w := by
  refine wpList_step fun K hK => ?_
  rw [if_pos hw]
  unfold Oper.wp
  rw [he]
  show K (a.put o.dst v) w'
  rw [hd]
  exact hK _ _ h
end Go.Proofs.YtfoppbignompkaaDoor

namespace Go.Proofs.YtfoppbignompkaaDoor
open Go.RowKit

theorem find_drop (L : List (Int × Int × Int × Int)) (r : Int) (k : Nat) (hk : k < L.length) : (L.drop k).find? (fitB r) = if fitB r (L[k]?.getD (0, 0, 0, 0)) = true then some (L[k]?.getD (0, 0, 0, 0)) else (L.drop (k + 1)).find? (fitB r) := by
  rw [List.drop_eq_getElem_cons hk, List.find?_cons, List.getElem?_eq_getElem hk]
  simp only [Option.getD_some]
  cases fitB r L[k] <;> simp
theorem fold_rows : ∀ q ∈ foldL, 0 ≤ q.1 ∧ q.2.1 ≤ 100000 ∧ (q.2.2.1 = 1 ∨ q.2.2.1 = 2) ∧ -100000 ≤ q.2.2.2 ∧ q.2.2.2 ≤ 100000 := by decide +kernel

end Go.Proofs.YtfoppbignompkaaDoor

namespace Go.Proofs.YtfoppbignompkaaDoor
open Go.RowKit

theorem ka_next (w : World) (hT : Tabs w) : Calls Tryd.prog 24 #[.string ⟨#[97, 98, 32, 99, 100]⟩, .int .i64 0] w fun e w' => e = .returned (.int .i64 3) ∧ Below w.heap.size w w' := by
  have h := next_any ⟨#[97, 98, 32, 99, 100]⟩ (by decide) 0 w hT
  have e1 : nextV (bs ⟨#[97, 98, 32, 99, 100]⟩) (intoM (bs ⟨#[97, 98, 32, 99, 100]⟩) 0) = 3 := by decide +kernel
  rw [e1] at h
  exact h
theorem ka_back (w : World) (hT : Tabs w) : Calls Tryd.prog 23 #[.string ⟨#[97, 98, 32, 99, 100]⟩, .int .i64 5] w fun e w' => e = .returned (.int .i64 3) ∧ Below w.heap.size w w' := by
  have h := kback_any ⟨#[97, 98, 32, 99, 100]⟩ (by decide) 5 w hT
  have e1 : backV (bs ⟨#[97, 98, 32, 99, 100]⟩) (intoM (bs ⟨#[97, 98, 32, 99, 100]⟩) 5) = 3 := by decide +kernel
  rw [e1] at h
  exact h
end Go.Proofs.YtfoppbignompkaaDoor

namespace Go.Proofs.YtfoppbignompkaaDoor
open Go.RowKit

/-- The characters number i of two texts are alike. -/
def sameAt (a b : Bs) (i : Nat) : Bool :=
  let c := (tk a)[i]?.getD (0, 0)
  let d := (tk b)[i]?.getD (0, 0)
  (rightR (c.1 : Nat) c.2 == rightR (d.1 : Nat) d.2) && (if rightR (c.1 : Nat) c.2 = true then foldZ (c.1 : Nat) == foldZ (d.1 : Nat) else by' a (atN a i) == by' b (atN b i))
def alikeB (a b : Bs) : Bool := decide (countN a = countN b ∧ ∀ i, i < countN a → sameAt a b i = true)
theorem alike_t {a b : Bs} (h1 : countN a = countN b) (h2 : ∀ i, i < countN a → sameAt a b i = true) : alikeB a b = true := decide_eq_true ⟨h1, h2⟩
theorem alike_len {a b : Bs} (h1 : countN a ≠ countN b) : alikeB a b = false := decide_eq_false fun h => h1 h.1
theorem alike_at {a b : Bs} {i : Nat} (h1 : i < countN a) (h2 : sameAt a b i = false) : alikeB a b = false := decide_eq_false fun h => by rw [h.2 i h1] at h2; cases h2

/-- The character at a text's beginning, cut where the character number k begins. -/
theorem head_at {a : Bs} {A : ByteArray} {k : Nat} (hA : bs A = a.drop (atN a k)) (hk : k < countN a) : A.size ≠ 0 ∧ Lib.decodeL (bs A) = (tk a)[k]?.getD (0, 0) ∧ by' (bs A) 0 = by' a (atN a k) ∧ (Lib.decodeL (bs A)).2 ≤ A.size ∧ 1 ≤ (Lib.decodeL (bs A)).2 ∧
    bs (A.extract (Lib.decodeL (bs A)).2 A.size) = a.drop (atN a (k + 1)) := by
  have hc := cut_at a k (by omega)
  have hlt := atN_lt a (show k < countN a from hk) (Nat.le_refl _)
  rw [atN_full] at hlt
  have hne : a.drop (atN a k) ≠ [] := by intro e; have := congrArg List.length e; simp at this; omega
  have hg : (tk a)[k]?.getD (0, 0) = Lib.decodeL (a.drop (atN a k)) := by
    have h := hc.get hlt
    rw [List.length_take, Nat.min_eq_left (by unfold countN at hk; omega)] at h
    exact h
  have hs := atN_succ a k hk
  rw [hg] at hs
  have hw := wid_le (a.drop (atN a k)) hne
  have hsz : A.size = a.length - atN a k := by rw [size_bs, hA, List.length_drop]
  refine ⟨by omega, by rw [hA, hg], by rw [hA, by_drop, Nat.add_zero], by rw [hA]; simpa [hsz] using hw, by rw [hA]; exact (wid_bounds _).1, ?_⟩
  rw [bs_drop, hA, List.drop_drop, hs]

theorem sizes_at {a : Bs} {A : ByteArray} {k : Nat} (hA : bs A = a.drop (atN a k)) (hk : k ≤ countN a) : (A.size = 0 ↔ k = countN a) := by
  have hsz : A.size = a.length - atN a k := by rw [size_bs, hA, List.length_drop]
  constructor
  · intro h
    rcases Nat.lt_or_ge k (countN a) with h1 | h1
    · have := atN_lt a h1 (Nat.le_refl _)
      rw [atN_full] at this
      omega
    · omega
  · rintro rfl
    rw [atN_full] at hsz
    omega

theorem first_byte (A : ByteArray) (h : 0 < A.size) : by' (bs A) 0 = (A[0]'h).toNat := by
  obtain ⟨⟨l⟩⟩ := A
  cases l with
  | nil => simp [ByteArray.size] at h
  | cons x l => rfl
def lenS : Value → Nat
  | .string s => s.size
  | _ => 0
end Go.Proofs.YtfoppbignompkaaDoor

namespace Go.Proofs.YtfoppbignompkaaDoor
open Go.RowKit

theorem s3_keep {W0 W W' : World} {g1 i1 g2 i2 g3 i3 : Nat} {v1 v2 v3 : Value} (H : W.cell? ⟨g1, i1, none⟩ = some v1 ∧ W.cell? ⟨g2, i2, none⟩ = some v2 ∧ W.cell? ⟨g3, i3, none⟩ = some v3 ∧ Below W0.heap.size W0 W) (hb : Below W.heap.size W W') :
    W'.cell? ⟨g1, i1, none⟩ = some v1 ∧ W'.cell? ⟨g2, i2, none⟩ = some v2 ∧ W'.cell? ⟨g3, i3, none⟩ = some v3 ∧ Below W0.heap.size W0 W' :=
  ⟨cellKeep H.1 hb, cellKeep H.2.1 hb, cellKeep H.2.2.1 hb, nx H.2.2.2 hb⟩
theorem byte_at (A : ByteArray) (p : Nat) (h : p < A.size) : by' (bs A) p = (A[p]'h).toNat := by
  obtain ⟨⟨l⟩⟩ := A
  have h' : p < l.length := h
  show (l.getD p 0).toNat = _
  rw [List.getD, List.getElem?_eq_getElem h']
  rfl
theorem rune_le (l : Bs) (k : Nat) : -2147483648 ≤ (((tk l)[k]?.getD (0, 0)).1 : Int) ∧ (((tk l)[k]?.getD (0, 0)).1 : Int) ≤ 2147483647 := by
  by_cases h : k < (tk l).length
  · exact runesZ_wf l _ (List.mem_map.2 ⟨(tk l)[k]?.getD (0, 0), by rw [List.getElem?_eq_getElem h]; exact List.getElem_mem _, rfl⟩)
  · rw [List.getElem?_eq_none (by omega)]; simp

/-! ### An equivalence -/
theorem same_iff (a b : Bs) (i : Nat) : sameAt a b i = true ↔
    (rightR (((tk a)[i]?.getD (0, 0)).1 : Nat) ((tk a)[i]?.getD (0, 0)).2 = rightR (((tk b)[i]?.getD (0, 0)).1 : Nat) ((tk b)[i]?.getD (0, 0)).2) ∧
    (rightR (((tk a)[i]?.getD (0, 0)).1 : Nat) ((tk a)[i]?.getD (0, 0)).2 = true → foldZ (((tk a)[i]?.getD (0, 0)).1 : Nat) = foldZ (((tk b)[i]?.getD (0, 0)).1 : Nat)) ∧
    (rightR (((tk a)[i]?.getD (0, 0)).1 : Nat) ((tk a)[i]?.getD (0, 0)).2 = false → by' a (atN a i) = by' b (atN b i)) := by
  unfold sameAt
  dsimp only
  generalize rightR (((tk a)[i]?.getD (0, 0)).1 : Nat) ((tk a)[i]?.getD (0, 0)).2 = x
  generalize rightR (((tk b)[i]?.getD (0, 0)).1 : Nat) ((tk b)[i]?.getD (0, 0)).2 = y
  cases x <;> cases y <;> simp
theorem same_symm {a b : Bs} {i : Nat} (h : sameAt a b i = true) : sameAt b a i = true := by
  rw [same_iff] at h ⊢
  exact ⟨h.1.symm, fun e => (h.2.1 (h.1.trans e)).symm, fun e => (h.2.2 (h.1.trans e)).symm⟩
theorem same_trans {a b c : Bs} {i : Nat} (h : sameAt a b i = true) (k : sameAt b c i = true) : sameAt a c i = true := by
  rw [same_iff] at h k ⊢
  exact ⟨h.1.trans k.1, fun e => (h.2.1 e).trans (k.2.1 (h.1.symm.trans e)), fun e => (h.2.2 e).trans (k.2.2 (h.1.symm.trans e))⟩
theorem alike_iff (a b : Bs) : alikeB a b = true ↔ countN a = countN b ∧ ∀ i, i < countN a → sameAt a b i = true := decide_eq_true_iff
theorem alike_refl (a : Bs) : alikeB a a = true := (alike_iff a a).2 ⟨rfl, fun i _ => (same_iff a a i).2 ⟨rfl, fun _ => rfl, fun _ => rfl⟩⟩
theorem alike_symm (a b : Bs) : alikeB b a = alikeB a b := by
  rw [Bool.eq_iff_iff, alike_iff, alike_iff]
  exact ⟨fun h => ⟨h.1.symm, fun i hi => same_symm (h.2 i (by rw [h.1]; exact hi))⟩, fun h => ⟨h.1.symm, fun i hi => same_symm (h.2 i (by rw [h.1]; exact hi))⟩⟩
theorem alike_trans {a b c : Bs} (h : alikeB a b = true) (k : alikeB b c = true) : alikeB a c = true := by
  rw [alike_iff] at h k ⊢
  exact ⟨h.1.trans k.1, fun i hi => same_trans (h.2 i hi) (k.2 i (by rw [← h.1]; exact hi))⟩

end Go.Proofs.YtfoppbignompkaaDoor

namespace Go.Proofs.YtfoppbignompkaaDoor
open Go.RowKit

theorem stops_pair (l : Bs) : (stopsL l).Pairwise (· < ·) := by
  unfold stopsL
  rw [List.pairwise_append]
  refine ⟨?_, List.pairwise_singleton _ _, ?_⟩
  · rw [List.pairwise_map]
    have h : ((List.range (countN l)).filter (stopAt l)).Pairwise (· < ·) := List.Pairwise.filter _ List.pairwise_lt_range
    refine List.Pairwise.imp_of_mem (fun {i j} _ hj hij => ?_) h
    have hj := List.mem_range.1 (List.mem_filter.1 hj).1
    exact atN_lt l hij (by omega)
  · intro x hx y hy
    obtain ⟨i, hi, rfl⟩ := List.mem_map.1 hx
    have hi := List.mem_range.1 (List.mem_filter.1 hi).1
    obtain rfl : y = l.length := by simpa using hy
    rw [← atN_full l]
    exact atN_lt l hi (Nat.le_refl _)
theorem stops_lt (l : Bs) {i j : Nat} (hj : j < (stopsL l).length) (h : i < j) : (stopsL l)[i]?.getD 0 < (stopsL l)[j]?.getD 0 := by
  have := List.pairwise_iff_getElem.1 (stops_pair l) i j (by omega) hj h
  rw [List.getElem?_eq_getElem (show i < (stopsL l).length by omega), List.getElem?_eq_getElem hj]
  exact this
theorem stops_ne (l : Bs) : 0 < (stopsL l).length := by unfold stopsL; simp
theorem stops_last (l : Bs) : (stopsL l)[(stopsL l).length - 1]?.getD 0 = l.length := by unfold stopsL; simp
theorem stops_at (l : Bs) {i : Nat} (h : i < (stopsL l).length) : ∃ m, m ≤ countN l ∧ (stopsL l)[i]?.getD 0 = atN l m := by
  have hm : (stopsL l)[i]?.getD 0 ∈ stopsL l := by rw [List.getElem?_eq_getElem h]; exact List.getElem_mem _
  unfold stopsL at hm ⊢
  rcases List.mem_append.1 hm with h1 | h1
  · obtain ⟨k, hk, e⟩ := List.mem_map.1 h1
    exact ⟨k, by have := List.mem_range.1 (List.mem_filter.1 hk).1; omega, e.symm⟩
  · exact ⟨countN l, Nat.le_refl _, by rw [atN_full]; simpa using h1⟩
theorem stops_le (l : Bs) {i : Nat} (h : i < (stopsL l).length) : (stopsL l)[i]?.getD 0 ≤ l.length := by
  obtain ⟨m, hm, e⟩ := stops_at l h
  rw [e]
  exact (cut_at l m hm).1
theorem stops_count (l : Bs) : (stopsL l).length ≤ countN l + 1 := by
  unfold stopsL
  have := List.length_filter_le (stopAt l) (List.range (countN l))
  simpa using this

theorem into_at (l : Bs) (m : Nat) (hm : m ≤ countN l) : intoM l ((atN l m : Nat) : Int) = m := by
  have h := of_at l m hm
  have hc : clampN l ((atN l m : Nat) : Int) = atN l m := by unfold clampN; omega
  unfold intoM
  rw [hc]
  exact h.2
/-- Next, from a border. -/
theorem next_at (l : Bs) (p m i : Nat) (hm : m ≤ countN l) (hp : p = atN l m) (hi : i < (stopsL l).length) (h1 : ∀ j, j < i → (stopsL l)[j]?.getD 0 ≤ p) (h2 : p < (stopsL l)[i]?.getD 0) :
    nextV l (intoM l (p : Nat)) = (stopsL l)[i]?.getD 0 := by
  subst hp
  rw [into_at l m hm, ← stops_next l m hm]
  have : (stopsL l).find? (fun x => decide (atN l m < x)) = some ((stopsL l)[i]?.getD 0) := by
    rw [List.find?_eq_some_iff_getElem]
    refine ⟨by simpa using h2, i, hi, by rw [List.getElem?_eq_getElem hi]; rfl, fun j hj => ?_⟩
    have := h1 j hj
    rw [List.getElem?_eq_getElem (show j < (stopsL l).length by omega)] at this
    simpa using this
  rw [this]
  rfl
theorem next_end (l : Bs) : nextV l (intoM l (l.length : Nat)) = l.length := by
  have e : (l.length : Nat) = atN l (countN l) := (atN_full l).symm
  have h : nextV l (intoM l ((atN l (countN l) : Nat) : Int)) = l.length := by
    rw [into_at l _ (Nat.le_refl _)]
    exact nextV_of (.inr ⟨fun i h1 h2 => by omega, rfl⟩)
  rw [← e] at h
  exact h
/-- Back, from a stop. -/
theorem back_at (l : Bs) (i : Nat) (hi : i + 1 < (stopsL l).length) : backV l (intoM l (((stopsL l)[i + 1]?.getD 0 : Nat) : Int)) = (stopsL l)[i]?.getD 0 := by
  obtain ⟨m, hm, e⟩ := stops_at l hi
  rw [e, into_at l m hm, ← stops_back l m hm, ← e]
  have : (stopsL l).reverse.find? (fun x => decide (x < (stopsL l)[i + 1]?.getD 0)) = some ((stopsL l)[i]?.getD 0) := by
    rw [List.find?_eq_some_iff_getElem]
    refine ⟨decide_eq_true (stops_lt l hi (Nat.lt_succ_self i)), (stopsL l).length - 1 - i, by rw [List.length_reverse]; omega, ?_, fun j hj => ?_⟩
    · rw [List.getElem_reverse, List.getElem?_eq_getElem (show i < (stopsL l).length by omega)]
      simp only [Option.getD_some]
      congr 1
      omega
    · rw [List.getElem_reverse]
      have h3 : ¬ (stopsL l)[(stopsL l).length - 1 - j]?.getD 0 < (stopsL l)[i + 1]?.getD 0 := by
        by_cases e : (stopsL l).length - 1 - j = i + 1
        · rw [e]; omega
        · have := stops_lt l (i := i + 1) (j := (stopsL l).length - 1 - j) (by omega) (by omega)
          omega
      rw [List.getElem?_eq_getElem (show (stopsL l).length - 1 - j < (stopsL l).length by omega)] at h3
      simpa using h3
  rw [this]
  rfl
theorem back_first (l : Bs) : backV l (intoM l (((stopsL l)[0]?.getD 0 : Nat) : Int)) = 0 := by
  obtain ⟨m, hm, e⟩ := stops_at l (stops_ne l)
  rw [e, into_at l m hm, ← stops_back l m hm, ← e]
  have : (stopsL l).reverse.find? (fun x => decide (x < (stopsL l)[0]?.getD 0)) = none := by
    rw [List.find?_eq_none]
    intro x hx
    obtain ⟨j, hj, rfl⟩ := List.mem_iff_getElem.1 (List.mem_reverse.1 hx)
    have h3 : ¬ (stopsL l)[j]?.getD 0 < (stopsL l)[0]?.getD 0 := by
      by_cases e : j = 0
      · rw [e]; omega
      · have := stops_lt l (i := 0) (j := j) hj (by omega)
        omega
    rw [List.getElem?_eq_getElem hj] at h3
    simpa using h3
  rw [this]
  rfl
theorem back_zero (l : Bs) : backV l (intoM l 0) = 0 := by
  have h : intoM l ((atN l 0 : Nat) : Int) = 0 := into_at l 0 (Nat.zero_le _)
  rw [atN_zero] at h
  rw [show (0 : Int) = ((0 : Nat) : Int) from rfl, h]
  rfl
/-- A place brought into a text, and once more. -/
theorem into_into (l : Bs) (c : Int) : intoM l ((atN l (intoM l c) : Nat) : Int) = intoM l c := into_at l _ (into_find l c).1
theorem into_near (l : Bs) (c : Int) : clampN l c - atN l (intoM l c) ≤ 3 := by
  unfold intoM
  by_cases h : clampN l c < l.length
  · obtain ⟨n, h1, h2, h3, h4, h5, _⟩ := of_find l (clampN l c) h
    rw [h2]
    exact h5
  · have e : clampN l c = l.length := by have : clampN l c ≤ l.length := by unfold clampN; omega
                                         omega
    rw [e, ofT_end, atN_full]
    omega
end Go.Proofs.YtfoppbignompkaaDoor

namespace Go.Proofs.YtfoppbignompkaaDoor
open Go.RowKit

set_option maxHeartbeats 4000000 in
theorem refinto_any (s : ByteArray) (hs : s.size ≤ 1048576) (c : Int) (w : World) :
    Calls Tryd.prog 103 #[.string s, .int .i64 c] w fun e w' => e = .returned (.int .i64 (atN (bs s) (intoM (bs s) c) : Nat)) ∧ Below w.heap.size w w' := by
  obtain ⟨-, hMq, hq, hM1, hM2⟩ := into_find (bs s) c
  have hcl : (clampN (bs s) c : Int) = min (max c 0) (s.size : Int) := by unfold clampN; rw [size_bs]; omega
  have hnear := into_near (bs s) c
  have hfull : clampN (bs s) c = s.size → atN (bs s) (intoM (bs s) c) = s.size := by
    intro e
    unfold intoM
    rw [e, size_bs, ofT_end]
    exact atN_full (bs s)
  obtain ⟨M, hM⟩ : ∃ M, atN (bs s) (intoM (bs s) c) = M := ⟨_, rfl⟩
  obtain ⟨q, hqq⟩ : ∃ q, clampN (bs s) c = q := ⟨_, rfl⟩
  rw [← size_bs] at hq
  rw [hM, hqq] at hMq hfull
  rw [hM] at hM1 hM2 ⊢
  rw [hqq] at hq hM2 hcl
  have HM := Lib.hid (And.intro hM1 hM2)
  clear hM hqq hM1 hM2 hnear
  go_enter Tryd.func103, Tryd.ntmps103
  by_cases h0 : c < 0
  · have HV := Lib.hid (show M = 0 by omega)
    clear hcl hfull
    go_wp2_with fail
    go_ret
    exact ⟨ret_int (by rw [HV.out]; rfl), Below.refl _ _⟩
  · by_cases h1 : (s.size : Int) < c
    · have HV := Lib.hid (show M = s.size from hfull (by omega))
      clear hcl hfull
      go_wp2_with fail
      go_ret
      exact ⟨ret_int (by rw [HV.out]), Below.refl _ _⟩
    · obtain rfl : c = (q : Int) := by omega
      have hqs : (q : Int) ≤ (s.size : Int) := by omega
      have hq0 : (0 : Int) ≤ (q : Int) := by omega
      have hd1 : decide (s.size < q) = false := decide_eq_false (by omega)
      have hd0 : decide ((q : Int) < 0) = false := decide_eq_false (by omega)
      clear hcl hfull h0 h1
      go_wp2_with fail
      clear hqs hq0 hd0 hd1
      go_loopw [1] (fun v wr => ∃ q' : Nat, v = .int .i64 (q' : Nat) ∧ M ≤ q' ∧ q' ≤ q ∧ Below w.heap.size w wr) (fun v _ => (intOf v).toNat)
      case atStart => exact ⟨q, rfl, hMq, Nat.le_refl _, Below.refl _ _⟩
      case round =>
        obtain ⟨q', rfl, h1, h2, hb⟩ := hrel
        by_cases he : q' = M
        · subst he
          have HB := Lib.hid (refbegs_any s hs (q' : Nat))
          rw [begB_t (by rw [← size_bs]; omega) HM.out.1] at HB
          go_wp2_with (first | (go_at_call 48; (with_reducible refine (HB.out _).mono ?_); rintro e w2 ⟨rfl, hb2⟩))
          go_ret
          exact ⟨rfl, hb.trans (hb2.mono hb.size)⟩
        · have HB := Lib.hid (refbegs_any s hs (q' : Nat))
          rw [begB_f (by rw [← size_bs]; omega) (HM.out.2 q' (by omega) h2)] at HB
          have hq1 : 1 ≤ q' := by omega
          have HK := Lib.hid (show ((q' : Int) - 1) = ((q' - 1 : Nat) : Int) by omega)
          have hqb : q' ≤ 1048576 := by omega
          go_wp2_with (first | (go_at_call 48; (with_reducible refine (HB.out _).mono ?_); rintro e w2 ⟨rfl, hb2⟩))
          exact ⟨⟨q' - 1, congrArg (Value.int .i64) HK.out, by omega, by omega, hb.trans (hb2.mono hb.size)⟩, by simp [intOf]; omega⟩

/-- The class of a character, as the document has it. -/
theorem cls_wrong {r n : Nat} (h : rightR (r : Int) n = false) : cls (r : Nat) = 2 := by
  unfold rightR at h
  simp at h
  rw [h.1]
  decide +kernel
set_option maxHeartbeats 4000000 in
theorem refclass_any (p r n : Nat) (w : World) :
    Calls Tryd.prog 111 #[.agg #[.int .i64 (p : Nat), .int .i32 (r : Nat), .int .i64 (n : Nat), .bool (rightR (r : Int) n)]] w fun e w' => e = .returned (.int .i64 (cls (r : Nat) : Nat)) ∧ Below w.heap.size w w' := by
  have HB := Lib.hid (fun w => refblank_any (r : Int) w)
  have HW := Lib.hid (fun w => refword_any (r : Int) w)
  have hwr := cls_wrong (r := r) (n := n)
  obtain ⟨ri, hri⟩ : ∃ x, rightR (r : Int) n = x := ⟨_, rfl⟩
  rw [hri] at hwr ⊢
  obtain ⟨b1, hb1⟩ : ∃ b, blankB (r : Int) = b := ⟨_, rfl⟩
  obtain ⟨b2, hb2⟩ : ∃ b, wordB (r : Int) = b := ⟨_, rfl⟩
  have hc : cls (r : Nat) = if b1 = true then 0 else if b2 = true then 1 else 2 := by unfold cls; rw [hb1, hb2]
  obtain ⟨c, hcc⟩ : ∃ c, cls ((r : Nat) : Int) = c := ⟨_, rfl⟩
  rw [hb1] at HB
  rw [hb2] at HW
  rw [hcc] at hwr hc ⊢
  have HWR := Lib.hid hwr
  have HC := Lib.hid hc
  clear hri hb1 hb2 hcc hwr hc
  go_enter Tryd.func111, Tryd.ntmps111
  cases ri
  · have HV := Lib.hid (HWR.out rfl)
    go_wp2_with fail
    go_ret
    exact ⟨ret_int (by rw [HV.out]; rfl), al (Below.refl _ _) _⟩
  · have c1 : (w.alloc (.cells #[.int .i64 (p : Nat), .int .i32 (r : Nat), .int .i64 (n : Nat), .bool true] 107)).cell? ⟨w.heap.size, 1, none⟩ = some (.int .i32 (r : Nat)) := by
      have := cells_new w [.int .i64 (p : Nat), .int .i32 (r : Nat), .int .i64 (n : Nat), .bool true] 107 1 (.int .i32 (r : Nat)) rfl
      rwa [Addr.add_lit] at this
    have c3 : (w.alloc (.cells #[.int .i64 (p : Nat), .int .i32 (r : Nat), .int .i64 (n : Nat), .bool true] 107)).cell? ⟨w.heap.size, 3, none⟩ = some (.bool true) := by
      have := cells_new w [.int .i64 (p : Nat), .int .i32 (r : Nat), .int .i64 (n : Nat), .bool true] 107 3 (.bool true) rfl
      rwa [Addr.add_lit] at this
    cases b1
    · cases b2
      · have HV := Lib.hid (show c = 2 by rw [HC.out]; rfl)
        go_wp2_with (first
          | (go_at_call 114; (with_reducible refine (HB.out _).mono ?_); rintro e w1 ⟨rfl, hb1⟩; have c1' := cellKeep c1 hb1; have c3' := cellKeep c3 hb1)
          | (go_at_call 115; (with_reducible refine (HW.out _).mono ?_); rintro e w2 ⟨rfl, hb2⟩))
        go_ret
        exact ⟨ret_int (by rw [HV.out]; rfl), nx (nx (al (Below.refl _ _) _) hb1) hb2⟩
      · have HV := Lib.hid (show c = 1 by rw [HC.out]; rfl)
        go_wp2_with (first
          | (go_at_call 114; (with_reducible refine (HB.out _).mono ?_); rintro e w1 ⟨rfl, hb1⟩; have c1' := cellKeep c1 hb1; have c3' := cellKeep c3 hb1)
          | (go_at_call 115; (with_reducible refine (HW.out _).mono ?_); rintro e w2 ⟨rfl, hb2⟩))
        go_ret
        exact ⟨ret_int (by rw [HV.out]; rfl), nx (nx (al (Below.refl _ _) _) hb1) hb2⟩
    · have HV := Lib.hid (show c = 0 by rw [HC.out]; rfl)
      go_wp2_with (first | (go_at_call 114; (with_reducible refine (HB.out _).mono ?_); rintro e w1 ⟨rfl, hb1⟩))
      go_ret
      exact ⟨ret_int (by rw [HV.out]; rfl), nx (al (Below.refl _ _) _) hb1⟩
end Go.Proofs.YtfoppbignompkaaDoor

namespace Go.Proofs.YtfoppbignompkaaDoor
open Go.RowKit

theorem info_int5 : (Tryd.prog.info? 3).map (fun i => (i.zero, i.size, i.bytes)) = some (some (.int .i64 0), 1, 8) := by kernel_rfl

/-- the stops among the first k characters -/
def stopsTo (l : Bs) (k : Nat) : List Int := ((List.range k).filter (stopAt l)).map fun i => ((atN l i : Nat) : Int)
theorem stopsTo_no (l : Bs) (k : Nat) (h : stopAt l k = false) : stopsTo l (k + 1) = stopsTo l k := by simp [stopsTo, List.range_succ, h]
theorem stopsTo_yes (l : Bs) (k : Nat) (h : stopAt l k = true) : stopsTo l (k + 1) = stopsTo l k ++ [((atN l k : Nat) : Int)] := by simp [stopsTo, List.range_succ, h]
theorem stopsTo_le (l : Bs) (k : Nat) : (stopsTo l k).length ≤ k := by
  have := List.length_filter_le (stopAt l) (List.range k)
  simpa [stopsTo] using this
theorem stopsTo_full (l : Bs) : stopsTo l (countN l) ++ [(l.length : Int)] = (stopsL l).map fun (x : Nat) => (x : Int) := by
  unfold stopsTo stopsL
  rw [List.map_append, List.map_map]
  rfl

end Go.Proofs.YtfoppbignompkaaDoor

namespace Go.Proofs.YtfoppbignompkaaDoor
open Go.RowKit

theorem find_back (l : Bs) (M i : Nat) (hi : i < (stopsL l).length) (h1 : (stopsL l)[i]?.getD 0 < M) (h2 : ∀ j, i < j → j < (stopsL l).length → ¬ (stopsL l)[j]?.getD 0 < M) : (stopsL l).reverse.find? (fun x => decide (x < M)) = some ((stopsL l)[i]?.getD 0) := by
  rw [List.find?_eq_some_iff_getElem]
  refine ⟨decide_eq_true h1, (stopsL l).length - 1 - i, by rw [List.length_reverse]; omega, ?_, fun j hj => ?_⟩
  · rw [List.getElem_reverse, List.getElem?_eq_getElem hi]
    simp only [Option.getD_some]
    congr 1
    omega
  · rw [List.getElem_reverse]
    have h3 := h2 ((stopsL l).length - 1 - j) (by omega) (by omega)
    rw [List.getElem?_eq_getElem (show (stopsL l).length - 1 - j < (stopsL l).length by omega)] at h3
    simpa using h3
theorem back_from (l : Bs) (c : Int) (i : Nat) (hi : i < (stopsL l).length) (h1 : (stopsL l)[i]?.getD 0 < atN l (intoM l c)) (h2 : ∀ j, i < j → j < (stopsL l).length → ¬ (stopsL l)[j]?.getD 0 < atN l (intoM l c)) : backV l (intoM l c) = (stopsL l)[i]?.getD 0 := by
  rw [← stops_back l _ (into_find l c).1, find_back l _ i hi h1 h2]
  rfl
theorem back_none (l : Bs) (c : Int) (h : ∀ j, j < (stopsL l).length → ¬ (stopsL l)[j]?.getD 0 < atN l (intoM l c)) : backV l (intoM l c) = 0 := by
  have : (stopsL l).reverse.find? (fun x => decide (x < atN l (intoM l c))) = none := by
    rw [List.find?_eq_none]
    intro x hx
    obtain ⟨j, hj, rfl⟩ := List.mem_iff_getElem.1 (List.mem_reverse.1 hx)
    have h3 := h j hj
    rw [List.getElem?_eq_getElem hj] at h3
    simpa using h3
  rw [← stops_back l _ (into_find l c).1, this]
  rfl
theorem next_from (l : Bs) (c : Int) (i : Nat) (hi : i < (stopsL l).length) (h1 : ∀ j, j < i → (stopsL l)[j]?.getD 0 ≤ atN l (intoM l c)) (h2 : atN l (intoM l c) < (stopsL l)[i]?.getD 0) : nextV l (intoM l c) = (stopsL l)[i]?.getD 0 := by
  have h := next_at l (atN l (intoM l c)) (intoM l c) i (into_find l c).1 rfl hi h1 h2
  rw [into_into] at h
  exact h
theorem next_none (l : Bs) (c : Int) (h : ∀ j, j < (stopsL l).length → (stopsL l)[j]?.getD 0 ≤ atN l (intoM l c)) : nextV l (intoM l c) = l.length := by
  have hl := h ((stopsL l).length - 1) (by have := stops_ne l; omega)
  rw [stops_last] at hl
  have hm := (into_find l c).1
  have hle := (cut_at l (intoM l c) hm).1
  have e : intoM l c = countN l := by
    rcases Nat.lt_or_ge (intoM l c) (countN l) with h1 | h1
    · have := atN_lt l h1 (Nat.le_refl _)
      rw [atN_full] at this
      omega
    · omega
  rw [e]
  exact nextV_of (.inr ⟨fun i h1 h2 => by omega, rfl⟩)
end Go.Proofs.YtfoppbignompkaaDoor

namespace Go.Proofs.YtfoppbignompkaaDoor
open Go.RowKit

set_option maxRecDepth 10000 in
set_option maxHeartbeats 8000000 in
theorem refstops_any (s : ByteArray) (hs : s.size ≤ 1048576) (w : World) :
    Calls Tryd.prog 104 #[.string s] w fun e w' => ∃ ao cap, e = .returned (.slice ao (stopsL (bs s)).length cap) ∧ ReadsI w' .i64 ao ((stopsL (bs s)).map fun (x : Nat) => (x : Int)) ∧ Below w.heap.size w w' := by
  obtain ⟨i0, hi, hz0, hz1, hz2⟩ := info_parts info_int5
  have HCA := Lib.hid (chars_at s hs w)
  have hcs := bs_len_le s
  obtain ⟨l, hl⟩ : ∃ l, bs s = l := ⟨_, rfl⟩
  rw [hl] at HCA hcs ⊢
  have HL := Lib.hid hl
  have HF := Lib.hid (stopsTo_full l)
  have hlen : l.length = s.size := by rw [← hl, size_bs]
  obtain ⟨n, hn⟩ : ∃ n, countN l = n := ⟨_, rfl⟩
  rw [hn] at HCA hcs HF
  have HN := Lib.hid hn
  clear hl hn
  go_enter Tryd.func104, Tryd.ntmps104
  go_wp2_with (first | (go_at_call 75; (with_reducible refine HCA.out.mono ?_); rintro e w1 ⟨ao, ca, rfl, hx1, hb1⟩))
  have HX := Lib.hid hx1
  clear hx1
  go_loopw [3, 5] (fun v i wr => ∃ k, k ≤ n ∧ i = .int .i64 (k : Nat) ∧ Hid (wr.ownsRow w1.heap.size 3 1 v (stopsTo l k).length ((stopsTo l k).map (Value.int .i64))) ∧ Below w1.heap.size w1 wr) (fun _ i _ => n - (intOf i).toNat)
  case atStart => exact ⟨0, Nat.zero_le _, rfl, Lib.hid (World.ownsRow_nil _ _ _ _), Below.refl _ _⟩
  case round =>
    obtain ⟨k, hk, rfl, hown, hbr⟩ := hrel
    have hsl := stopsTo_le l k
    have hszr := hbr.size
    by_cases hlt : k < n
    · obtain ⟨g, rfl, x0, x1, x2, x3⟩ := (HX.out.below hbr (Nat.le_refl _)) k (by rw [HN.out]; exact hlt)
      have HC := Lib.hid (fun w => refclass_any (atN l k) ((tk l)[k]?.getD (0, 0)).1 ((tk l)[k]?.getD (0, 0)).2 w)
      rw [show cls ((((tk l)[k]?.getD (0, 0)).1 : Nat) : Int) = clsAt l k from rfl] at HC
      have hki : (k : Int) < (n : Int) := by omega
      have hk0 : (0 : Int) ≤ (k : Int) := by omega
      have hk1 : k ≤ 1048576 := by omega
      obtain ⟨a, ha⟩ : ∃ a, clsAt l k = a := ⟨_, rfl⟩
      obtain ⟨p, hp⟩ : ∃ p, atN l k = p := ⟨_, rfl⟩
      obtain ⟨r, hr⟩ : ∃ r, ((tk l)[k]?.getD (0, 0)).1 = r := ⟨_, rfl⟩
      obtain ⟨v, hv⟩ : ∃ r, ((tk l)[k]?.getD (0, 0)).2 = r := ⟨_, rfl⟩
      obtain ⟨ri, hri⟩ : ∃ x, rightR (r : Int) v = x := ⟨_, rfl⟩
      simp only [hp, hr, hv, ha, hri] at x0 x1 x2 x3 HC
      have HP := Lib.hid hp
      have HA := Lib.hid ha
      clear ha hp hr hv hri
      have k0 := Later.cell x0
      have k1 := Later.cell x1
      have k2 := Later.cell x2
      have k3 := Later.cell x3
      have cC : ∀ p' : Later wr, Calls Tryd.prog 111 #[.agg #[.int .i64 (p : Nat), .int .i32 (r : Nat), .int .i64 (v : Nat), .bool ri]] p'.W fun e w'' => e = .returned (.int .i64 (a : Nat)) ∧ ∃ q : Later wr, w'' = q.W := fun p' => Calls.later_of (HC.out _)
      by_cases ha0 : a = 0
      · subst ha0
        have HST := Lib.hid (stopsTo_no l k (by unfold stopAt; rw [HA.out]; rfl))
        go_wp2_with fail
        refine wp_region_later (by kernel_rfl) (by kernel_rfl) ?_
        repeat (go_big_quiet_step (first | with_reducible exact cC _ | with_reducible exact cJ _))
        refine wpQuiet_nil ?_
        intro _ hw'
        obtain ⟨pq, hw''⟩ := hw'
        subst hw''
        go_wp2_with fail
        exact ⟨⟨k + 1, by omega, by go_num, Lib.hid (by rw [HST.out]; exact owns_below hown.out pq.hb (Nat.le_refl _)), nx hbr pq.hb⟩, by simp [intOf]; omega⟩
      · have ha1 : (((a : Nat) : Int) != 0) = true := bne_iff_ne.2 (by omega)
        have cJ := True.intro
        by_cases hkz : k = 0
        · have hk2 : ((k : Int) == 0) = true := beq_iff_eq.2 (by omega)
          have HST := Lib.hid (stopsTo_yes l k (by unfold stopAt; rw [HA.out, hkz]; simp [ha0]))
          rw [HP.out] at HST
          clear ha0 hkz
          go_wp2_with fail
          refine wp_region_later (by kernel_rfl) (by kernel_rfl) ?_
          repeat (go_big_quiet_step (first | with_reducible exact cC _ | with_reducible exact cJ _))
          refine wpQuiet_nil ?_
          intro _ hw'
          obtain ⟨pq, hw''⟩ := hw'
          subst hw''
          have hbq : Below wr.heap.size wr pq.W := pq.hb
          have x0Q := k0 pq
          have hownQ := owns_below hown.out hbq (Nat.le_refl _)
          have hszQ := hbq.size
          obtain ⟨W, hW⟩ : ∃ W, pq.W = W := ⟨_, rfl⟩
          rw [hW] at hbq x0Q hownQ hszQ ⊢
          have HO := Lib.hid hownQ
          clear k0 k1 k2 k3 cC hown hownQ hW
          go_wp2_with (at_builtin; refine wpList_append_own _ rfl _ _ 53 rfl w1.heap.size 3 i0 (.int .i64 0) 1 8 Tryd.underlying53 hi hz0 hz1 hz2 rfl (by decide) u3 _ _ rfl (HO.out.alloc _) ⟨W.heap.size, 0, none⟩ 1 1 [.int .i64 (p : Nat)] rfl (by simp) (cells_new _ _ _) (by simp [Value.oneCell']) (by unfold maxLen; omega) (by omega) (by rw [World.size_alloc]; omega) ?_; intro v4 w4 hown4 hgrow4 _; have hb4 : Below w1.heap.size w1 w4 := (al (nx hbr hbq) _).grown hgrow4 (by rw [World.size_alloc]; omega) (fun q e => (HO.out.lt q e).1); clear hgrow4)
          exact ⟨⟨k + 1, by omega, by go_num, Lib.hid (by rw [HST.out, List.length_append, List.length_singleton, List.map_append]; exact hown4), hb4⟩, by simp [intOf]; omega⟩
        · have hk2 : ((k : Int) == 0) = false := beq_eq_false_iff_ne.2 (by omega)
          clear cJ
          obtain ⟨j, hj⟩ : ∃ j : Nat, j = k - 1 := ⟨_, rfl⟩
          have hj1 : (k : Int) - 1 = (j : Int) := by omega
          have hj0 : (0 : Int) ≤ (j : Int) := by omega
          have hjn : (j : Int) < (n : Int) := by omega
          obtain ⟨g', hg', y0, y1, y2, y3⟩ := (HX.out.below hbr (Nat.le_refl _)) j (by rw [HN.out]; omega)
          obtain rfl : g = g' := by injection hg' with e1; injection e1
          have HJ := Lib.hid (fun w => refclass_any (atN l j) ((tk l)[j]?.getD (0, 0)).1 ((tk l)[j]?.getD (0, 0)).2 w)
          rw [show cls ((((tk l)[j]?.getD (0, 0)).1 : Nat) : Int) = clsAt l j from rfl] at HJ
          have hso := stop_of (l := l) (i := k) (by omega)
          rw [← hj, HA.out] at hso
          obtain ⟨b, hb⟩ : ∃ b, clsAt l j = b := ⟨_, rfl⟩
          obtain ⟨p', hp'⟩ : ∃ p, atN l j = p := ⟨_, rfl⟩
          obtain ⟨r', hr'⟩ : ∃ r, ((tk l)[j]?.getD (0, 0)).1 = r := ⟨_, rfl⟩
          obtain ⟨v', hv'⟩ : ∃ r, ((tk l)[j]?.getD (0, 0)).2 = r := ⟨_, rfl⟩
          obtain ⟨ri', hri'⟩ : ∃ x, rightR (r' : Int) v' = x := ⟨_, rfl⟩
          simp only [hp', hr', hv', hb, hri'] at y0 y1 y2 y3 HJ
          rw [hb] at hso
          have HSO := Lib.hid hso
          clear hg' hso hb hp' hr' hv' hri' hkz hj
          have l0 := Later.cell y0
          have l1 := Later.cell y1
          have l2 := Later.cell y2
          have l3 := Later.cell y3
          have cJ : ∀ p'' : Later wr, Calls Tryd.prog 111 #[.agg #[.int .i64 (p' : Nat), .int .i32 (r' : Nat), .int .i64 (v' : Nat), .bool ri']] p''.W fun e w'' => e = .returned (.int .i64 (b : Nat)) ∧ ∃ q : Later wr, w'' = q.W := fun p' => Calls.later_of (HJ.out _)
          by_cases hba : b = a
          · subst hba
            have HST := Lib.hid (stopsTo_no l k (by rw [HSO.out]; simp))
            clear ha0
            go_wp2_with fail
            refine wp_region_later (by kernel_rfl) (by kernel_rfl) ?_
            repeat (go_big_quiet_step (first | with_reducible exact cC _ | with_reducible exact cJ _))
            refine wpQuiet_nil ?_
            intro _ hw'
            obtain ⟨pq, hw''⟩ := hw'
            subst hw''
            go_wp2_with fail
            exact ⟨⟨k + 1, by omega, by go_num, Lib.hid (by rw [HST.out]; exact owns_below hown.out pq.hb (Nat.le_refl _)), nx hbr pq.hb⟩, by simp [intOf]; omega⟩
          · have hb1 : (((b : Nat) : Int) != (a : Int)) = true := bne_iff_ne.2 (by omega)
            have HST := Lib.hid (stopsTo_yes l k (by rw [HSO.out]; simp [ha0, hba]))
            rw [HP.out] at HST
            clear ha0 hba
            go_wp2_with fail
            refine wp_region_later (by kernel_rfl) (by kernel_rfl) ?_
            repeat (go_big_quiet_step (first | with_reducible exact cC _ | with_reducible exact cJ _))
            refine wpQuiet_nil ?_
            intro _ hw'
            obtain ⟨pq, hw''⟩ := hw'
            subst hw''
            clear l0 l1 l2 l3 cJ
            have hbq : Below wr.heap.size wr pq.W := pq.hb
            have x0Q := k0 pq
            have hownQ := owns_below hown.out hbq (Nat.le_refl _)
            have hszQ := hbq.size
            obtain ⟨W, hW⟩ : ∃ W, pq.W = W := ⟨_, rfl⟩
            rw [hW] at hbq x0Q hownQ hszQ ⊢
            have HO := Lib.hid hownQ
            clear k0 k1 k2 k3 cC hown hownQ hW
            go_wp2_with (at_builtin; refine wpList_append_own _ rfl _ _ 53 rfl w1.heap.size 3 i0 (.int .i64 0) 1 8 Tryd.underlying53 hi hz0 hz1 hz2 rfl (by decide) u3 _ _ rfl (HO.out.alloc _) ⟨W.heap.size, 0, none⟩ 1 1 [.int .i64 (p : Nat)] rfl (by simp) (cells_new _ _ _) (by simp [Value.oneCell']) (by unfold maxLen; omega) (by omega) (by rw [World.size_alloc]; omega) ?_; intro v4 w4 hown4 hgrow4 _; have hb4 : Below w1.heap.size w1 w4 := (al (nx hbr hbq) _).grown hgrow4 (by rw [World.size_alloc]; omega) (fun q e => (HO.out.lt q e).1); clear hgrow4)
            exact ⟨⟨k + 1, by omega, by go_num, Lib.hid (by rw [HST.out, List.length_append, List.length_singleton, List.map_append]; exact hown4), hb4⟩, by simp [intOf]; omega⟩
    · obtain rfl : k = n := by omega
      have HO := Lib.hid hown.out
      have hlo : (stopsTo l k).length ≤ 1048576 := by omega
      clear hown
      go_wp2_with (at_builtin; refine wpList_append_own _ rfl _ _ 53 rfl w1.heap.size 3 i0 (.int .i64 0) 1 8 Tryd.underlying53 hi hz0 hz1 hz2 rfl (by decide) u3 _ _ rfl (HO.out.alloc _) ⟨wr.heap.size, 0, none⟩ 1 1 [.int .i64 (s.size : Nat)] rfl (by simp) (cells_new _ _ _) (by simp [Value.oneCell']) (by unfold maxLen; omega) (by omega) (by rw [World.size_alloc]; omega) ?_; intro v4 w4 hown4 hgrow4 _; have hb4 : Below w1.heap.size w1 w4 := (al hbr _).grown hgrow4 (by rw [World.size_alloc]; omega) (fun q e => (HO.out.lt q e).1); clear hgrow4)
      have hown5 : w4.ownsRow w1.heap.size 3 1 v4 ((stopsTo l k).length + 1) (((stopsL l).map fun (x : Nat) => (x : Int)).map (Value.int .i64)) := by
        rw [← HF.out, List.map_append, hlen]
        exact hown4
      obtain ⟨ao', ca', rfl, -, R⟩ := ReadsI.owned hown5
      have hlL : ((stopsL l).map fun (x : Nat) => (x : Int)).length = (stopsL l).length := List.length_map _
      rw [hlL]
      go_ret
      exact ⟨ao', ca', rfl, R, nx hb1 hb4⟩
end Go.Proofs.YtfoppbignompkaaDoor

namespace Go.Proofs.YtfoppbignompkaaDoor
open Go.RowKit

set_option maxHeartbeats 4000000 in
theorem refnext_any (s : ByteArray) (hs : s.size ≤ 1048576) (c : Int) (w : World) :
    Calls Tryd.prog 80 #[.string s, .int .i64 c] w fun e w' => e = .returned (.int .i64 (nextV (bs s) (intoM (bs s) c) : Nat)) ∧ Below w.heap.size w w' := by
  have HI := Lib.hid (fun w => refinto_any s hs c w)
  have HS := Lib.hid (fun w => refstops_any s hs w)
  have HNX := Lib.hid (fun i hi h1 h2 => next_from (bs s) c i hi h1 h2)
  have HNN := Lib.hid (next_none (bs s) c)
  obtain ⟨l, hl⟩ : ∃ l, bs s = l := ⟨_, rfl⟩
  have hlen : l.length = s.size := by rw [← hl, size_bs]
  have hN := stops_count l
  have hcl := countN_le l
  rw [hl] at HI HS HNX HNN ⊢
  obtain ⟨M, hM⟩ : ∃ M, atN l (intoM l c) = M := ⟨_, rfl⟩
  obtain ⟨V, hV⟩ : ∃ V, nextV l (intoM l c) = V := ⟨_, rfl⟩
  rw [hM] at HI HNX HNN
  rw [hV] at HNX HNN ⊢
  obtain ⟨L, hL⟩ : ∃ L, stopsL l = L := ⟨_, rfl⟩
  rw [hL] at HS HNX HNN hN
  obtain ⟨N, hNN⟩ : ∃ N, L.length = N := ⟨_, rfl⟩
  rw [hNN] at HS HNX HNN hN
  have HL := Lib.hid hNN
  have HLEN := Lib.hid hlen
  clear hl hM hV hL hNN
  go_enter Tryd.func80, Tryd.ntmps80
  go_wp2_with (first
    | (go_at_call 103; (with_reducible refine (HI.out _).mono ?_); rintro e w1 ⟨rfl, hb1⟩)
    | (go_at_call 104; (with_reducible refine (HS.out _).mono ?_); rintro e w2 ⟨ao, ca, rfl, R, hb2⟩))
  have HR := Lib.hid R
  have hbw2 : Below w.heap.size w w2 := nx hb1 hb2
  clear R
  go_loopw [6] (fun i wr => ∃ k, k ≤ N ∧ i = .int .i64 (k : Nat) ∧ Hid (∀ j, j < k → L[j]?.getD 0 ≤ M) ∧ Below w2.heap.size w2 wr) (fun i _ => N - (intOf i).toNat)
  case atStart => exact ⟨0, Nat.zero_le _, rfl, Lib.hid (fun j h => absurd h (Nat.not_lt_zero _)), Below.refl _ _⟩
  case round =>
    obtain ⟨k, hk, rfl, hA, hbr⟩ := hrel
    by_cases hlt : k < N
    · rcases HR.out.below hbr (Nat.le_refl _) with h0 | ⟨g, o, rfl, hc⟩
      · have := congrArg List.length h0
        rw [List.length_map, HL.out] at this
        simp at this
        omega
      · have e0 := hc k (by rw [List.length_map, HL.out]; omega)
        have hSk : (L.map fun (x : Nat) => (x : Int))[k]?.getD 0 = ((L[k]?.getD 0 : Nat) : Int) := by rw [List.getElem?_map, List.getElem?_eq_getElem (by rw [HL.out]; omega)]; rfl
        rw [hSk] at e0
        obtain ⟨x, hx⟩ : ∃ x, L[k]?.getD 0 = x := ⟨_, rfl⟩
        rw [hx] at e0
        have HX := Lib.hid hx
        have hki : (k : Int) < (N : Int) := by omega
        have hk0 : (0 : Int) ≤ (k : Int) := by omega
        have hk1 : k ≤ 1048577 := by omega
        clear hc hSk hx
        by_cases hgt : M < x
        · have HV := Lib.hid (HNX.out k hlt hA.out (by rw [HX.out]; exact hgt))
          have hd : decide (M < x) = true := decide_eq_true hgt
          clear hgt hA
          go_wp2_with fail
          go_ret
          exact ⟨ret_int (by rw [HV.out, HX.out]), nx hbw2 hbr⟩
        · have HA := Lib.hid (show ∀ j, j < k + 1 → L[j]?.getD 0 ≤ M from fun j hj => by
            by_cases e : j = k
            · rw [e, HX.out]; omega
            · exact hA.out j (by omega))
          have hd : decide (M < x) = false := decide_eq_false hgt
          clear hgt hA
          go_wp2_with fail
          exact ⟨⟨k + 1, by omega, by go_num, HA, hbr⟩, by simp [intOf]; omega⟩
    · obtain rfl : k = N := by omega
      have HV := Lib.hid (HNN.out hA.out)
      go_wp2_with fail
      go_ret
      exact ⟨ret_int (by rw [HV.out, HLEN.out]), nx hbw2 hbr⟩

set_option maxHeartbeats 4000000 in
theorem refback_any (s : ByteArray) (hs : s.size ≤ 1048576) (c : Int) (w : World) :
    Calls Tryd.prog 79 #[.string s, .int .i64 c] w fun e w' => e = .returned (.int .i64 (backV (bs s) (intoM (bs s) c) : Nat)) ∧ Below w.heap.size w w' := by
  have HI := Lib.hid (fun w => refinto_any s hs c w)
  have HS := Lib.hid (fun w => refstops_any s hs w)
  have HNX := Lib.hid (fun i hi h1 h2 => back_from (bs s) c i hi h1 h2)
  have HNN := Lib.hid (back_none (bs s) c)
  obtain ⟨l, hl⟩ : ∃ l, bs s = l := ⟨_, rfl⟩
  have hlen : l.length = s.size := by rw [← hl, size_bs]
  have hN := stops_count l
  have hcl := countN_le l
  rw [hl] at HI HS HNX HNN ⊢
  obtain ⟨M, hM⟩ : ∃ M, atN l (intoM l c) = M := ⟨_, rfl⟩
  obtain ⟨V, hV⟩ : ∃ V, backV l (intoM l c) = V := ⟨_, rfl⟩
  rw [hM] at HI HNX HNN
  rw [hV] at HNX HNN ⊢
  obtain ⟨L, hL⟩ : ∃ L, stopsL l = L := ⟨_, rfl⟩
  rw [hL] at HS HNX HNN hN
  obtain ⟨N, hNN⟩ : ∃ N, L.length = N := ⟨_, rfl⟩
  rw [hNN] at HS HNX HNN hN
  have HL := Lib.hid hNN
  clear hl hM hV hL hNN
  go_enter Tryd.func79, Tryd.ntmps79
  go_wp2_with (first
    | (go_at_call 103; (with_reducible refine (HI.out _).mono ?_); rintro e w1 ⟨rfl, hb1⟩)
    | (go_at_call 104; (with_reducible refine (HS.out _).mono ?_); rintro e w2 ⟨ao, ca, rfl, R, hb2⟩))
  have HR := Lib.hid R
  have hbw2 : Below w.heap.size w w2 := nx hb1 hb2
  clear R
  go_loopw [6] (fun i wr => ∃ k, k ≤ N ∧ i = .int .i64 ((k : Nat) - 1) ∧ Hid (∀ j, k ≤ j → j < N → ¬ L[j]?.getD 0 < M) ∧ Below w2.heap.size w2 wr) (fun i _ => (intOf i + 1).toNat)
  case atStart => exact ⟨N, Nat.le_refl _, rfl, Lib.hid (fun j h1 h2 => absurd h2 (by omega)), Below.refl _ _⟩
  case round =>
    obtain ⟨k, hk, rfl, hA, hbr⟩ := hrel
    by_cases hlt : 0 < k
    · obtain ⟨m, rfl⟩ : ∃ m, k = m + 1 := ⟨k - 1, by omega⟩
      rw [show (((m + 1 : Nat) : Int) - 1) = ((m : Nat) : Int) by omega]
      rcases HR.out.below hbr (Nat.le_refl _) with h0 | ⟨g, o, rfl, hc⟩
      · have := congrArg List.length h0
        rw [List.length_map, HL.out] at this
        simp at this
        omega
      · have e0 := hc m (by rw [List.length_map, HL.out]; omega)
        have hSk : (L.map fun (x : Nat) => (x : Int))[m]?.getD 0 = ((L[m]?.getD 0 : Nat) : Int) := by rw [List.getElem?_map, List.getElem?_eq_getElem (by rw [HL.out]; omega)]; rfl
        rw [hSk] at e0
        obtain ⟨x, hx⟩ : ∃ x, L[m]?.getD 0 = x := ⟨_, rfl⟩
        rw [hx] at e0
        have HX := Lib.hid hx
        have hki : (m : Int) < (N : Int) := by omega
        have hk0 : (0 : Int) ≤ (m : Int) := by omega
        have hk1 : m ≤ 1048577 := by omega
        clear hc hSk hx hlt
        by_cases hgt : x < M
        · have HV := Lib.hid (HNX.out m (by omega) (by rw [HX.out]; exact hgt) (fun j h1 h2 => hA.out j (by omega) h2))
          have hd : decide (x < M) = true := decide_eq_true hgt
          clear hgt hA
          go_wp2_with fail
          go_ret
          exact ⟨ret_int (by rw [HV.out, HX.out]), nx hbw2 hbr⟩
        · have HA := Lib.hid (show ∀ j, m ≤ j → j < N → ¬ L[j]?.getD 0 < M from fun j hj h2 => by
            by_cases e : j = m
            · rw [e, HX.out]; exact hgt
            · exact hA.out j (by omega) h2)
          have hd : decide (x < M) = false := decide_eq_false hgt
          clear hgt hA
          go_wp2_with fail
          exact ⟨⟨m, by omega, rfl, HA, hbr⟩, by simp only [intOf]; omega⟩
    · obtain rfl : k = 0 := by omega
      have HV := Lib.hid (HNN.out (fun j h => hA.out j (Nat.zero_le _) h))
      clear hA
      go_wp2_with fail
      go_ret
      exact ⟨ret_int (by rw [HV.out]; rfl), nx hbw2 hbr⟩

end Go.Proofs.YtfoppbignompkaaDoor
