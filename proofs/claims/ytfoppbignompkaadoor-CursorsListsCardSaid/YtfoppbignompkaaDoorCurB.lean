/-
  The cursors' examples that each law asks (awake).
-/
import Derived.Test.YtfoppbignompkaaDoorCurA
import Derived.Test.YtfoppbignompkaaDoorLater
import Derived.Test.YtfoppbignompkaaDoorKit
import Derived.Laws.OwnMore
import Derived.Deep.QuietTactic
import Derived.BigQuiet
import Derived.Laws.MakeOwn
import Derived.Laws.CopyOwn
import Derived.Laws.StructEq
namespace Go.Proofs.YtfoppbignompkaaDoor
open Go.RowKit

/-- a cursor: id, place, anchor, goal -/
abbrev Cu := Int × Int × Int × Int
def cuC (c : Cu) : List Value := [.int .u32 c.1, .int .i64 c.2.1, .int .i64 c.2.2.1, .int .i64 c.2.2.2]
def cuZ : Cu := (0, 0, 0, 0)
theorem cuC_one (c : Cu) : ∀ u ∈ cuC c, u.oneCell' = true := by
  intro u hu
  simp [cuC] at hu
  rcases hu with rfl | rfl | rfl | rfl <;> rfl
/-- cursors that lie in a row -/
def ReadsC (w : World) (ao : Option Addr) (zs : List Cu) : Prop :=
  zs = [] ∨ ∃ b off, ao = some ⟨b, off, none⟩ ∧ ∀ j, j < zs.length → w.cell? ⟨b, off + j * 4, none⟩ = some (.int .u32 (zs[j]?.getD cuZ).1) ∧ w.cell? ⟨b, off + j * 4 + 1, none⟩ = some (.int .i64 (zs[j]?.getD cuZ).2.1) ∧
    w.cell? ⟨b, off + j * 4 + 2, none⟩ = some (.int .i64 (zs[j]?.getD cuZ).2.2.1) ∧ w.cell? ⟨b, off + j * 4 + 3, none⟩ = some (.int .i64 (zs[j]?.getD cuZ).2.2.2)
theorem ReadsC.below {w w' : World} {ao : Option Addr} {zs : List Cu} (h : ReadsC w ao zs) (hb : Below w.heap.size w w') : ReadsC w' ao zs := by
  rcases h with h | ⟨b, off, hao, hc⟩
  · exact .inl h
  · refine .inr ⟨b, off, hao, fun j hj => ?_⟩
    obtain ⟨h0, h1, h2, h3⟩ := hc j hj
    exact ⟨cellKeep h0 hb, cellKeep h1 hb, cellKeep h2 hb, cellKeep h3 hb⟩
theorem flat4c_at : ∀ (L : List Cu) (i j : Nat), i < L.length → j < 4 → (L.flatMap cuC)[i * 4 + j]? = (cuC (L[i]?.getD cuZ))[j]?
  | [], i, j, h, _ => by simp at h
  | c :: L, 0, j, _, hj => by
    rw [List.flatMap_cons, Nat.zero_mul, Nat.zero_add, List.getElem?_append_left (by simpa [cuC] using hj)]
    rfl
  | c :: L, i + 1, j, h, hj => by
    rw [List.flatMap_cons, List.getElem?_append_right (by simp [cuC]; omega), show (i + 1) * 4 + j - (cuC c).length = i * 4 + j by simp [cuC]; omega]
    exact flat4c_at L i j (by simpa using h) hj
theorem flat4c_len (L : List Cu) : (L.flatMap cuC).length = L.length * 4 := by
  induction L with
  | nil => rfl
  | cons c L ih => rw [List.flatMap_cons, List.length_append, ih, List.length_cons]; simp [cuC]; omega
theorem ReadsC.owned {w : World} {base : Nat} {e : TypeId} {v : Value} {n : Nat} {zs : List Cu} (h : w.ownsRow base e 4 v n (zs.flatMap cuC)) :
    ∃ ao cap, v = .slice ao zs.length cap ∧ n = zs.length ∧ ReadsC w ao zs := by
  have hl : n = zs.length := by have := h.1; rw [flat4c_len] at this; omega
  rcases h.2 with ⟨rfl, h0⟩ | ⟨g, cap, cur, rfl, hg, hh, hn, hc, hs, ht⟩
  · have : zs = [] := List.length_eq_zero_iff.1 (by omega)
    subst this
    exact ⟨none, 0, rfl, hl, .inl rfl⟩
  · refine ⟨_, cap, by rw [hl], hl, .inr ⟨g, 0, rfl, fun j hj => ?_⟩⟩
    have key : ∀ i, i < 4 → w.cell? ⟨g, 0 + j * 4 + i, none⟩ = (cuC (zs[j]?.getD cuZ))[i]? := by
      intro i hi
      rw [Nat.zero_add, h.cellAt (j * 4 + i) (by omega), flat4c_at zs j i hj hi]
    exact ⟨key 0 (by omega), key 1 (by omega), key 2 (by omega), key 3 (by omega)⟩

def lowC (c : Cu) : Bool := decide (c.2.1 < 0 ∨ c.2.2.1 < 0 ∨ c.2.2.2 < 0)
def badC (zs : List Cu) (k : Nat) : Bool := lowC (zs[k]?.getD cuZ) || (decide (0 < k) && decide ((zs[k]?.getD cuZ).1 ≤ (zs[k - 1]?.getD cuZ).1))
/-- what is wrong with a list: the error's number -/
def wrongN (zs : List Cu) : Int := if 8 < zs.length then 201 else if (List.range zs.length).any (badC zs) then 200 else 0
theorem wrongN_long {zs : List Cu} (h : 8 < zs.length) : wrongN zs = 201 := if_pos h
theorem wrongN_bad {zs : List Cu} (h : zs.length ≤ 8) {k : Nat} (hk : k < zs.length) (hb : badC zs k = true) : wrongN zs = 200 := by
  unfold wrongN
  rw [if_neg (by omega), if_pos]
  rw [List.any_eq_true]
  exact ⟨k, List.mem_range.2 hk, hb⟩
theorem wrongN_ok {zs : List Cu} (h : zs.length ≤ 8) (hb : ∀ k, k < zs.length → badC zs k = false) : wrongN zs = 0 := by
  unfold wrongN
  rw [if_neg (by omega), if_neg]
  rw [List.any_eq_true]
  rintro ⟨k, hk, h2⟩
  rw [hb k (List.mem_range.1 hk)] at h2
  cases h2

theorem low_cu (c : Cu) (w : World) : Calls Tryd.prog 45 #[.agg #[.int .u32 c.1, .int .i64 c.2.1, .int .i64 c.2.2.1, .int .i64 c.2.2.2]] w fun e w' => e = .returned (.bool (lowC c)) ∧ Below w.heap.size w w' := clow_any _ _ _ _ _ rfl w
set_option maxRecDepth 10000 in
set_option maxHeartbeats 4000000 in
theorem cwrong_any (ao : Option Addr) (cap : Nat) (zs : List Cu) (n : Nat) (hl : zs.length = n) (hn : n ≤ 140737488351232) (w : World) (hR : ReadsC w ao zs) :
    Calls Tryd.prog 40 #[.slice ao n cap] w fun e w' => e = .returned (.int .i64 (wrongN zs)) ∧ Below w.heap.size w w' := by
  have HR := Lib.hid hR
  have HL := Lib.hid hl
  clear hR hl
  by_cases h8 : 8 < n
  · rw [wrongN_long (by rw [HL.out]; exact h8)]
    have h8i : (8 : Int) < (n : Int) := by omega
    go_enter Tryd.func40, Tryd.ntmps40
    go_wp2_with fail
    go_ret
    exact ⟨rfl, Below.refl _ _⟩
  · have h8i : decide (8 < (n : Int)) = false := decide_eq_false (by omega)
    have h8n : decide (8 < n) = false := decide_eq_false (by omega)
    have hn8 : n ≤ 8 := by omega
    clear h8 hn
    go_enter Tryd.func40, Tryd.ntmps40
    go_wp2_with fail
    go_loopw [10] (fun i wr => ∃ k : Nat, i = .int .i64 (k : Nat) ∧ k ≤ n ∧ Hid (∀ j, j < k → badC zs j = false) ∧ Below w.heap.size w wr) (fun i _ => n - (intOf i).toNat)
    case atStart => exact ⟨0, rfl, Nat.zero_le _, Lib.hid (fun j hj => by omega), Below.refl _ _⟩
    case round =>
      obtain ⟨k, rfl, hk, hok, hb⟩ := hrel
      by_cases hlt : k < n
      · have hki : (k : Int) < (n : Int) := by omega
        have hk0 : (0 : Int) ≤ (k : Int) := by omega
        have hkz : k < zs.length := by rw [HL.out]; exact hlt
        rcases HR.out with h0 | ⟨b, off, rfl, hcs⟩
        · rw [h0] at hkz; simp at hkz
        have HCS := Lib.hid hcs
        obtain ⟨x0, x1, x2, x3⟩ := hcs k hkz
        have x0 := cellKeep x0 hb
        have x1 := cellKeep x1 hb
        have x2 := cellKeep x2 hb
        have x3 := cellKeep x3 hb
        have hbad : badC zs k = (lowC (zs[k]?.getD cuZ) || (decide (0 < k) && decide ((zs[k]?.getD cuZ).1 ≤ (zs[k - 1]?.getD cuZ).1))) := rfl
        obtain ⟨c, hc⟩ : ∃ c, zs[k]?.getD cuZ = c := ⟨_, rfl⟩
        rw [hc] at x0 x1 x2 x3 hbad
        have HLC := Lib.hid (fun w => low_cu c w)
        obtain ⟨i, a, d, g⟩ := c
        simp only at x0 x1 x2 x3 hbad HLC
        obtain ⟨lo, hlo⟩ : ∃ lo, lowC (i, a, d, g) = lo := ⟨_, rfl⟩
        rw [hlo] at HLC hbad
        clear hcs hlo
        have hBk := Blk.new wr 36 [.int .u32 i, .int .i64 a, .int .i64 d, .int .i64 g]
        have hbW : Below w.heap.size w (wr.alloc (.cells #[.int .u32 i, .int .i64 a, .int .i64 d, .int .i64 g] 36)) := al hb _
        obtain ⟨W, hW⟩ : ∃ W, wr.alloc (.cells #[.int .u32 i, .int .i64 a, .int .i64 d, .int .i64 g] 36) = W := ⟨_, rfl⟩
        replace hBk : Blk W wr.heap.size 36 [.int .u32 i, .int .i64 a, .int .i64 d, .int .i64 g] := hW ▸ hBk
        replace hbW : Below w.heap.size w W := hW ▸ hbW
        have d0 := hBk.cell 0 rfl
        have d1 := hBk.cell 1 rfl
        have d2 := hBk.cell 2 rfl
        have d3 := hBk.cell 3 rfl
        have k0 := Later.cell d0
        have k1 := Later.cell d1
        have k2 := Later.cell d2
        have k3 := Later.cell d3
        have cL : ∀ p' : Later W, Calls Tryd.prog 45 #[.agg #[.int .u32 i, .int .i64 a, .int .i64 d, .int .i64 g]] p'.W fun e w'' => e = .returned (.bool lo) ∧ ∃ q : Later W, w'' = q.W := fun p' => Calls.later_of (HLC.out _)
        clear hBk
        cases lo
        · by_cases hk1 : 0 < k
          · obtain ⟨j, hj⟩ : ∃ j : Nat, j = k - 1 := ⟨_, rfl⟩
            have hj1 : (k : Int) - 1 = (j : Int) := by omega
            have hwj : IntKind.i64.wrap (j : Int) = (j : Int) := IntWalk.i64_in _ (by omega)
            have hj0 : (0 : Int) ≤ (j : Int) := by omega
            have hjn : (j : Int) < (n : Int) := by omega
            have hkp : (0 : Int) < (k : Int) := by omega
            obtain ⟨y0, -⟩ := HCS.out j (by rw [HL.out]; omega)
            rw [← hj] at hbad
            obtain ⟨pi, hpi⟩ : ∃ x, (zs[j]?.getD cuZ).1 = x := ⟨_, rfl⟩
            rw [hpi] at y0 hbad
            have y1 := cellKeep y0 hbW
            have k4 := Later.cell y1
            clear hj hpi
            by_cases hle : i ≤ pi
            · have HW := Lib.hid (wrongN_bad (zs := zs) (by rw [HL.out]; exact hn8) hkz (by rw [hbad]; simp [hk1, hle]))
              clear hbad hkz HCS hc
              go_wp2_with fail
              refine wp_region_later (by kernel_rfl) (by kernel_rfl) ?_
              repeat (go_big_quiet_step (with_reducible exact cL _))
              refine wpQuiet_nil ?_
              intro _ hw'
              obtain ⟨pq, hw''⟩ := hw'
              subst hw''
              go_wp2_with fail
              go_ret
              exact ⟨by rw [HW.out]; rfl, nx hbW pq.hb⟩
            · have HNB := Lib.hid (show badC zs k = false by rw [hbad]; simp [hle])
              have hle2 : decide (i ≤ pi) = false := decide_eq_false hle
              clear hbad hkz HCS hc
              go_wp2_with fail
              refine wp_region_later (by kernel_rfl) (by kernel_rfl) ?_
              repeat (go_big_quiet_step (with_reducible exact cL _))
              refine wpQuiet_nil ?_
              intro _ hw'
              obtain ⟨pq, hw''⟩ := hw'
              subst hw''
              go_wp2_with fail
              exact ⟨⟨k + 1, by go_num, hlt, Lib.hid (fun j hj => by rcases Nat.lt_succ_iff_lt_or_eq.1 hj with h | rfl; exact hok.out j h; exact HNB.out), nx hbW pq.hb⟩, by simp [intOf]; omega⟩
          · have HNB := Lib.hid (show badC zs k = false by rw [hbad]; simp [hk1])
            have hkp : decide ((0 : Int) < (k : Int)) = false := decide_eq_false (by omega)
            have hkp2 : decide (0 < k) = false := decide_eq_false hk1
            clear hbad hkz HCS hc
            go_wp2_with fail
            refine wp_region_later (by kernel_rfl) (by kernel_rfl) ?_
            repeat (go_big_quiet_step (with_reducible exact cL _))
            refine wpQuiet_nil ?_
            intro _ hw'
            obtain ⟨pq, hw''⟩ := hw'
            subst hw''
            go_wp2_with fail
            exact ⟨⟨k + 1, by go_num, hlt, Lib.hid (fun j hj => by rcases Nat.lt_succ_iff_lt_or_eq.1 hj with h | rfl; exact hok.out j h; exact HNB.out), nx hbW pq.hb⟩, by simp [intOf]; omega⟩
        · rw [Bool.true_or] at hbad
          have HW := Lib.hid (wrongN_bad (zs := zs) (by rw [HL.out]; exact hn8) hkz hbad)
          clear hbad hkz HCS hc
          go_wp2_with fail
          refine wp_region_later (by kernel_rfl) (by kernel_rfl) ?_
          repeat (go_big_quiet_step (with_reducible exact cL _))
          refine wpQuiet_nil ?_
          intro _ hw'
          obtain ⟨pq, hw''⟩ := hw'
          subst hw''
          go_wp2_with fail
          go_ret
          exact ⟨by rw [HW.out]; rfl, nx hbW pq.hb⟩
      · obtain rfl : k = n := by omega
        have HW := Lib.hid (wrongN_ok (zs := zs) (by rw [HL.out]; omega) (fun j hj => hok.out j (by rw [← HL.out]; exact hj)))
        have hkd : decide (k < k) = false := decide_eq_false (by omega)
        go_wp2_with fail
        go_ret
        exact ⟨by rw [HW.out]; rfl, hb⟩
end Go.Proofs.YtfoppbignompkaaDoor

namespace Go.Proofs.YtfoppbignompkaaDoor
open Go.RowKit

def HRow (w : World) (base : Nat) (e : TypeId) (size : Nat) (v : Value) (n : Nat) (xs : List Value) : Prop :=
  xs.length = n * size ∧
  ((v = .slice none 0 0 ∧ n = 0) ∨
   ∃ g cap cur, v = .slice (some ⟨g, 0, none⟩) n cap ∧ base ≤ g ∧ w.heap[g]? = some (.cells cur e (0, 0)) ∧ n ≤ cap ∧ cap ≤ maxLen ∧ cap * size ≤ cur.size ∧ cur.toList.take (n * size) = xs)

section
variable {w : World} {base : Nat} {e : TypeId} {size : Nat} {v : Value} {n : Nat} {xs : List Value}
theorem HRow.of_own (h : w.ownsRow base e size v n xs) : HRow w base e size v n xs := by
  refine ⟨h.1, ?_⟩
  rcases h.2 with h2 | ⟨g, cap, cur, hv, hb, hg, h1, h2, h3, h4⟩
  · exact .inl h2
  · exact .inr ⟨g, cap, cur, hv, hb, hg, h1, h2, Nat.le_of_eq h3.symm, h4⟩
theorem HRow.clip {g cap : Nat} (h : w.ownsRow base e size (.slice (some ⟨g, 0, none⟩) n cap) n xs) : HRow w base e size (.slice (some ⟨g, 0, none⟩) n n) n xs := by
  refine ⟨h.1, ?_⟩
  rcases h.2 with ⟨h2, _⟩ | ⟨g', cap', cur, hv, hb, hg, h1, h2, h3, h4⟩
  · cases h2
  · injection hv with e1 _ e3
    injection e1 with e1
    injection e1 with e1
    subst e1 e3
    exact .inr ⟨g, n, cur, rfl, hb, hg, Nat.le_refl _, Nat.le_trans h1 h2, by rw [h3]; exact Nat.mul_le_mul_right _ h1, h4⟩
theorem HRow.lt (h : HRow w base e size v n xs) : ∀ k, v.ownBlock = some k → base ≤ k ∧ k < w.heap.size := by
  intro k hk
  rcases h.2 with ⟨rfl, _⟩ | ⟨g, cap, cur, rfl, hb, hg, _⟩
  · simp [Value.ownBlock] at hk
  · simp [Value.ownBlock] at hk
    subst hk
    exact ⟨hb, (Array.getElem?_eq_some_iff.1 hg).1⟩
theorem HRow.kept {w' : World} {row : Option Nat} (h : HRow w base e size v n xs) (hg : w.grownBy w' row) (hne : v.ownBlock = none ∨ v.ownBlock ≠ row) : HRow w' base e size v n xs := by
  refine ⟨h.1, ?_⟩
  rcases h.2 with hn | ⟨g, cap, cur, rfl, hb, hgg, rest⟩
  · exact .inl hn
  · refine .inr ⟨g, cap, cur, rfl, hb, ?_, rest⟩
    rw [hg.block g (Array.getElem?_eq_some_iff.1 hgg).1 (by simpa [Value.ownBlock] using hne)]
    exact hgg
theorem HRow.below {w' : World} (h : HRow w base e size v n xs) {B : Nat} (hb : Below B w w') (hB : w.heap.size ≤ B) : HRow w' base e size v n xs := by
  refine ⟨h.1, ?_⟩
  rcases h.2 with hn | ⟨g, cap, cur, rfl, hb', hgg, rest⟩
  · exact .inl hn
  · exact .inr ⟨g, cap, cur, rfl, hb', (hb.block g (by have := (Array.getElem?_eq_some_iff.1 hgg).1; omega)).trans hgg, rest⟩
theorem HRow.lower (h : HRow w base e size v n xs) {base' : Nat} (hB : base' ≤ base) : HRow w base' e size v n xs := by
  refine ⟨h.1, ?_⟩
  rcases h.2 with hn | ⟨g, cap, cur, rfl, hb', hgg, rest⟩
  · exact .inl hn
  · exact .inr ⟨g, cap, cur, rfl, Nat.le_trans hB hb', hgg, rest⟩
theorem HRow.form (h : HRow w base e size v n xs) : ∃ ao cap, v = .slice ao n cap := by
  rcases h.2 with ⟨rfl, rfl⟩ | ⟨g, cap, cur, rfl, _⟩
  · exact ⟨_, _, rfl⟩
  · exact ⟨_, _, rfl⟩
theorem HRow.form1 (h : HRow w base e size v n xs) (hn : 0 < n) : ∃ g cap, v = .slice (some ⟨g, 0, none⟩) n cap ∧ base ≤ g ∧ g < w.heap.size := by
  rcases h.2 with ⟨rfl, rfl⟩ | ⟨g, cap, cur, rfl, hb, hg, _⟩
  · omega
  · exact ⟨g, cap, rfl, hb, (Array.getElem?_eq_some_iff.1 hg).1⟩
/-- rows of blocks of two types lie apart -/
theorem HRow.apart {base' e' size' n' : Nat} {v' : Value} {xs' : List Value} (h : HRow w base e size v n xs) (h' : HRow w base' e' size' v' n' xs') (hne : e ≠ e') : ∀ g, v.ownBlock = some g → v'.ownBlock ≠ some g := by
  intro g hg hg'
  rcases h.2 with ⟨rfl, _⟩ | ⟨g1, cap, cur, rfl, _, hh, _⟩
  · simp [Value.ownBlock] at hg
  · rcases h'.2 with ⟨rfl, _⟩ | ⟨g2, cap', cur', rfl, _, hh', _⟩
    · simp [Value.ownBlock] at hg'
    · simp [Value.ownBlock] at hg hg'
      subst hg hg'
      rw [hh] at hh'
      injection hh' with e1
      injection e1 with _ e2
      exact hne e2
theorem HRow.cellAt {g cap : Nat} (h : HRow w base e size (.slice (some ⟨g, 0, none⟩) n cap) n xs) (j : Nat) (hj : j < n * size) : w.cell? ⟨g, j, none⟩ = xs[j]? := by
  rcases h.2 with ⟨h', _⟩ | ⟨g', cap', cur, h', hb, hg, hnc, hcm, hcs, htake⟩
  · simp at h'
  · simp only [Value.slice.injEq, Option.some.injEq, Addr.mk.injEq, and_true, true_and] at h'
    obtain ⟨rfl, rfl⟩ := h'
    rw [cell_of_row w g j cur e (0, 0) hg, ← htake, List.getElem?_take_of_lt hj, Array.getElem?_toList]
theorem HRow.frozenAt {g cap : Nat} (h : HRow w base e size (.slice (some ⟨g, 0, none⟩) n cap) n xs) (j : Nat) : w.frozen? ⟨g, j, none⟩ = false := by
  rcases h.2 with ⟨h', _⟩ | ⟨g', cap', cur, h', hb, hg, hnc, hcm, hcs, htake⟩
  · simp at h'
  · simp only [Value.slice.injEq, Option.some.injEq, Addr.mk.injEq, and_true, true_and] at h'
    obtain ⟨rfl, rfl⟩ := h'
    exact frozen_of_row w g j cur e hg
theorem HRow.stored {g cap : Nat} (h : HRow w base e size (.slice (some ⟨g, 0, none⟩) n cap) n xs) (j : Nat) (u : Value) :
    HRow (w.setCell ⟨g, j, none⟩ u) base e size (.slice (some ⟨g, 0, none⟩) n cap) n (xs.set j u) ∧ w.grownBy (w.setCell ⟨g, j, none⟩ u) (some g) := by
  rcases h.2 with ⟨h', _⟩ | ⟨g', cap', cur, h', hb, hg, hnc, hcm, hcs, htake⟩
  · simp at h'
  · simp only [Value.slice.injEq, Option.some.injEq, Addr.mk.injEq, and_true, true_and] at h'
    obtain ⟨rfl, rfl⟩ := h'
    refine ⟨⟨by simpa using h.1, .inr ⟨g, cap, cur.setIfInBounds j u, rfl, hb, heap_setCell_same w g j cur e u hg, hnc, hcm, by simpa using hcs, ?_⟩⟩,
      ⟨rfl, rfl, rfl, by simp, fun k _ hk => heap_setCell_other w ⟨g, j, none⟩ k u (fun e => hk (by simp [e]))⟩⟩
    rw [Array.toList_setIfInBounds, ← htake, List.take_set]
theorem HRow.cells (h : HRow w base e size v n xs) {g : Nat} (hg : v.ownBlock = some g) : ∀ j u, xs[j]? = some u → w.cell? ((⟨g, 0, none⟩ : Addr).add j) = some u := by
  intro j u hu
  obtain ⟨hj, _⟩ := List.getElem?_eq_some_iff.1 hu
  have hj' : j < n * size := by have := h.1; omega
  rcases h.2 with ⟨rfl, _⟩ | ⟨g', cap', cur, rfl, _⟩
  · simp [Value.ownBlock] at hg
  · have hg' : g' = g := by simpa [Value.ownBlock] using hg
    subst hg'
    rw [Addr.add_lit, Nat.zero_add, h.cellAt j hj', hu]
end

theorem run_append_held {P : Program} (w : World) (base : Nat) (t ty e : TypeId) (i : TypeInfo) (z : Value) (size bytes : Nat) (ht : P.underlying t = some (.slice e)) (hi : P.info? e = some i) (hz : i.zero = some z)
    (hsize : i.size = size) (hby : i.bytes = bytes) (hzs : z.cells.size = size)
    (v : Value) (n : Nat) (xs : List Value) (hown : HRow w base e size v n xs)
    (a : Addr) (m c : Nat) (news : List Value) (hl : news.length = m * size) (hnews : ∀ j u, news[j]? = some u → w.cell? (a.add j) = some u) (h1 : ∀ u ∈ news, u.oneCell' = true)
    (h63 : n + m ≤ maxLen) (hbytes : (n + m) * bytes ≤ 140737488355328) (hbase : base ≤ w.heap.size) (hm : 0 < m) :
    ∃ v' w', (Builtin.append_ #[t, t] ty #[v, .slice (some a) m c]).run P w = .ok v' w' ∧ HRow w' base e size v' (n + m) (xs ++ news) ∧ w.grownBy w' v.ownBlock ∧
      (v'.ownBlock = v.ownBlock ∨ (v'.ownBlock = some w.heap.size ∧ w.grownBy w' none)) := by
  subst hsize
  subst hby
  have hsmall : n + m ≤ 9223372036854775807 := by simp only [maxLen] at h63; omega
  have hlen : (xs ++ news).length = (n + m) * i.size := by rw [List.length_append, hown.1, hl, Nat.add_mul]
  have grown : ∀ (old : Nat), old < n + m → ∀ (row : Option Nat),
      HRow (w.drew.alloc (.cells (xs.toArray ++ news.toArray ++ Builtin.zeroCells z.cells (grownCap w (n + m) old e - (n + m))) e)) base e i.size
        (.slice (some ⟨w.heap.size, 0, none⟩) (n + m) (grownCap w (n + m) old e)) (n + m) (xs ++ news) ∧
      w.grownBy (w.drew.alloc (.cells (xs.toArray ++ news.toArray ++ Builtin.zeroCells z.cells (grownCap w (n + m) old e - (n + m))) e)) row := by
    intro old ho row
    have hge := grownCap_ge w (n + m) old e
    have hcm : grownCap w (n + m) old e ≤ maxLen := grownCap_le_maxLen w (n + m) old e h63
    refine ⟨⟨hlen, .inr ⟨w.heap.size, _, _, rfl, hbase, heap_alloc_new w.drew _, hge, hcm, ?_, ?_⟩⟩, ⟨rfl, rfl, rfl, by simp, fun k hk _ => Below.heap_alloc w.drew _ k hk⟩⟩
    · simp only [Array.size_append, List.size_toArray, size_zeroCells, hzs, hown.1, hl, ← Nat.add_mul]
      apply Nat.le_of_eq
      congr 1
      omega
    · simp only [Array.toList_append, List.append_assoc]
      rw [← List.append_assoc, ← hlen]
      exact List.take_left
  rcases hown.2 with ⟨rfl, rfl⟩ | ⟨g, cap, cur, rfl, hbg, hg, hnc, hcm, hcs, htake⟩
  · have hx : xs = [] := List.eq_nil_of_length_eq_zero (by simpa using hown.1)
    subst hx
    have hr := run_append_nil (P := P) w t ty e i z ht hi hz a m c news hl hnews (by omega) (by omega) (by have hb := hbytes; simp only [Nat.zero_add] at hb; omega)
    have hgr := fun row => grown 0 (by omega) row
    simp only [Nat.zero_add, List.nil_append, Array.empty_append] at hgr ⊢
    exact ⟨_, _, hr, (hgr none).1, (hgr _).2, .inr ⟨rfl, (hgr none).2⟩⟩
  · by_cases hroom : n + m ≤ cap
    · have hfit : n * i.size + news.length ≤ cur.size := by rw [hl, ← Nat.add_mul]; exact Nat.le_trans (Nat.mul_le_mul_right _ hroom) hcs
      have hr := run_append_room (P := P) w t ty e i ht hi g n cap cur hg a m c news hl hnews h1 hroom hfit
      refine ⟨_, _, hr, ⟨hlen, .inr ⟨g, cap, _, rfl, hbg, setRow_heap w g cur _ e _ hg, hroom, hcm, ?_, ?_⟩⟩, ⟨rfl, rfl, rfl, by simp, fun k _ hk => setRow_other w g k _ (fun e => hk (by simp [Value.ownBlock, e]))⟩, .inl rfl⟩
      · simp only [List.size_toArray, List.length_append, List.length_take, List.length_drop, Array.length_toList]
        omega
      · rw [htake, ← hlen]
        exact List.take_left
    · have holds : ∀ j u, xs[j]? = some u → w.cell? ((⟨g, 0, none⟩ : Addr).add j) = some u := hown.cells (g := g) rfl
      have hr := run_append_grow (P := P) w t ty e i z ht hi hz ⟨g, 0, none⟩ n cap xs hown.1 holds a m c news hl hnews (by omega) (by omega) (growslice_fits (by omega) hbytes)
      have hgr := fun row => grown cap (by omega) row
      exact ⟨_, _, hr, (hgr none).1, (hgr _).2, .inr ⟨rfl, (hgr none).2⟩⟩

/-- 'append(v, x...)' as one step of a walk. -/
theorem wpList_append_held {P : Program} {w : World} {ops : Array Oper} {rest : List Oper} {o : Oper} {a : Act} {Q : Exit → Act → World → Prop} (hgd : o.guard = none) (s x : Operand) (t : TypeId)
    (ho : o.op = .call { callee := .builtin .append, args := #[s, x], argTypes := #[t, t] })
    (base : Nat) (e : TypeId) (i : TypeInfo) (z : Value) (size bytes : Nat) (ht : P.underlying t = some (.slice e)) (hi : P.info? e = some i) (hz : i.zero = some z)
    (hsize : i.size = size) (hby : i.bytes = bytes) (hzs : z.cells.size = size)
    (v : Value) (n : Nat) (xs : List Value) (hs : a.eval s = v) (hown : HRow w base e size v n xs)
    (ad : Addr) (m c : Nat) (news : List Value) (hx : a.eval x = .slice (some ad) m c) (hl : news.length = m * size) (hnews : ∀ j u, news[j]? = some u → w.cell? (ad.add j) = some u) (h1 : ∀ u ∈ news, u.oneCell' = true)
    (h63 : n + m ≤ maxLen) (hbytes : (n + m) * bytes ≤ 140737488355328) (hbase : base ≤ w.heap.size) (hm : 0 < m)
    (h : ∀ v' w', HRow w' base e size v' (n + m) (xs ++ news) → w.grownBy w' v.ownBlock → (v'.ownBlock = v.ownBlock ∨ (v'.ownBlock = some w.heap.size ∧ w.grownBy w' none)) → wpList P ops Q rest (a.put o.dst v') w') : wpList P ops Q (o :: rest) a w := by
  refine wpList_plain hgd fun _ hK => ?_
  obtain ⟨v', w', hr, h2, h3, h4⟩ := run_append_held (P := P) w base t o.type e i z size bytes ht hi hz hsize hby hzs v n xs hown ad m c news hl hnews h1 h63 hbytes hbase hm
  unfold Oper.wp execOp
  simp only [ho, resolve, invoke, builtin, Sem.run_bind, Sem.run_pure, Result.andThen_ok, List.map_toArray, List.map_cons, List.map_nil, hs, hx, hr]
  exact hK _ _ (h v' w' h2 h3 h4)
end Go.Proofs.YtfoppbignompkaaDoor

namespace Go.Proofs.YtfoppbignompkaaDoor
open Go.RowKit

/-- a place behind an edit, and whether it's one -/
def goesV (p A O I : Int) : Int × Bool := if p < A then (p, true) else if A + O < p then (wrap64 (p - O + I), decide (p - O ≤ 9223372036854775807 - I)) else (A + I, true)
theorem goesV_1 {p A O I : Int} (h : p < A) : goesV p A O I = (p, true) := if_pos h
theorem goesV_2 {p A O I : Int} (h : ¬ p < A) (h2 : A + O < p) : goesV p A O I = (wrap64 (p - O + I), decide (p - O ≤ 9223372036854775807 - I)) := by unfold goesV; rw [if_neg h, if_pos h2]
theorem goesV_3 {p A O I : Int} (h : ¬ p < A) (h2 : ¬ A + O < p) : goesV p A O I = (A + I, true) := by unfold goesV; rw [if_neg h, if_neg h2]
theorem below_drewN' {B : Nat} {a w : World} (h : Below B a w) (n : Nat) : Below B a (w.drewN n) := h.trans ⟨rfl, rfl, rfl, Nat.le_refl _, fun _ _ => rfl⟩
theorem goes_any (p A O I : Int) (hp : 0 ≤ p) (hp2 : p ≤ 9223372036854775807) (hA : 0 ≤ A) (hO : 0 ≤ O) (hI : 0 ≤ I) (hAO : A + O ≤ 9223372036854775807) (hAI : A + I ≤ 9223372036854775807) (w : World) :
    Calls Tryd.prog 42 #[.int .i64 p, .agg #[.int .i64 A, .int .i64 O, .int .i64 I]] w fun e w' => e = .returned (.tuple #[.int .i64 (goesV p A O I).1, .bool (goesV p A O I).2]) ∧ Below w.heap.size w w' := by
  obtain ⟨d0, d1, d2⟩ := box3 w 24 (.int .i64 A) (.int .i64 O) (.int .i64 I)
  by_cases h1 : p < A
  · rw [goesV_1 h1]
    go_enter Tryd.func42, Tryd.ntmps42
    go_wp2_with fail
    go_ret2
    exact ⟨rfl, al (Below.refl _ _) _⟩
  · have h1d : decide (p < A) = false := decide_eq_false h1
    by_cases h2 : A + O < p
    · rw [goesV_2 h1 h2]
      have h2d : decide (A + O < p) = true := decide_eq_true h2
      have hw1 : IntKind.i64.wrap (9223372036854775807 - I) = 9223372036854775807 - I := IntWalk.i64_in _ (by omega)
      have hb0 : Below w.heap.size w (w.alloc (.cells #[.int .i64 A, .int .i64 O, .int .i64 I] 24)) := al (Below.refl _ _) _
      go_enter Tryd.func42, Tryd.ntmps42
      go_wp2_with fail
      go_quiet (fail)
      go_wp2_with fail
      go_ret2
      exact ⟨rfl, below_drewN' hb0 _⟩
    · rw [goesV_3 h1 h2]
      have h2d : decide (A + O < p) = false := decide_eq_false h2
      go_enter Tryd.func42, Tryd.ntmps42
      go_wp2_with fail
      go_ret2
      exact ⟨rfl, al (Below.refl _ _) _⟩

/-- a copy of a list -/
theorem info_cur : (Tryd.prog.info? 36).map (fun i => (i.zero, i.size, i.bytes)) = some (some (.agg #[.int .u32 0, .int .i64 0, .int .i64 0, .int .i64 0]), 4, 32) := by kernel_rfl
theorem ReadsC.src {w : World} {ao : Option Addr} {zs : List Cu} (h : ReadsC w ao zs) (hne : zs ≠ []) : ∃ ad, ao = some ad ∧ ∀ j u, (zs.flatMap cuC)[j]? = some u → w.cell? (ad.add j) = some u := by
  rcases h with h | ⟨b, off, hao, hc⟩
  · exact absurd h hne
  · refine ⟨_, hao, fun j u hj => ?_⟩
    obtain ⟨hjl, _⟩ := List.getElem?_eq_some_iff.1 hj
    rw [flat4c_len] at hjl
    rw [Addr.add_lit]
    have hd : j = j / 4 * 4 + j % 4 := by omega
    have hi : j / 4 < zs.length := by omega
    obtain ⟨h0, h1, h2, h3⟩ := hc (j / 4) hi
    have hf := flat4c_at zs (j / 4) (j % 4) hi (by omega)
    rw [← hd, hj] at hf
    have h4 : j % 4 < 4 := by omega
    rw [hd, ← Nat.add_assoc]
    match hm : j % 4, h4 with
    | 0, _ => rw [hm] at hf; rw [Nat.add_zero, h0, hf]; rfl
    | 1, _ => rw [hm] at hf; rw [h1, hf]; rfl
    | 2, _ => rw [hm] at hf; rw [h2, hf]; rfl
    | 3, _ => rw [hm] at hf; rw [h3, hf]; rfl
theorem flat4c_one (zs : List Cu) : ∀ u ∈ zs.flatMap cuC, u.oneCell' = true := by
  intro u hu
  obtain ⟨c, _, hc⟩ := List.mem_flatMap.1 hu
  exact cuC_one c u hc
set_option maxRecDepth 10000 in
theorem clone_any (ao : Option Addr) (cap : Nat) (zs : List Cu) (n : Nat) (hl : zs.length = n) (hn : n ≤ 1048576) (hnil : ao = none → n = 0) (w : World) (hR : ReadsC w ao zs) :
    Calls Tryd.prog 41 #[.slice ao n cap] w fun e w' => ∃ v, e = .returned v ∧ w'.ownsRow w.heap.size 36 4 v n (zs.flatMap cuC) ∧ Below w.heap.size w w' := by
  obtain ⟨i0, hi, hz0, hz1, hz2⟩ := info_parts info_cur
  have hnl := fun (w : World) (a : Option Addr) (n c : Nat) => Lib.run_eql_slice_nil (P := Tryd.prog) w 22 36 a n c 0 0 Tryd.underlying22
  have HL := Lib.hid hl
  have HRR := Lib.hid hR
  clear hl hR
  cases ao with
  | none =>
    obtain rfl := hnil rfl
    have hz : zs = [] := List.length_eq_zero_iff.1 HL.out
    go_enter Tryd.func41, Tryd.ntmps41
    go_wp2_with fail
    go_ret
    exact ⟨.slice none 0 0, rfl, World.ownsRow_nil _ _ _ _, Below.refl _ _⟩
  | some ad =>
    have hnl : ∀ w : World, (binOp .eql 22 (.slice (some ad) n cap) (.slice none 0 0)).run Tryd.prog w = .ok (.bool false) w := fun w => hnl w (some ad) n cap
    clear hnil
    have HSRC : Hid (∀ W, Below w.heap.size w W → ∀ j u, (zs.flatMap cuC)[j]? = some u → W.cell? (ad.add j) = some u) := Lib.hid fun W hb j u hj => by
      by_cases hz : zs = []
      · rw [hz] at hj; simp at hj
      · obtain ⟨ad', e, h⟩ := HRR.out.src hz
        cases e
        have h1 := h j u hj
        exact (hb.cell (World.block_lt_of_cell? w _ h1)).trans h1
    go_enter Tryd.func41, Tryd.ntmps41
    go_wp2_with (at_builtin; refine wpList_append_own _ rfl _ _ 22 rfl w.heap.size 36 i0 (.agg #[.int .u32 0, .int .i64 0, .int .i64 0, .int .i64 0]) 4 32 Tryd.underlying22 hi hz0 hz1 hz2 rfl (by decide) (.slice (some ⟨w.heap.size, 0, none⟩) 0 0) 0 [] rfl (World.ownsRow_made w #[] 0 (Nat.le_refl _) (by decide) rfl) ad n cap (zs.flatMap cuC) rfl (by rw [flat4c_len, HL.out]) (HSRC.out _ (al (Below.refl _ _) _)) (flat4c_one zs) (by unfold maxLen; omega) (by omega) (by rw [World.size_alloc]; exact Nat.le_succ _) ?_; intro v2 w2 hown2 hgrow2 _)
    have hb2 : Below w.heap.size w w2 := (al (Below.refl _ _) _).grown hgrow2 (by rw [World.size_alloc]; exact Nat.le_succ _) (fun q e => by cases e; exact Nat.le_refl _)
    rw [Nat.zero_add, List.nil_append] at hown2
    go_ret
    exact ⟨v2, rfl, hown2, hb2⟩

/-- a cell of a row of cursors turned -/
theorem flat4c_set : ∀ (L : List Cu) (i j : Nat) (c' : Cu) (v : Value), i < L.length → j < 4 → (cuC (L[i]?.getD cuZ)).set j v = cuC c' → (L.flatMap cuC).set (i * 4 + j) v = (L.set i c').flatMap cuC
  | [], i, j, _, _, h, _, _ => by simp at h
  | c :: L, 0, j, c', v, _, hj, he => by
    have he : (cuC c).set j v = cuC c' := he
    rw [List.flatMap_cons, Nat.zero_mul, Nat.zero_add, List.set_append_left _ _ (by simpa [cuC] using hj), he]
    rfl
  | c :: L, i + 1, j, c', v, h, hj, he => by
    rw [List.flatMap_cons, List.set_append_right _ _ (by simp [cuC]; omega), show (i + 1) * 4 + j - (cuC c).length = i * 4 + j by simp [cuC]; omega, flat4c_set L i j c' v (by simpa using h) hj he]
    rfl
/-- a cursor behind an edit -/
def shC (A O I : Int) (c : Cu) : Cu := (c.1, (goesV c.2.1 A O I).1, (goesV c.2.2.1 A O I).1, c.2.2.2)
def okC (A O I : Int) (c : Cu) : Bool := (goesV c.2.1 A O I).2 && (goesV c.2.2.1 A O I).2
/-- Shift's answer: the error, the list -/
def shiftV (zs : List Cu) (A O I : Int) : Int × List Cu :=
  if wrongN zs ≠ 0 then (wrongN zs, []) else if A < 0 ∨ O < 0 ∨ I < 0 ∨ 9223372036854775807 < A + O ∨ 9223372036854775807 < A + I then (2, [])
  else if zs.all (okC A O I) then (0, zs.map (shC A O I)) else (2, [])
/-- the first k shifted -/
def mixC (A O I : Int) (zs : List Cu) (k : Nat) : List Cu := (zs.take k).map (shC A O I) ++ zs.drop k
theorem mixC_zero (A O I : Int) (zs : List Cu) : mixC A O I zs 0 = zs := by simp [mixC]
theorem mixC_full (A O I : Int) (zs : List Cu) : mixC A O I zs zs.length = zs.map (shC A O I) := by simp [mixC]
theorem mixC_len (A O I : Int) (zs : List Cu) (k : Nat) : (mixC A O I zs k).length = zs.length := by simp [mixC]; omega
theorem mixC_get (A O I : Int) (zs : List Cu) (k : Nat) (hk : k < zs.length) : (mixC A O I zs k)[k]?.getD cuZ = zs[k]?.getD cuZ := by
  unfold mixC
  rw [List.getElem?_append_right (by simp; omega)]
  simp [Nat.min_eq_left (Nat.le_of_lt hk)]
theorem mixC_set (A O I : Int) (zs : List Cu) (k : Nat) (hk : k < zs.length) : (mixC A O I zs k).set k (shC A O I (zs[k]?.getD cuZ)) = mixC A O I zs (k + 1) := by
  unfold mixC
  rw [List.set_append_right _ _ (by simp; omega), List.drop_eq_getElem_cons hk, List.length_map, List.length_take, Nat.min_eq_left (Nat.le_of_lt hk), Nat.sub_self, List.set_cons_zero, List.take_succ_eq_append_getElem hk, List.map_append, List.append_assoc]
  simp [hk]
end Go.Proofs.YtfoppbignompkaaDoor

namespace Go.Proofs.YtfoppbignompkaaDoor
open Go.RowKit

theorem wrongN_zero {zs : List Cu} (h : wrongN zs = 0) : zs.length ≤ 8 ∧ ∀ k, k < zs.length → badC zs k = false := by
  unfold wrongN at h
  by_cases h8 : 8 < zs.length
  · rw [if_pos h8] at h; omega
  · rw [if_neg h8] at h
    by_cases hb : (List.range zs.length).any (badC zs) = true
    · rw [if_pos hb] at h; omega
    · refine ⟨by omega, fun k hk => ?_⟩
      cases hc : badC zs k
      · rfl
      · exact absurd (List.any_eq_true.2 ⟨k, List.mem_range.2 hk, hc⟩) hb
theorem bad_low {zs : List Cu} {k : Nat} (h : badC zs k = false) : 0 ≤ (zs[k]?.getD cuZ).2.1 ∧ 0 ≤ (zs[k]?.getD cuZ).2.2.1 ∧ 0 ≤ (zs[k]?.getD cuZ).2.2.2 := by
  unfold badC at h
  rw [Bool.or_eq_false_iff] at h
  have := of_decide_eq_false h.1
  omega
/-- the numbers are ints -/
def IntsC (zs : List Cu) : Prop := ∀ k, k < zs.length → (zs[k]?.getD cuZ).2.1 ≤ 9223372036854775807 ∧ (zs[k]?.getD cuZ).2.2.1 ≤ 9223372036854775807 ∧ (zs[k]?.getD cuZ).2.2.2 ≤ 9223372036854775807

set_option maxRecDepth 10000 in
set_option maxHeartbeats 4000000 in
theorem shift_bad (ao : Option Addr) (cap : Nat) (zs : List Cu) (n : Nat) (hl : zs.length = n) (hn : n ≤ 140737488351232) (A O I : Int) (er : Int) (her : wrongN zs = er) (hz : er ≠ 0) (w : World) (hR : ReadsC w ao zs) :
    Calls Tryd.prog 14 #[.slice ao n cap, .agg #[.int .i64 A, .int .i64 O, .int .i64 I]] w fun e w' => e = .returned (.tuple #[.slice none 0 0, .int .i64 er]) ∧ Below w.heap.size w w' := by
  have HW := Lib.hid (fun w hR => cwrong_any ao cap zs n hl hn w hR)
  have HR := Lib.hid hR
  rw [her] at HW
  have hne : (er != 0) = true := bne_iff_ne.2 hz
  clear hl hR her hz
  obtain ⟨d0, d1, d2⟩ := box3 w 24 (.int .i64 A) (.int .i64 O) (.int .i64 I)
  have hbk := Blk.new w 24 [.int .i64 A, .int .i64 O, .int .i64 I]
  have hb0 : Below w.heap.size w (w.alloc (.cells #[.int .i64 A, .int .i64 O, .int .i64 I] 24)) := al (Below.refl _ _) _
  obtain ⟨W, hW⟩ : ∃ W, w.alloc (.cells #[.int .i64 A, .int .i64 O, .int .i64 I] 24) = W := ⟨_, rfl⟩
  replace hbk : Blk W w.heap.size 24 [.int .i64 A, .int .i64 O, .int .i64 I] := hW ▸ hbk
  rw [hW] at d0 d1 d2 hb0
  go_enter Tryd.func14, Tryd.ntmps14
  go_wp2_with (go_at_call 40; (with_reducible refine (HW.out _ (HR.out.below hb0)).mono ?_); rintro e w1 ⟨rfl, hb1⟩)
  go_ret2
  exact ⟨rfl, nx hb0 hb1⟩
set_option maxRecDepth 10000 in
set_option maxHeartbeats 4000000 in
theorem shift_arg (ao : Option Addr) (cap : Nat) (zs : List Cu) (n : Nat) (hl : zs.length = n) (hn : n ≤ 140737488351232) (A O I : Int) (hA : -9223372036854775808 ≤ A ∧ A ≤ 9223372036854775807) (hO : -9223372036854775808 ≤ O ∧ O ≤ 9223372036854775807) (hI : -9223372036854775808 ≤ I ∧ I ≤ 9223372036854775807)
    (her : wrongN zs = 0) (hx : A < 0 ∨ O < 0 ∨ I < 0 ∨ 9223372036854775807 < A + O ∨ 9223372036854775807 < A + I) (w : World) (hR : ReadsC w ao zs) :
    Calls Tryd.prog 14 #[.slice ao n cap, .agg #[.int .i64 A, .int .i64 O, .int .i64 I]] w fun e w' => e = .returned (.tuple #[.slice none 0 0, .int .i64 2]) ∧ Below w.heap.size w w' := by
  have HW := Lib.hid (fun w hR => cwrong_any ao cap zs n hl hn w hR)
  have HR := Lib.hid hR
  rw [her] at HW
  clear hl hR her
  obtain ⟨d0, d1, d2⟩ := box3 w 24 (.int .i64 A) (.int .i64 O) (.int .i64 I)
  have hbk := Blk.new w 24 [.int .i64 A, .int .i64 O, .int .i64 I]
  have hb0 : Below w.heap.size w (w.alloc (.cells #[.int .i64 A, .int .i64 O, .int .i64 I] 24)) := al (Below.refl _ _) _
  obtain ⟨W, hW⟩ : ∃ W, w.alloc (.cells #[.int .i64 A, .int .i64 O, .int .i64 I] 24) = W := ⟨_, rfl⟩
  replace hbk : Blk W w.heap.size 24 [.int .i64 A, .int .i64 O, .int .i64 I] := hW ▸ hbk
  rw [hW] at d0 d1 d2 hb0
  obtain ⟨hA1, hA2⟩ := hA
  obtain ⟨hO1, hO2⟩ := hO
  obtain ⟨hI1, hI2⟩ := hI
  by_cases hs : A < 0 ∨ O < 0 ∨ I < 0
  · clear hx
    go_enter Tryd.func14, Tryd.ntmps14
    go_wp2_with (go_at_call 40; (with_reducible refine (HW.out _ (HR.out.below hb0)).mono ?_); rintro e w1 ⟨rfl, hb1⟩; have e0 := cellKeep d0 hb1; have e1 := cellKeep d1 hb1; have e2 := cellKeep d2 hb1)
    all_goals
      go_ret2
      exact ⟨rfl, nx hb0 hb1⟩
  · have hA0 : 0 ≤ A := by omega
    have hO0 : 0 ≤ O := by omega
    have hI0 : 0 ≤ I := by omega
    have hx' : 9223372036854775807 < A + O ∨ 9223372036854775807 < A + I := by omega
    clear hx hs
    go_enter Tryd.func14, Tryd.ntmps14
    go_wp2_with (go_at_call 40; (with_reducible refine (HW.out _ (HR.out.below hb0)).mono ?_); rintro e w1 ⟨rfl, hb1⟩; have e0 := cellKeep d0 hb1; have e1 := cellKeep d1 hb1; have e2 := cellKeep d2 hb1)
    all_goals first
      | (exfalso; omega)
      | (go_ret2; exact ⟨rfl, nx hb0 hb1⟩)

theorem shC_get (A O I : Int) (zs : List Cu) (k : Nat) (hk : k < zs.length) (c : Cu) (hc : zs[k]?.getD cuZ = c) (L : List Cu) (hL : L = mixC A O I zs k) (v1 v2 : Value) (h1 : v1 = .int .i64 (goesV c.2.1 A O I).1) (h2 : v2 = .int .i64 (goesV c.2.2.1 A O I).1) :
    ((L.flatMap cuC).set (k * 4 + 1) v1).set (k * 4 + 2) v2 = (mixC A O I zs (k + 1)).flatMap cuC := by
  subst hL h1 h2
  have hl := mixC_len A O I zs k
  have hg := mixC_get A O I zs k hk
  rw [hc] at hg
  rw [flat4c_set _ k 1 (c.1, (goesV c.2.1 A O I).1, c.2.2.1, c.2.2.2) _ (by omega) (by omega) (by rw [hg]; rfl)]
  rw [flat4c_set _ k 2 (shC A O I c) _ (by rw [List.length_set]; omega) (by omega) (by rw [List.getElem?_set_self (by omega)]; rfl)]
  rw [List.set_set, ← mixC_set A O I zs k hk, hc]

set_option maxRecDepth 10000 in
set_option maxHeartbeats 8000000 in
theorem shift_ok (ao : Option Addr) (cap : Nat) (zs : List Cu) (n : Nat) (hl : zs.length = n) (hnil : ao = none → n = 0) (A O I : Int) (hA0 : 0 ≤ A) (hO0 : 0 ≤ O) (hI0 : 0 ≤ I) (hAO : A + O ≤ 9223372036854775807) (hAI : A + I ≤ 9223372036854775807)
    (her : wrongN zs = 0) (hz : IntsC zs) (w : World) (hR : ReadsC w ao zs) :
    Calls Tryd.prog 14 #[.slice ao n cap, .agg #[.int .i64 A, .int .i64 O, .int .i64 I]] w fun e w' =>
      ∃ v, e = .returned (.tuple #[v, .int .i64 (shiftV zs A O I).1]) ∧ w'.ownsRow w.heap.size 36 4 v (shiftV zs A O I).2.length ((shiftV zs A O I).2.flatMap cuC) ∧ Below w.heap.size w w' := by
  obtain ⟨hn8, hbad⟩ := wrongN_zero her
  have HW := Lib.hid (fun w hR => cwrong_any ao cap zs n hl (by omega) w hR)
  have HCL := Lib.hid (fun w hR => clone_any ao cap zs n hl (by omega) hnil w hR)
  have HR := Lib.hid hR
  have HV := Lib.hid (show shiftV zs A O I = if zs.all (okC A O I) then (0, zs.map (shC A O I)) else (2, []) by unfold shiftV; rw [if_neg (by omega), if_neg (by omega)])
  rw [hl] at hn8
  have HL := Lib.hid hl
  have HBAD := Lib.hid hbad
  have HZ := Lib.hid hz
  rw [her] at HW
  clear hR her hnil hbad hz hl
  obtain ⟨m1, hm1⟩ : ∃ m1, (if O < A then O else A) = m1 := ⟨_, rfl⟩
  obtain ⟨mn, hmn⟩ : ∃ mn, (if I < m1 then I else m1) = mn := ⟨_, rfl⟩
  have hm10 : 0 ≤ m1 := by rw [← hm1]; split <;> omega
  have hmn1 : 0 ≤ mn := by rw [← hmn]; split <;> omega
  have hmn0 : decide (mn < 0) = false := decide_eq_false (by omega)
  obtain ⟨mx, hmx⟩ : ∃ mx, max O I = mx := ⟨_, rfl⟩
  have hmx0 : 0 ≤ mx := by omega
  have hmx1 : A + mx ≤ 9223372036854775807 := by omega
  have hmxd : decide (9223372036854775807 - mx < A) = false := decide_eq_false (by omega)
  obtain ⟨d0, d1, d2⟩ := box3 w 24 (.int .i64 A) (.int .i64 O) (.int .i64 I)
  have hbk := Blk.new w 24 [.int .i64 A, .int .i64 O, .int .i64 I]
  have hb0 : Below w.heap.size w (w.alloc (.cells #[.int .i64 A, .int .i64 O, .int .i64 I] 24)) := al (Below.refl _ _) _
  obtain ⟨W, hW⟩ : ∃ W, w.alloc (.cells #[.int .i64 A, .int .i64 O, .int .i64 I] 24) = W := ⟨_, rfl⟩
  replace hbk : Blk W w.heap.size 24 [.int .i64 A, .int .i64 O, .int .i64 I] := hW ▸ hbk
  rw [hW] at d0 d1 d2 hb0
  go_enter Tryd.func14, Tryd.ntmps14
  go_wp2_with (first
    | (go_at_call 40; (with_reducible refine (HW.out _ (HR.out.below hb0)).mono ?_); rintro e w1 ⟨rfl, hb1⟩; have hb01 := nx hb0 hb1; have hbk1 := hbk.below hb1; have e0 := hbk1.cell 0 rfl; have e1 := hbk1.cell 1 rfl; have e2 := hbk1.cell 2 rfl)
    | (go_at_call 41; (with_reducible refine (HCL.out _ (HR.out.below hb01)).mono ?_); rintro e w2 ⟨v2, rfl, hown2, hb2⟩; obtain ⟨a2, c2, rfl⟩ := (HRow.of_own hown2).form; have hbk2 := hbk1.below hb2))
  have hsz1 := hb01.size
  have hlt1 := hbk1.lt
  have hb02 := nx hb01 hb2
  have HOWN := Lib.hid hown2
  clear HW HCL HR hbk hb0 hb1 hb2 d0 d1 d2 e0 e1 e2 hbk1 hown2 hmn hm1 hmn0 hmn1 hm10
  go_loopw [41] (fun i wr => ∃ k : Nat, i = .int .i64 (k : Nat) ∧ k ≤ n ∧ Hid (∀ j, j < k → okC A O I (zs[j]?.getD cuZ) = true) ∧ Hid (wr.ownsRow w1.heap.size 36 4 (.slice a2 n c2) n ((mixC A O I zs k).flatMap cuC)) ∧ Blk wr w.heap.size 24 [.int .i64 A, .int .i64 O, .int .i64 I] ∧ Below w.heap.size w wr) (fun i _ => n - (intOf i).toNat)
  case atStart => exact ⟨0, rfl, Nat.zero_le _, Lib.hid (fun j hj => by omega), Lib.hid (by rw [mixC_zero]; exact HOWN.out), hbk2, hb02⟩
  case round =>
    clear hbk2 hb02
    obtain ⟨k, rfl, hk, hok, hO, hB, hb⟩ := hrel
    by_cases hlt : k < n
    · have hki : (k : Int) < (n : Int) := by omega
      have hk0 : (0 : Int) ≤ (k : Int) := by omega
      have hkz : k < zs.length := by rw [HL.out]; exact hlt
      obtain ⟨g, c', hv, hg1, hg2⟩ := (HRow.of_own hO.out).form1 (by omega)
      obtain ⟨rfl, rfl⟩ : a2 = some ⟨g, 0, none⟩ ∧ c2 = c' := by injection hv with e1 e2 e3; exact ⟨e1, e3⟩
      have hgw : w.heap.size ≠ g := by omega
      have key : ∀ j, j < 4 → wr.cell? ⟨g, k * 4 + j, none⟩ = (cuC (zs[k]?.getD cuZ))[j]? := fun j hj => by
        rw [hO.out.cellAt (k * 4 + j) (by omega), flat4c_at _ k j (by rw [mixC_len]; exact hkz) hj, mixC_get _ _ _ _ _ hkz]
      have x1 := key 1 (by omega)
      have x2 := key 2 (by omega)
      have hlow := bad_low (HBAD.out k hkz)
      obtain ⟨hu1, hu2, -⟩ := HZ.out k hkz
      obtain ⟨c, hc⟩ : ∃ c, zs[k]?.getD cuZ = c := ⟨_, rfl⟩
      rw [hc] at x1 x2 hlow hu1 hu2
      have HC := Lib.hid hc
      have hokc : okC A O I c = ((goesV c.2.1 A O I).2 && (goesV c.2.2.1 A O I).2) := rfl
      have x1 : wr.cell? ⟨g, k * 4 + 1, none⟩ = some (.int .i64 c.2.1) := x1
      have x2 : wr.cell? ⟨g, k * 4 + 2, none⟩ = some (.int .i64 c.2.2.1) := x2
      have HG1 := Lib.hid (fun w => goes_any c.2.1 A O I hlow.1 hu1 hA0 hO0 hI0 hAO hAI w)
      have HG2 := Lib.hid (fun w => goes_any c.2.2.1 A O I hlow.2.1 hu2 hA0 hO0 hI0 hAO hAI w)
      have HNX := Lib.hid (fun v1 v2 h1 h2 => shC_get A O I zs k hkz c hc _ rfl v1 v2 h1 h2)
      obtain ⟨a, ha⟩ : ∃ a, c.2.1 = a := ⟨_, rfl⟩
      obtain ⟨d, hd⟩ : ∃ a, c.2.2.1 = a := ⟨_, rfl⟩
      rw [ha] at x1 HG1 HNX hokc
      rw [hd] at x2 HG2 HNX hokc
      obtain ⟨⟨a', o1⟩, hp1⟩ : ∃ p, goesV a A O I = p := ⟨_, rfl⟩
      obtain ⟨⟨d', o2⟩, hp2⟩ : ∃ p, goesV d A O I = p := ⟨_, rfl⟩
      rw [hp1] at HG1 HNX hokc
      rw [hp2] at HG2 HNX hokc
      have HNXT := Lib.hid (HNX.out (.int .i64 a') (.int .i64 d') rfl rfl)
      have HOK := Lib.hid hokc
      clear key hlow hu1 hu2 hc ha hd hp1 hp2 hokc hv HNX
      have b0 := hB.cell 0 rfl
      have b1 := hB.cell 1 rfl
      have b2 := hB.cell 2 rfl
      have k0 := Later.cell b0
      have k1 := Later.cell b1
      have k2 := Later.cell b2
      have k3 := Later.cell x1
      have k4 := Later.cell x2
      have cG : ∀ p' : Later wr, Calls Tryd.prog 42 #[.int .i64 a, .agg #[.int .i64 A, .int .i64 O, .int .i64 I]] p'.W fun e w'' => e = .returned (.tuple #[.int .i64 a', .bool o1]) ∧ ∃ q : Later wr, w'' = q.W := fun p' => Calls.later_of (HG1.out _)
      go_wp2_with fail
      refine wp_region_later (by kernel_rfl) (by kernel_rfl) ?_
      repeat (go_big_quiet_step (with_reducible exact cG _))
      refine wpQuiet_nil ?_
      intro _ hw'
      obtain ⟨pq, hw''⟩ := hw'
      subst hw''
      have hbP := pq.hb
      have B0 := k0 pq
      have B1 := k1 pq
      have B2 := k2 pq
      have X1 := k3 pq
      have X2 := k4 pq
      have hBP := hB.below hbP
      have HOP := Lib.hid (owns_below hO.out hbP (Nat.le_refl _))
      obtain ⟨V, hV⟩ : ∃ V, pq.W = V := ⟨_, rfl⟩
      rw [hV] at hbP B0 B1 B2 X1 X2 hBP HOP ⊢
      have hbV := nx hb hbP
      clear hV k0 k1 k2 k3 k4 cG b0 b1 b2 x1 x2 hbP hB hO hb
      have k0 := Later.cell B0
      have k1 := Later.cell B1
      have k2 := Later.cell B2
      have k3 := Later.cell X1
      have k4 := Later.cell X2
      have cG : ∀ p' : Later V, Calls Tryd.prog 42 #[.int .i64 d, .agg #[.int .i64 A, .int .i64 O, .int .i64 I]] p'.W fun e w'' => e = .returned (.tuple #[.int .i64 d', .bool o2]) ∧ ∃ q : Later V, w'' = q.W := fun p' => Calls.later_of (HG2.out _)
      go_wp2_with fail
      refine wp_region_later (by kernel_rfl) (by kernel_rfl) ?_
      repeat (go_big_quiet_step (with_reducible exact cG _))
      refine wpQuiet_nil ?_
      intro _ hw'
      obtain ⟨pr, hw''⟩ := hw'
      subst hw''
      have hbR := pr.hb
      have Y1 := k3 pr
      have Y2 := k4 pr
      have hBR := hBP.below hbR
      have HOR := owns_below HOP.out hbR (Nat.le_refl _)
      obtain ⟨U, hU⟩ : ∃ U, pr.W = U := ⟨_, rfl⟩
      rw [hU] at hbR Y1 Y2 hBR HOR ⊢
      have hbU := nx hbV hbR
      clear hU k0 k1 k2 k3 k4 cG B0 B1 B2 X1 X2 hbR hBP HOP hbV
      have F1 := HOR.frozenAt (k * 4 + 1)
      have F2 := HOR.frozenAt (k * 4 + 2)
      obtain ⟨r1, gr1⟩ := HOR.stored (k * 4 + 1) (.int .i64 a')
      obtain ⟨r2, gr2⟩ := r1.stored (k * 4 + 2) (.int .i64 d')
      rw [HNXT.out] at r2
      have R2 := Lib.hid r2
      have hB2 := (hBR.other hgw (k * 4 + 1) (.int .i64 a')).other hgw (k * 4 + 2) (.int .i64 d')
      have hbF := (hbU.setCell (p := ⟨g, k * 4 + 1, none⟩) (show w.heap.size ≤ g by omega) (.int .i64 a')).setCell (p := ⟨g, k * 4 + 2, none⟩) (show w.heap.size ≤ g by omega) (.int .i64 d')
      clear r1 r2 gr1 gr2 HOR
      by_cases hoo : o1 = true ∧ o2 = true
      · obtain ⟨rfl, rfl⟩ := hoo
        go_wp2_with fail
        exact ⟨⟨k + 1, by go_num, hlt, Lib.hid (fun j hj => by rcases Nat.lt_succ_iff_lt_or_eq.1 hj with h | rfl; exact hok.out j h; rw [HC.out, HOK.out]; rfl), R2, hB2, hbF⟩, by simp [intOf]; omega⟩
      · have hoc : okC A O I (zs[k]?.getD cuZ) = false := by rw [HC.out, HOK.out]; cases o1 <;> cases o2 <;> simp_all
        have HSV := Lib.hid (show shiftV zs A O I = (2, []) by
          rw [HV.out, if_neg]
          intro h
          have := List.all_eq_true.1 h (zs[k]?.getD cuZ) (by rw [List.getElem?_eq_getElem hkz]; exact List.getElem_mem hkz)
          rw [hoc] at this
          cases this)
        clear hoc
        cases o1
        · go_wp2_with fail
          go_ret2
          exact ⟨.slice none 0 0, by rw [HSV.out]; rfl, by rw [HSV.out]; exact World.ownsRow_nil _ _ _ _, hbU⟩
        · cases o2
          · go_wp2_with fail
            go_ret2
            exact ⟨.slice none 0 0, by rw [HSV.out]; rfl, by rw [HSV.out]; exact World.ownsRow_nil _ _ _ _, hbU⟩
          · exact absurd ⟨rfl, rfl⟩ hoo
    · obtain rfl : k = n := by omega
      have HSV := Lib.hid (show shiftV zs A O I = (0, zs.map (shC A O I)) by
        rw [HV.out, if_pos]
        rw [List.all_eq_true]
        intro c hc
        obtain ⟨j, hj, rfl⟩ := List.getElem_of_mem hc
        have := hok.out j (by rw [← HL.out]; exact hj)
        rw [List.getElem?_eq_getElem hj] at this
        exact this)
      have hkd : decide (k < k) = false := decide_eq_false (by omega)
      go_wp2_with fail
      go_ret2
      refine ⟨_, by rw [HSV.out]; rfl, ?_, hb⟩
      rw [HSV.out]
      have h := owns_base hO.out (base' := w.heap.size) (by omega)
      rw [← HL.out, mixC_full] at h
      rw [List.length_map, HL.out]
      rw [HL.out] at h
      exact h
end Go.Proofs.YtfoppbignompkaaDoor

namespace Go.Proofs.YtfoppbignompkaaDoor
open Go.RowKit

/-- 2 to the n, as a word -/
def pw (n : Nat) : Int := if n < 64 then 2 ^ n else 0
theorem pw_zero : pw 0 = 1 := rfl
theorem pw_next (n : Nat) (h : n < 64) : IntKind.u64.wrap (pw n * 2) = pw (n + 1) := by
  have : ∀ n, n < 64 → IntKind.u64.wrap (pw n * 2) = pw (n + 1) := by decide +kernel
  exact this n h
theorem pw_ne (n : Nat) (h : n < 64) : pw n ≠ 0 := by
  have : ∀ n, n < 64 → pw n ≠ 0 := by decide +kernel
  exact this n h
theorem size_any (w : World) : Calls Tryd.prog 90 #[] w fun e w' => e = .returned (.int .i64 8) ∧ w = w' := by
  go_enter Tryd.func90, Tryd.ntmps90
  go_wp2_with fail
  go_loop [1, 2] (fun n x => ∃ k : Nat, n = .int .i64 (k : Nat) ∧ k ≤ 64 ∧ x = .int .u64 (pw k)) (fun n _ => 64 - (intOf n).toNat)
  case atStart => exact ⟨0, rfl, by omega, rfl⟩
  case round =>
    obtain ⟨k, rfl, hk, rfl⟩ := hrel
    by_cases h : k < 64
    · have hne : (pw k != 0) = true := bne_iff_ne.2 (pw_ne k h)
      have hn := pw_next k h
      obtain ⟨p, hp⟩ : ∃ p, pw k = p := ⟨_, rfl⟩
      rw [hp] at hne hn ⊢
      go_wp2_with fail
      exact ⟨⟨k + 1, by go_num, by omega, rfl⟩, by simp [intOf]; omega⟩
    · obtain rfl : k = 64 := by omega
      rw [show pw 64 = 0 from rfl, show ((64 : Nat) : Int) = 64 from rfl]
      go_wp2_with fail
      go_ret
      exact ⟨rfl, rfl⟩

/-- the bytes of a number, the lowest first -/
def leZ (x : Int) (m : Nat) : List Int := (List.range m).map fun k => x / 256 ^ k % 256
theorem leZ_len (x : Int) (m : Nat) : (leZ x m).length = m := by simp [leZ]
theorem leZ_succ (x : Int) (m : Nat) : leZ x (m + 1) = leZ x m ++ [x / 256 ^ m % 256] := by unfold leZ; rw [List.range_succ, List.map_append]; rfl
theorem shift_next (x : Int) (k : Nat) : x / 256 ^ k / 256 = x / 256 ^ (k + 1) := by
  rw [Int.pow_succ]
  exact Int.ediv_ediv_of_nonneg (Int.le_of_lt (Int.pow_pos (by omega)))
theorem shift_le (x : Int) (h : 0 ≤ x) (k : Nat) : 0 ≤ x / 256 ^ k ∧ x / 256 ^ k ≤ x := ⟨Int.ediv_nonneg h (Int.le_of_lt (Int.pow_pos (by omega))), Int.ediv_le_self _ h⟩
theorem info_u8p : (Tryd.prog.info? 5).map (fun i => (i.zero, i.size, i.bytes)) = some (some (.int .u8 0), 1, 1) := by kernel_rfl
theorem made_bytes (n : Nat) : madeCells (Value.int .u8 0).cells (n * 1) = Array.replicate n (Value.int .u8 0) := by
  apply Array.ext'
  rw [Nat.mul_one, Array.toList_replicate]
  exact toList_madeCells_one (Value.int .u8 0) n

set_option maxRecDepth 10000 in
set_option maxHeartbeats 4000000 in
theorem put_any (ao : Option Addr) (cap : Nat) (zs : List Int) (n : Nat) (hl : zs.length = n) (hn : n ≤ 1048576) (x : Int) (hx : 0 ≤ x) (hx2 : x ≤ 18446744073709551615) (w : World) (hR : ReadsI w .u8 ao zs) :
    Calls Tryd.prog 57 #[.slice ao n cap, .int .u64 x] w fun e w' => ∃ v, e = .returned v ∧ w'.ownsRow w.heap.size 5 1 v (n + 8) ((zs ++ leZ x 8).map (Value.int .u8)) ∧ Below w.heap.size w w' := by
  obtain ⟨i0, hi, hz0, hz1, hz2⟩ := info_parts info_u8p
  have HL := Lib.hid hl
  have HRR := Lib.hid hR
  have hmk : ∀ W : World, (Instr.makeSlice 86 (.int .i64 (n : Nat)) (.int .i64 ((n : Int) + 8))).run Tryd.prog W = .ok (.slice (some ⟨W.heap.size, 0, none⟩) n (n + 8)) (W.alloc (.cells (Array.replicate (n + 8) (Value.int .u8 0)) 5)) := fun W => by
    have := run_make (P := Tryd.prog) W 86 5 i0 (.int .u8 0) Tryd.underlying86 hi hz0 .i64 .i64 (n : Nat) ((n + 8 : Nat) : Int) (by omega) (by omega) (by rw [hz2]; omega) (by omega)
    rw [hz1, Int.toNat_natCast, Int.toNat_natCast, made_bytes] at this
    rw [← this]
    congr 1
  have HSZ := Lib.hid (show (Tryd.prog.info? 5).map (·.size) = some 1 by rw [hi]; simp [hz1])
  have HBLK : Hid ((w.alloc (.cells (Array.replicate (n + 8) (Value.int .u8 0)) 5)).heap[w.heap.size]? = some (.cells (List.replicate (n + 8) (Value.int .u8 0)).toArray 5 (0, 0))) := Lib.hid (by
    have := Blk.new w 5 (List.replicate (n + 8) (Value.int .u8 0))
    rw [List.toArray_replicate] at this ⊢
    unfold Blk at this
    rwa [List.toArray_replicate] at this)
  have hb1 : Below w.heap.size w (w.alloc (.cells (Array.replicate (n + 8) (Value.int .u8 0)) 5)) := al (Below.refl _ _) _
  have HB1 := Lib.hid hb1
  clear hl hR hb1
  have hpos : 0 < (zs.map (Value.int .u8)).length → (some (⟨w.heap.size, 0, none⟩ : Addr)) = some ⟨w.heap.size, 0, none⟩ ∧ ∃ ad, ao = some ad ∧ ∀ j v, (zs.map (Value.int .u8))[j]? = some v → (w.alloc (.cells (Array.replicate (n + 8) (Value.int .u8 0)) 5)).cell? (ad.add j) = some v := by
    intro h0
    rcases HRR.out with hz | ⟨b, off, hao, hc⟩
    · rw [hz] at h0; simp at h0
    · refine ⟨rfl, _, hao, fun j v hj => ?_⟩
      obtain ⟨hjl, hjv⟩ := List.getElem?_eq_some_iff.1 hj
      rw [List.length_map] at hjl
      rw [Addr.add_lit]
      have h1 := cellKeep (hc j hjl) HB1.out
      rw [h1]
      rw [← hjv, List.getElem_map, List.getElem?_eq_getElem hjl]
      rfl
  have HPOS := Lib.hid hpos
  clear hpos
  go_enter Tryd.func57, Tryd.ntmps57
  go_wp2_with (first
    | (refine wpList_copy_splice rfl (.tmp 13) (.tmp 14) 86 86 rfl 5 Tryd.underlying86 HSZ.out (some ⟨w.heap.size, 0, none⟩) ao n (n + 8) n cap rfl rfl w.heap.size 0 (List.replicate (n + 8) (Value.int .u8 0)) 5 HBLK.out (zs.map (Value.int .u8)) (by rw [List.length_map, HL.out]; exact (Nat.min_self n).symm) HPOS.out (by rw [List.length_map, HL.out, List.length_replicate]; omega) (map_oneCell _ _) w.heap.size w HB1.out (Nat.le_refl _) ?_; intro w3 hg3 hb3)
    | (go_at_call 90; (with_reducible refine (size_any _).mono ?_); rintro e w4 ⟨rfl, rfl⟩))
  have R0 : Hid (w3.ownsRow w.heap.size 5 1 (.slice (some ⟨w.heap.size, 0, none⟩) n (n + 8)) n (zs.map (Value.int .u8))) := by
    refine Lib.hid ⟨by rw [List.length_map, HL.out, Nat.mul_one], .inr ⟨w.heap.size, n + 8, _, rfl, Nat.le_refl _, hg3.out, by omega, by unfold maxLen; omega, ?_, ?_⟩⟩
    · rw [List.size_toArray, length_splice _ _ _ (by rw [List.length_map, HL.out, List.length_replicate]; omega), List.length_replicate, Nat.mul_one]
    · unfold splice
      rw [List.take_zero, List.nil_append, Nat.mul_one, List.take_append_of_le_length (by rw [List.length_map, HL.out]; exact Nat.le_refl _), List.take_of_length_le (by rw [List.length_map, HL.out]; exact Nat.le_refl _)]
  clear hg3 HBLK HB1 HPOS HSZ hmk
  go_loopw [5, 6, 18] (fun v x' i wr => ∃ k : Nat, i = .int .i64 (k : Nat) ∧ k ≤ 8 ∧ x' = .int .u64 (x / 256 ^ k) ∧ Hid (wr.ownsRow w.heap.size 5 1 v (n + k) ((zs ++ leZ x k).map (Value.int .u8))) ∧ Below w.heap.size w wr) (fun _ _ i _ => 8 - (intOf i).toNat)
  case atStart => exact ⟨0, rfl, by omega, by simp, Lib.hid (by simpa [leZ] using R0.out), hb3⟩
  case round =>
    clear hb3
    obtain ⟨k, rfl, hk, rfl, hO, hb⟩ := hrel
    by_cases hlt : k < 8
    · have hki : (k : Int) < 8 := by omega
      obtain ⟨h1, h2⟩ := shift_le x hx k
      have HN := Lib.hid (shift_next x k)
      have HS := Lib.hid (leZ_succ x k)
      obtain ⟨y, hy⟩ : ∃ y, x / 256 ^ k = y := ⟨_, rfl⟩
      rw [hy] at h1 h2 HN HS ⊢
      have hy2 : y ≤ 18446744073709551615 := by omega
      have hsz := hb.size
      clear hy h2
      go_wp2_with (at_builtin; refine wpList_append_own _ rfl _ _ 86 rfl w.heap.size 5 i0 (.int .u8 0) 1 1 Tryd.underlying86 hi hz0 hz1 hz2 rfl (by decide) u5 _ _ rfl (hO.out.alloc _) ⟨wr.heap.size, 0, none⟩ 1 1 [.int .u8 (y % 256)] rfl (by simp) (cells_new _ _ _) (by simp [Value.oneCell']) (by unfold maxLen; omega) (by omega) (by rw [World.size_alloc]; omega) ?_; intro v4 w4 hown4 hgrow4 _)
      have hb4 : Below w.heap.size w w4 := (al hb _).grown hgrow4 (by rw [World.size_alloc]; omega) (fun q e => (hO.out.lt q e).1)
      exact ⟨⟨k + 1, by go_num, by omega, by rw [HN.out], Lib.hid (by rw [HS.out, ← List.append_assoc, List.map_append]; exact hown4), hb4⟩, by simp [intOf]; omega⟩
    · obtain rfl : k = 8 := by omega
      rw [show ((8 : Nat) : Int) = 8 from rfl]
      go_wp2_with fail
      go_ret
      exact ⟨_, rfl, hO.out, hb⟩

theorem own_base {w : World} {base base' : Nat} {e : TypeId} {size : Nat} {v : Value} {n : Nat} {xs : List Value} (h : w.ownsRow base e size v n xs) (hB : base' ≤ base) : w.ownsRow base' e size v n xs := owns_base h hB
/-- a number as a word -/
def wordC (c : Cu) : List Int := [c.1, c.2.1, c.2.2.1, c.2.2.2]
/-- the bytes of a list -/
def packZ (zs : List Cu) : List Int := zs.flatMap fun c => (wordC c).flatMap fun x => leZ x 8
theorem packZ_len (zs : List Cu) : (packZ zs).length = 32 * zs.length := by
  induction zs with
  | nil => rfl
  | cons c zs ih =>
    have : packZ (c :: zs) = ((wordC c).flatMap fun x => leZ x 8) ++ packZ zs := rfl
    rw [this, List.length_append, ih, List.length_cons]
    simp [wordC, leZ_len]
    omega
end Go.Proofs.YtfoppbignompkaaDoor

namespace Go.Proofs.YtfoppbignompkaaDoor
open Go.RowKit

theorem packZ_succ (zs : List Cu) (k : Nat) (hk : k < zs.length) : packZ (zs.take (k + 1)) = packZ (zs.take k) ++ ((wordC (zs[k]?.getD cuZ)).flatMap fun x => leZ x 8) := by
  unfold packZ
  rw [List.take_succ_eq_append_getElem hk, List.flatMap_append, List.getElem?_eq_getElem hk]
  simp
/-- the bounds of a cursor's numbers, as words -/
def WordsC (zs : List Cu) : Prop := ∀ k, k < zs.length → 0 ≤ (zs[k]?.getD cuZ).1 ∧ (zs[k]?.getD cuZ).1 ≤ 4294967295
theorem pack_bad (ao : Option Addr) (cap : Nat) (zs : List Cu) (n : Nat) (hl : zs.length = n) (hn : n ≤ 140737488351232) (er : Int) (her : wrongN zs = er) (hz : er ≠ 0) (w : World) (hR : ReadsC w ao zs) :
    Calls Tryd.prog 31 #[.slice ao n cap] w fun e w' => e = .returned (.tuple #[.string ⟨#[]⟩, .int .i64 er]) ∧ Below w.heap.size w w' := by
  have HW := Lib.hid (fun w hR => cwrong_any ao cap zs n hl hn w hR)
  have HR := Lib.hid hR
  rw [her] at HW
  have hne : (er != 0) = true := bne_iff_ne.2 hz
  clear hl hR her hz
  go_enter Tryd.func31, Tryd.ntmps31
  go_wp2_with (go_at_call 40; (with_reducible refine (HW.out _ HR.out).mono ?_); rintro e w1 ⟨rfl, hb1⟩)
  go_ret2
  exact ⟨rfl, hb1⟩
set_option maxRecDepth 10000 in
set_option maxHeartbeats 8000000 in
theorem pack_ok (ao : Option Addr) (cap : Nat) (zs : List Cu) (n : Nat) (hl : zs.length = n) (her : wrongN zs = 0) (hz : IntsC zs) (hz2 : WordsC zs) (w : World) (hR : ReadsC w ao zs) :
    Calls Tryd.prog 31 #[.slice ao n cap] w fun e w' => e = .returned (.tuple #[.string (strOfNums (packZ zs)), .int .i64 0]) ∧ Below w.heap.size w w' := by
  obtain ⟨hn8, hbad⟩ := wrongN_zero her
  have HW := Lib.hid (fun w hR => cwrong_any ao cap zs n hl (by omega) w hR)
  have HR := Lib.hid hR
  rw [hl] at hn8
  have HL := Lib.hid hl
  have HBAD := Lib.hid hbad
  have HZ := Lib.hid hz
  have HZ2 := Lib.hid hz2
  rw [her] at HW
  clear hR her hbad hz hz2 hl
  go_enter Tryd.func31, Tryd.ntmps31
  go_wp2_with (first
    | (go_at_call 40; (with_reducible refine (HW.out _ HR.out).mono ?_); rintro e w1 ⟨rfl, hb1⟩))
  have HR1 := Lib.hid (HR.out.below hb1)
  clear HW HR
  go_loopw [5, 17] (fun v i wr => ∃ k : Nat, i = .int .i64 (k : Nat) ∧ k ≤ n ∧ Hid (wr.ownsRow w1.heap.size 5 1 v (packZ (zs.take k)).length ((packZ (zs.take k)).map (Value.int .u8))) ∧ Below w1.heap.size w1 wr) (fun _ i _ => n - (intOf i).toNat)
  case atStart => exact ⟨0, rfl, Nat.zero_le _, Lib.hid (World.ownsRow_nil _ _ _ _), Below.refl _ _⟩
  case round =>
    obtain ⟨k, rfl, hk, hO, hb⟩ := hrel
    by_cases hlt : k < n
    · have hki : (k : Int) < (n : Int) := by omega
      have hk0 : (0 : Int) ≤ (k : Int) := by omega
      have hkz : k < zs.length := by rw [HL.out]; exact hlt
      have HSU := Lib.hid (packZ_succ zs k hkz)
      have hple := packZ_len (zs.take k)
      rw [List.length_take, HL.out, Nat.min_eq_left hk] at hple
      rcases HR1.out with h0 | ⟨b, off, rfl, hcs⟩
      · rw [h0] at hkz; simp at hkz
      obtain ⟨x0, x1, x2, x3⟩ := hcs k hkz
      have x0 := cellKeep x0 hb
      have x1 := cellKeep x1 hb
      have x2 := cellKeep x2 hb
      have x3 := cellKeep x3 hb
      have hlow := bad_low (HBAD.out k hkz)
      obtain ⟨hu1, hu2, hu3⟩ := HZ.out k hkz
      obtain ⟨hv1, hv2⟩ := HZ2.out k hkz
      obtain ⟨c, hc⟩ : ∃ c, zs[k]?.getD cuZ = c := ⟨_, rfl⟩
      rw [hc] at x0 x1 x2 x3 hlow hu1 hu2 hu3 hv1 hv2 HSU
      obtain ⟨i, a, d, g⟩ := c
      simp only at x0 x1 x2 x3 hlow hu1 hu2 hu3 hv1 hv2
      obtain ⟨hl1, hl2, hl3⟩ := hlow
      obtain ⟨P, hP⟩ : ∃ P, packZ (zs.take k) = P := ⟨_, rfl⟩
      rw [hP] at hO hple HSU
      obtain ⟨N, hN⟩ : ∃ N, P.length = N := ⟨_, rfl⟩
      rw [hN] at hO hple
      have HN := Lib.hid hN
      have hN256 : N ≤ 256 := by omega
      clear hcs hc hkz hP hN hple
      have hB := Blk.new (wr.alloc (.cells #[.int .u32 i, .int .i64 a, .int .i64 d, .int .i64 g] 36)) 87 [.int .u64 i, .int .u64 a, .int .u64 d, .int .u64 g]
      rw [World.size_alloc] at hB
      have hbW : Below w1.heap.size w1 _ := al (al hb (.cells #[.int .u32 i, .int .i64 a, .int .i64 d, .int .i64 g] 36)) (.cells #[.int .u64 i, .int .u64 a, .int .u64 d, .int .u64 g] 87)
      have hOW := Lib.hid ((hO.out.alloc (.cells #[.int .u32 i, .int .i64 a, .int .i64 d, .int .i64 g] 36)).alloc (.cells #[.int .u64 i, .int .u64 a, .int .u64 d, .int .u64 g] 87))
      obtain ⟨W, hW⟩ : ∃ W, (wr.alloc (.cells #[.int .u32 i, .int .i64 a, .int .i64 d, .int .i64 g] 36)).alloc (.cells #[.int .u64 i, .int .u64 a, .int .u64 d, .int .u64 g] 87) = W := ⟨_, rfl⟩
      replace hB : Blk W (wr.heap.size + 1) 87 [.int .u64 i, .int .u64 a, .int .u64 d, .int .u64 g] := hW ▸ hB
      rw [hW] at hbW hOW
      obtain ⟨ws, hws⟩ : ∃ ws : List Int, ws = [i, a, d, g] := ⟨_, rfl⟩
      have HWS := Lib.hid hws
      have HWB : Hid (∀ m, m < 4 → 0 ≤ ws[m]?.getD 0 ∧ ws[m]?.getD 0 ≤ 18446744073709551615) := Lib.hid fun m hm => by
        rw [hws]
        match m, hm with
        | 0, _ => simp; omega
        | 1, _ => simp; omega
        | 2, _ => simp; omega
        | 3, _ => simp; omega
      have HCL : Hid (∀ m, m < 4 → W.cell? ⟨wr.heap.size + 1, m, none⟩ = some (.int .u64 (ws[m]?.getD 0))) := Lib.hid fun m hm => by
        rw [hws]
        match m, hm with
        | 0, _ => exact hB.cell 0 rfl
        | 1, _ => exact hB.cell 1 rfl
        | 2, _ => exact hB.cell 2 rfl
        | 3, _ => exact hB.cell 3 rfl
      clear hO hws
      go_wp2_with fail
      clear hW
      have HLW : ws.length = 4 := by rw [HWS.out]; rfl
      go_loopw [5, 35] (fun v j V => ∃ m : Nat, j = .int .i64 (m : Nat) ∧ m ≤ 4 ∧ Hid (V.ownsRow w1.heap.size 5 1 v (N + 8 * m) ((P ++ (ws.take m).flatMap fun x => leZ x 8).map (Value.int .u8))) ∧ Below W.heap.size W V ∧ Below w1.heap.size w1 V) (fun _ j _ => 4 - (intOf j).toNat)
      case atStart => exact ⟨0, rfl, by omega, Lib.hid (by simpa using hOW.out), Below.refl _ _, hbW⟩
      case round =>
        obtain ⟨m, rfl, hm, hP, hbV, hbV1⟩ := hrel
        by_cases hm4 : m < 4
        · have hmi : (m : Int) < 4 := by omega
          have hm0 : (0 : Int) ≤ (m : Int) := by omega
          have y0 := cellKeep (HCL.out m hm4) hbV
          obtain ⟨hw1, hw2⟩ := HWB.out m hm4
          have HTK : Hid (((ws.take m).flatMap fun x => leZ x 8) ++ leZ (ws[m]?.getD 0) 8 = (ws.take (m + 1)).flatMap fun x => leZ x 8) := Lib.hid (by
            rw [List.take_succ_eq_append_getElem (by omega), List.flatMap_append, List.getElem?_eq_getElem (by omega)]
            simp)
          obtain ⟨x, hx⟩ : ∃ x, ws[m]?.getD 0 = x := ⟨_, rfl⟩
          rw [hx] at y0 hw1 hw2 HTK
          obtain ⟨a5, c5, e5, hl5, hr5⟩ := ReadsI.owned hP.out
          obtain ⟨Z, hZ⟩ : ∃ Z, P ++ (ws.take m).flatMap (fun x => leZ x 8) = Z := ⟨_, rfl⟩
          rw [hZ] at e5 hl5 hr5
          rw [← hl5] at e5
          subst e5
          have HPUT := Lib.hid (fun w hR => put_any a5 c5 Z (N + 8 * m) hl5.symm (by omega) x hw1 hw2 w hR)
          have HR5 := Lib.hid hr5
          have HZE := Lib.hid hZ
          have hszV := hbV1.size
          clear hx hZ hl5 hr5 hw1 hw2
          go_wp2_with (go_at_call 57; (with_reducible refine (HPUT.out _ HR5.out).mono ?_); rintro e V2 ⟨v2, rfl, ho2, hb2⟩)
          refine ⟨⟨m + 1, by go_num, by omega, Lib.hid ?_, nx hbV hb2, nx hbV1 hb2⟩, by simp [intOf]; omega⟩
          have := owns_base ho2 hszV
          rw [← HZE.out, List.append_assoc, HTK.out] at this
          rw [show N + 8 * (m + 1) = N + 8 * m + 8 by omega]
          exact this
        · obtain rfl : m = 4 := by omega
          rw [show ((4 : Nat) : Int) = 4 from rfl]
          go_wp2_with fail
          refine ⟨⟨k + 1, by go_num, hlt, Lib.hid ?_, hbV1⟩, by simp [intOf]; omega⟩
          have h := hP.out
          rw [List.take_of_length_le (by omega), HWS.out] at h
          rw [HSU.out]
          have hlen : (P ++ List.flatMap (fun x => leZ x 8) (wordC (i, a, d, g))).length = N + 8 * 4 := by
            rw [List.length_append, HN.out]
            simp [wordC, leZ_len]
          rw [hlen]
          exact h
    · obtain rfl : k = n := by omega
      have hkd : decide (k < k) = false := decide_eq_false (by omega)
      have HC := Lib.hid (conv_own (P := Tryd.prog) (dst := 9) Tryd.underlying86 Tryd.underlying5 Tryd.underlying9 hO.out)
      rw [List.take_of_length_le (by rw [HL.out]; exact Nat.le_refl _)] at HC
      have hconv := HC.out
      clear HC
      go_wp2_with fail
      go_ret2
      exact ⟨rfl, nx hb1 hb⟩
end Go.Proofs.YtfoppbignompkaaDoor

namespace Go.Proofs.YtfoppbignompkaaDoor
open Go.RowKit

theorem eq_cur (i a d g i' a' d' g' : Int) (w : World) :
    (Op.equalIn 10000 36 (.agg #[.int .u32 i, .int .i64 a, .int .i64 d, .int .i64 g]) (.agg #[.int .u32 i', .int .i64 a', .int .i64 d', .int .i64 g'])).run Tryd.prog w = .ok (decide (i = i' ∧ a = a' ∧ d = d' ∧ g = g')) w := by
  have u3 := Tryd.underlying3
  have a3 := Tryd.isAgg3
  have z3 := Tryd.sizeOf3
  have u4 := Tryd.underlying34
  have a4 := Tryd.isAgg34
  have z4 := Tryd.sizeOf34
  have hS : Tryd.prog.underlying 36 = some (.struct (Tryd.prog.fieldsOf 36)) := by kernel_rfl
  have hp : Tryd.prog.stoodInHeld 36 = false := by kernel_rfl
  rw [show (10000 : Nat) = 9999 + 1 from rfl, run_equalIn_agg w 9999 36 _ _ hS hp]
  simp only [Program.fieldsOf, Tryd.underlying36]
  go_simp
  by_cases h1 : i = i' <;> by_cases h2 : a = a' <;> by_cases h3 : d = d' <;> by_cases h4 : g = g' <;> simp [h1, h2, h3, h4]
theorem guard_cur : Tryd.prog.eqGuardType Tryd.prog.depth 36 = false := by kernel_rfl
theorem readsC_new (W : World) (c : Cu) : ReadsC (W.alloc (.cells (cuC c).toArray 36)) (some ⟨W.heap.size, 0, none⟩) [c] := by
  have h := Blk.new W 36 (cuC c)
  refine .inr ⟨W.heap.size, 0, rfl, fun j hj => ?_⟩
  obtain rfl : j = 0 := by simpa using hj
  exact ⟨h.cell 0 rfl, h.cell 1 rfl, h.cell 2 rfl, h.cell 3 rfl⟩
theorem ca_move1 (w : World) (hT : Tabs w) : Calls Tryd.prog 20 #[.string ⟨#[97, 98, 10, 99, 100]⟩, curV 4 1 1 1, .int .i64 6, .bool false] w fun e w' => e = .returned (.tuple #[curV 4 4 4 1, .int .i64 0]) ∧ Below w.heap.size w w' :=
  move_ok ⟨#[97, 98, 10, 99, 100]⟩ (by decide) 4 1 1 1 (by decide) (by decide) (by decide) 6 (by decide) (by decide) false 4 (by decide +kernel) 4 1 (by decide) (by decide) w hT
theorem ca_move2 (w : World) (hT : Tabs w) : Calls Tryd.prog 20 #[.string ⟨#[195, 169, 98]⟩, curV 0 0 0 0, .int .i64 2, .bool true] w fun e w' => e = .returned (.tuple #[curV 0 2 0 1, .int .i64 0]) ∧ Below w.heap.size w w' :=
  move_ok ⟨#[195, 169, 98]⟩ (by decide) 0 0 0 0 (by decide) (by decide) (by decide) 2 (by decide) (by decide) true 2 (by decide +kernel) 0 1 (by decide) (by decide +kernel) w hT
theorem ca_shift (w : World) (H : Nat) (hH : w.heap.size = H) : Calls Tryd.prog 14 #[.slice (some ⟨H, 0, none⟩) 1 1, .agg #[.int .i64 3, .int .i64 1, .int .i64 4]] (w.alloc (.cells #[.int .u32 1, .int .i64 5, .int .i64 2, .int .i64 0] 36)) fun e w' =>
    ∃ g cap, e = .returned (.tuple #[.slice (some ⟨g, 0, none⟩) 1 cap, .int .i64 0]) ∧ (w'.cell? ⟨g, 0, none⟩ = some (.int .u32 1) ∧ w'.cell? ⟨g, 1, none⟩ = some (.int .i64 8) ∧ w'.cell? ⟨g, 2, none⟩ = some (.int .i64 2) ∧ w'.cell? ⟨g, 3, none⟩ = some (.int .i64 0)) ∧ g < w'.heap.size ∧ Below w.heap.size w w' := by
  subst hH
  have hz : IntsC [(1, 5, 2, 0)] := by
    intro k hk
    obtain rfl : k = 0 := by simpa using hk
    decide
  refine (shift_ok (some ⟨w.heap.size, 0, none⟩) 1 [(1, 5, 2, 0)] 1 rfl (fun h => by cases h) 3 1 4 (by decide) (by decide) (by decide) (by decide) (by decide) (by decide +kernel) hz _ (readsC_new w (1, 5, 2, 0))).mono ?_
  rintro e w' ⟨v, rfl, ho, hb⟩
  rw [show shiftV [(1, 5, 2, 0)] 3 1 4 = (0, [(1, 8, 2, 0)]) by decide +kernel] at ho ⊢
  have ho : w'.ownsRow _ 36 4 v 1 [.int .u32 1, .int .i64 8, .int .i64 2, .int .i64 0] := ho
  obtain ⟨g, cap, rfl, _, hgl⟩ := (HRow.of_own ho).form1 (by decide)
  exact ⟨g, cap, rfl, ⟨ho.cellAt 0 (by decide), ho.cellAt 1 (by decide), ho.cellAt 2 (by decide), ho.cellAt 3 (by decide)⟩, hgl, nx (al (Below.refl _ _) _) hb⟩
theorem ca_pack (w : World) (H : Nat) (hH : w.heap.size = H) : Calls Tryd.prog 31 #[.slice (some ⟨H, 0, none⟩) 1 1] (w.alloc (.cells #[.int .u32 1, .int .i64 2, .int .i64 3, .int .i64 4] 36)) fun e w' =>
    e = .returned (.tuple #[.string ⟨#[1, 0, 0, 0, 0, 0, 0, 0, 2, 0, 0, 0, 0, 0, 0, 0, 3, 0, 0, 0, 0, 0, 0, 0, 4, 0, 0, 0, 0, 0, 0, 0]⟩, .int .i64 0]) ∧ Below w.heap.size w w' := by
  subst hH
  have hz : IntsC [(1, 2, 3, 4)] := by
    intro k hk
    obtain rfl : k = 0 := by simpa using hk
    decide
  have hz2 : WordsC [(1, 2, 3, 4)] := by
    intro k hk
    obtain rfl : k = 0 := by simpa using hk
    decide
  refine (pack_ok (some ⟨w.heap.size, 0, none⟩) 1 [(1, 2, 3, 4)] 1 rfl (by decide +kernel) hz hz2 _ (readsC_new w (1, 2, 3, 4))).mono ?_
  rintro e w' ⟨rfl, hb⟩
  refine ⟨?_, nx (al (Below.refl _ _) _) hb⟩
  rw [show strOfNums (packZ [(1, 2, 3, 4)]) = (⟨#[1, 0, 0, 0, 0, 0, 0, 0, 2, 0, 0, 0, 0, 0, 0, 0, 3, 0, 0, 0, 0, 0, 0, 0, 4, 0, 0, 0, 0, 0, 0, 0]⟩ : ByteArray) by decide +kernel]

set_option maxRecDepth 100000 in
set_option maxHeartbeats 4000000 in
theorem cawake_any (w : World) (hT : Tabs w) : Calls Tryd.prog 19 #[] w fun e w' => e = .returned (.bool true) ∧ Below w.heap.size w w' := by
  have HT := Lib.hid hT
  have H1 := Lib.hid (fun w hT => ca_move1 w hT)
  have H2 := Lib.hid (fun w hT => ca_move2 w hT)
  have H3 := Lib.hid (fun w H hH => ca_shift w H hH)
  have H4 := Lib.hid (fun w H hH => ca_pack w H hH)
  clear hT
  have e1 := fun w => eq_cur 4 4 4 1 4 4 4 1 w
  have e2 := fun w => eq_cur 0 2 0 1 0 2 0 1 w
  have e3 := fun w => eq_cur 1 8 2 0 1 8 2 0 w
  have gc := guard_cur
  go_enter Tryd.func19, Tryd.ntmps19
  go_wp2_with (first
    | (go_at_call 20; (with_reducible refine (H1.out _ HT.out).mono ?_); rintro e w1 ⟨rfl, hb1⟩; have hB1 := al hb1 (.cells #[.int .u32 4, .int .i64 4, .int .i64 4, .int .i64 1] 36); have K1 := Lib.hid (Blk.new w1 36 [.int .u32 4, .int .i64 4, .int .i64 4, .int .i64 1]))
    | (go_at_call 20; (with_reducible refine (H2.out _ (HT.out.below hB1 (Nat.le_refl _))).mono ?_); rintro e w2 ⟨rfl, hb2⟩; have hB2 := al (nx hB1 hb2) (.cells #[.int .u32 0, .int .i64 2, .int .i64 0, .int .i64 1] 36); have K2 := Lib.hid (Blk.new w2 36 [.int .u32 0, .int .i64 2, .int .i64 0, .int .i64 1]); have K12 := Lib.hid ((K1.out.below hb2).alloc (.cells #[.int .u32 0, .int .i64 2, .int .i64 0, .int .i64 1] 36)))
    | (go_at_call 14; (with_reducible refine (H3.out _ _ (World.size_alloc _ _)).mono ?_); rintro e w3 ⟨g3, c3, rfl, hx3, hg3, hb3⟩; have hB3 := nx hB2 hb3; have HX3 := Lib.hid hx3; clear hx3; have K13 := Lib.hid (K12.out.below hb3); have K23 := Lib.hid (K2.out.below hb3))
    | (go_at_call 31; (with_reducible refine (H4.out _ _ rfl).mono ?_); rintro e w4 ⟨rfl, hb4⟩; have hB4 := nx hB3 hb4; have K14 := K13.out.below hb4; have K24 := K23.out.below hb4; have p0 := K14.cell 0 rfl; have p1 := K14.cell 1 rfl; have p2 := K14.cell 2 rfl; have p3 := K14.cell 3 rfl; have q0 := K24.cell 0 rfl; have q1 := K24.cell 1 rfl; have q2 := K24.cell 2 rfl; have q3 := K24.cell 3 rfl; obtain ⟨r0, r1, r2, r3⟩ := HX3.out; have r0 := cellKeep r0 hb4; have r1 := cellKeep r1 hb4; have r2 := cellKeep r2 hb4; have r3 := cellKeep r3 hb4; clear K14 K24))
  go_ret
  exact ⟨rfl, hB4⟩
end Go.Proofs.YtfoppbignompkaaDoor
