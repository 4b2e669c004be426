/-
  The contracts of the document's Pending, of the program's Runes, of the law's sameRunes, and of Mend, the program's and the document's.
-/
import Derived.Test.YtnfjohlbpbonhaaDoorBegin
import Derived.Test.YtnfjohlbpbonhaaDoorChars
import Derived.Test.YtnfjohlbpbonhaaDoorEncode
namespace Go.Proofs.YtnfjohlbpbonhaaDoor
open Go.RowKit

set_option maxHeartbeats 1000000 in
theorem refpending_any (s : ByteArray) (hs : s.size ≤ 140737488351232) (w : World) :
    Calls Tryd.prog 25 #[.string s] w fun e w' => e = .returned (.int .i64 (pendN (bs s))) ∧ Below w.heap.size w w' := by
  go_enter Tryd.func25, Tryd.ntmps25
  go_wp2
  go_loopw [3] (fun i wr => ∃ k : Nat, 1 ≤ k ∧ k ≤ 4 ∧ k ≤ s.size + 1 ∧ i = .int .i64 k ∧ Hid (∀ j, 1 ≤ j → j < k → properB (tailOf (bs s) j) = false) ∧ Below w.heap.size w wr) (fun i _ => 4 - (intOf i).toNat)
  case atStart => exact ⟨1, by omega, by omega, by omega, rfl, (show Hid _ from fun j h1 h2 => absurd h2 (by omega)), Below.refl _ _⟩
  case round =>
    obtain ⟨k, hk1, hk4, hkn, rfl, hall, hb⟩ := hrel
    by_cases hin : k ≤ 3 ∧ k ≤ s.size
    · obtain ⟨h3, hks⟩ := hin
      have hE : (s.extract (s.size - k) s.size).size ≤ 140737488351232 := by rw [size_bs, bs_drop]; simp; omega
      have hB := fun w => beginning_any (s.extract (s.size - k) s.size) hE w
      rw [bs_drop] at hB
      have htl : (bs s).drop (s.size - k) = tailOf (bs s) k := by unfold tailOf; rw [size_bs]
      rw [htl] at hB
      have HB := Lib.hid hB
      clear hB hE htl
      cases hp : properB (tailOf (bs s) k)
      · have HP := Lib.hid hp
        go_wp2_with (go_at_call 52; (with_reducible refine (HB.out _).mono ?_); rintro e w1 ⟨rfl, hb1⟩)
        go_roundw
        case rel =>
          refine ⟨k + 1, by omega, by omega, by omega, by go_num, (show Hid _ from fun j h1 h2 => ?_), nx hb hb1⟩
          by_cases e : j = k
          · subst e; exact HP.out
          · exact hall.out j h1 (by omega)
        case measure => simp [intOf]; omega
      · have HV := Lib.hid (show pendN (bs s) = k by
          have hks' : k ≤ (bs s).length := by rw [← size_bs]; exact hks
          unfold pendN
          obtain rfl | rfl | rfl : k = 1 ∨ k = 2 ∨ k = 3 := by omega
          · rw [hp, if_pos ⟨hks', rfl⟩]
          · rw [hall.out 1 (by omega) (by omega), hp, if_neg (by simp), if_pos ⟨hks', rfl⟩]
          · rw [hall.out 1 (by omega) (by omega), hall.out 2 (by omega) (by omega), hp, if_neg (by simp), if_neg (by simp), if_pos ⟨hks', rfl⟩])
        go_wp2_with (go_at_call 52; (with_reducible refine (HB.out _).mono ?_); rintro e w1 ⟨rfl, hb1⟩)
        go_ret
        rw [HV.out]
        exact ⟨rfl, nx hb hb1⟩
    · have HV := Lib.hid (show pendN (bs s) = 0 by
        unfold pendN
        have c : ∀ j, 1 ≤ j → j ≤ 3 → ¬ (j ≤ (bs s).length ∧ properB (tailOf (bs s) j) = true) := by
          rintro j h1 h3 ⟨h4, h5⟩
          rw [← size_bs] at h4
          rw [hall.out j h1 (by omega)] at h5
          cases h5
        rw [if_neg (c 1 (by omega) (by omega)), if_neg (c 2 (by omega) (by omega)), if_neg (c 3 (by omega) (by omega))])
      by_cases h4 : k ≤ 3
      · have hks : ¬ k ≤ s.size := by omega
        clear hin
        go_wp2
        go_ret
        rw [HV.out]
        exact ⟨rfl, hb⟩
      · clear hin
        go_wp2
        go_ret
        rw [HV.out]
        exact ⟨rfl, hb⟩

/-! ### Runes -/
theorem owns_iter {w : World} {base : Nat} {e : TypeId} {size : Nat} {v : Value} {n : Nat} {xs : List Value} (h : w.ownsRow base e size v n xs) {K : Nat} {s : ByteArray} {p : Nat} (hk : w.heap[K]? = some (.stringIter s p)) (p' : Nat) : (w.iterAt K s p').ownsRow base e size v n xs := by
  obtain ⟨h1, h2⟩ := h
  refine ⟨h1, ?_⟩
  rcases h2 with h2 | ⟨g, cap, cur, hv, hg, hh, r⟩
  · exact .inl h2
  · refine .inr ⟨g, cap, cur, hv, hg, ?_, r⟩
    rw [Lib.iterAt_other _ _ _ _ _ (by rintro rfl; rw [hh] at hk; cases hk)]
    exact hh
theorem iter_grown {w w' : World} {base : Nat} {e : TypeId} {size : Nat} {v : Value} {n : Nat} {xs : List Value} (h : w.ownsRow base e size v n xs) (o : Obj) (hg : (w.alloc o).grownBy w' v.ownBlock) {K : Nat} {s : ByteArray} {p : Nat} (hk : w.heap[K]? = some (.stringIter s p)) : w'.heap[K]? = some (.stringIter s p) := by
  have hlt : K < w.heap.size := (Array.getElem?_eq_some_iff.1 hk).1
  rw [hg.block K (by rw [World.size_alloc]; omega) ?_]
  · rw [Below.heap_alloc _ _ _ hlt]; exact hk
  · intro e1
    rcases h.2 with ⟨rfl, _⟩ | ⟨g, cap, cur, rfl, hgb, hh, _⟩
    · simp [Value.ownBlock] at e1
    · simp [Value.ownBlock] at e1
      subst e1
      rw [hh] at hk; cases hk

set_option maxHeartbeats 1000000 in
theorem runes_any (s : ByteArray) (hs : s.size ≤ 1099511627776) (w : World) :
    Calls Tryd.prog 22 #[.string s] w fun e w' => ∃ v, e = .returned v ∧ w'.ownsRow w.heap.size 21 1 v (countN (bs s)) ((runesZ (bs s)).map (Value.int .i32)) ∧ Below w.heap.size w w' := by
  obtain ⟨i0, hi, hz0, hz1, hz2⟩ := info_parts info_i32
  go_enter Tryd.func22, Tryd.ntmps22
  go_wp2_with (at_make; refine wpList_make_own _ rfl _ _ 27 rfl w.heap.size 21 i0 (.int .i32 0) 1 Tryd.underlying27 hi hz0 hz1 _ _ _ s.size rfl rfl rfl (by rw [hz2]; omega) (by unfold maxLen; omega) (Nat.le_refl _) ?_; intro w1 hown1 hgrow1)
  have hb1 : Below w.heap.size w w1 := (Below.refl _ w).grown hgrow1 (Nat.le_refl _) (fun q e => by cases e)
  have hsz1 := hb1.size
  clear hgrow1
  go_loopw [3] (fun v wr => ∃ done p, Cut (bs s) done p ∧ wr.heap[w1.heap.size]? = some (.stringIter s p) ∧ wr.ownsRow w.heap.size 21 1 v done.length (done.map fun c => Value.int .i32 (c.1 : Int)) ∧ Below w.heap.size w wr) (fun _ wr => s.size - wr.iterPos w1.heap.size)
  case atStart => exact ⟨[], 0, Cut.zero _, World.iter_heap _ _ _, hown1.alloc _, al hb1 _⟩
  case round =>
    obtain ⟨done, p, hc, hit, hown, hb⟩ := hrel
    have hle := hc.len_le
    have hpl := hc.1
    rw [← size_bs] at hpl
    by_cases hp : p < s.size
    · have hnx := fun ty => Lib.run_next_any_at (P := Tryd.prog) wr w1.heap.size s p ty hit hp
      rw [decode_bs] at hnx
      have hst := hc.step (by rw [← size_bs]; exact hp)
      have hw := (wid_bounds ((bs s).drop p)).1
      obtain ⟨d, hd⟩ : ∃ d, d = Lib.decodeL ((bs s).drop p) := ⟨_, rfl⟩
      rw [← hd] at hnx hst hw
      obtain ⟨r, n⟩ := d
      simp only at hnx hw hst
      have HS := Lib.hid hst
      have hip : wr.iterPos w1.heap.size = p := iterPos_of hit
      have HIP := Lib.hid hip
      have hown2 := owns_iter hown hit (p + n)
      have hit2 := Lib.iterAt_heap wr w1.heap.size s p (p + n) hit
      have hb2 : Below w.heap.size w (wr.iterAt w1.heap.size s (p + n)) := Lib.below_iterAt hb hsz1 s (p + n)
      have hsz2 := hb2.size
      have HIT2 := Lib.hid hit2
      clear hd hc hst hip hit2 hit hown hb
      go_wp2_with (at_builtin; refine wpList_append_own _ rfl _ _ 27 rfl w.heap.size 21 i0 (.int .i32 0) 1 4 Tryd.underlying27 hi hz0 hz1 hz2 rfl (by decide) u3 _ _ rfl (hown2.alloc _) ⟨(wr.iterAt w1.heap.size s (p + n)).heap.size, 0, none⟩ 1 1 [.int .i32 r] rfl (by simp) (cells_new _ _ _) (by simp [Value.oneCell']) (by unfold maxLen; omega) (by omega) (by rw [World.size_alloc]; omega) ?_; intro v' w2 hown' hgrow _)
      have hit3 := iter_grown hown2 _ hgrow HIT2.out
      have hb3 : Below w.heap.size w w2 := (al hb2 _).grown hgrow (by rw [World.size_alloc]; omega) (fun q e => (hown2.lt q e).1)
      have hip3 : w2.iterPos w1.heap.size = p + n := iterPos_of hit3
      have HIP3 := Lib.hid hip3
      clear hgrow hown2 hb2 hip3
      go_roundw
      case rel => exact ⟨_, _, HS.out, hit3, by simpa using hown', hb3⟩
      case measure => rw [HIP3.out, HIP.out]; omega
    · have hnx := fun ty => Lib.run_next_end_at (P := Tryd.prog) wr w1.heap.size s p ty hit hp
      have he := Lib.hid (hc.end' (by rw [← size_bs]; exact hp)).1
      clear hc hit
      go_wp2
      go_ret
      refine ⟨_, rfl, ?_, hb⟩
      rw [he.out] at hown
      have e1 : (runesZ (bs s)).map (Value.int .i32) = (tk (bs s)).map fun c => Value.int .i32 (c.1 : Int) := by simp [runesZ]
      rw [e1]
      exact hown

/-! ### sameRunes -/
def sameZ (a b : List Int) : Bool := decide (a = b)
theorem sameZ_self (a : List Int) : sameZ a a = true := decide_eq_true rfl

set_option maxHeartbeats 1000000 in
theorem sameRunes_any (ao bo : Option Addr) (ca cb : Nat) (a b : List Int) (ha : a.length ≤ 140737488351232) (w : World) (hra : ReadsI w .i32 ao a) (hrb : ReadsI w .i32 bo b) :
    Calls Tryd.prog 21 #[.slice ao a.length ca, .slice bo b.length cb] w fun e w' => e = .returned (.bool (sameZ a b)) ∧ Below w.heap.size w w' := by
  by_cases hl : a.length = b.length
  · have hq : ((a.length : Int) != (b.length : Int)) = false := by simp [hl]
    have HL := Lib.hid hl
    have HRA := Lib.hid hra
    have HRB := Lib.hid hrb
    clear hl hra hrb
    go_enter Tryd.func21, Tryd.ntmps21
    go_wp2
    go_loopw [5] (fun i wr => ∃ k : Nat, k ≤ a.length ∧ i = .int .i64 k ∧ Hid (a.take k = b.take k) ∧ Below w.heap.size w wr) (fun i _ => a.length - (intOf i).toNat)
    case atStart => exact ⟨0, Nat.zero_le _, rfl, (show Hid _ from rfl), Below.refl _ _⟩
    case round =>
      obtain ⟨k, hk, rfl, hall, hb1⟩ := hrel
      by_cases hlt : k < a.length
      · have hltb : k < b.length := by rw [← HL.out]; exact hlt
        rcases HRA.out.below hb1 (Nat.le_refl _) with h | ⟨ga, oa, rfl, hca⟩
        · subst h; simp at hlt
        rcases HRB.out.below hb1 (Nat.le_refl _) with h | ⟨gb, ob, rfl, hcb⟩
        · subst h; simp at hltb
        have c1 := hca k hlt
        have c2 := hcb k hltb
        have hta : a.take (k + 1) = a.take k ++ [a[k]?.getD 0] := by rw [List.take_succ_eq_append_getElem hlt, List.getElem?_eq_getElem hlt]; rfl
        have htb : b.take (k + 1) = b.take k ++ [b[k]?.getD 0] := by rw [List.take_succ_eq_append_getElem hltb, List.getElem?_eq_getElem hltb]; rfl
        have hne : a[k]?.getD 0 ≠ b[k]?.getD 0 → a ≠ b := fun h e => h (by rw [e])
        obtain ⟨x, hx⟩ : ∃ x, x = a[k]?.getD 0 := ⟨_, rfl⟩
        obtain ⟨y, hy⟩ : ∃ y, y = b[k]?.getD 0 := ⟨_, rfl⟩
        rw [← hx] at c1 hta hne
        rw [← hy] at c2 htb hne
        have HTA := Lib.hid hta
        have HTB := Lib.hid htb
        clear hca hcb hta htb hx hy
        by_cases hxy : x = y
        · have hd : (x != y) = false := by simp [hxy]
          have HXY := Lib.hid hxy
          clear hne hxy
          go_wp2_with fail
          go_quiet (fail)
          go_wp2
          go_roundw
          case rel => exact ⟨k + 1, by omega, by go_num, (show Hid _ from by rw [HTA.out, HTB.out, hall.out, HXY.out]; rfl), below_drewN hb1 _⟩
          case measure => simp [intOf]; omega
        · have hd : (x != y) = true := by simp [hxy]
          have HV := Lib.hid (show sameZ a b = false from decide_eq_false (hne hxy))
          clear hne hxy
          go_wp2_with fail
          go_quiet (fail)
          go_wp2
          go_ret
          rw [HV.out]
          exact ⟨rfl, below_drewN hb1 _⟩
      · obtain rfl : k = a.length := by omega
        have HV := Lib.hid (show sameZ a b = true from decide_eq_true (by
          have := hall.out
          rw [List.take_length, HL.out, List.take_length] at this
          exact this))
        go_wp2
        go_ret
        rw [HV.out]
        exact ⟨rfl, hb1⟩
  · have hq : ((a.length : Int) != (b.length : Int)) = true := by simp; omega
    have HV := Lib.hid (show sameZ a b = false from decide_eq_false (fun e => hl (by rw [e])))
    clear hl
    go_enter Tryd.func21, Tryd.ntmps21
    go_wp2
    go_ret
    rw [HV.out]
    exact ⟨rfl, Below.refl _ _⟩

/-! ### Mend -/
theorem runesZ_wf (l : Bs) : ∀ r ∈ runesZ l, -2147483648 ≤ r ∧ r ≤ 2147483647 := by
  intro r hr
  obtain ⟨c, hc, rfl⟩ := List.mem_map.1 hr
  have : ∀ (n : Nat) (m : Bs), m.length ≤ n → ∀ c ∈ tk m, c.1 ≤ 1114111 := by
    intro n
    induction n with
    | zero => intro m hm; have : m = [] := List.length_eq_zero_iff.1 (by omega); subst this; intro c hc; simp [tk_nil] at hc
    | succ n ih =>
      intro m hm c hc
      by_cases h : m = []
      · subst h; simp [tk_nil] at hc
      · rw [tk_cons m h] at hc
        rcases List.mem_cons.1 hc with rfl | hc
        · exact dec_le m
        · have h1 := (wid_bounds m).1
          have : 1 ≤ m.length := by cases m; contradiction; simp
          exact ih _ (by simp; omega) c hc
  have := this l.length l (Nat.le_refl _) c hc
  omega

set_option maxHeartbeats 400000 in
theorem mend_any (s : ByteArray) (hs : s.size ≤ 1099511627776) (w : World) :
    Calls Tryd.prog 26 #[.string s] w fun e w' => e = .returned (.string (encS (runesZ (bs s)))) ∧ Below w.heap.size w w' := by
  have hl := bs_len_le s
  rw [← runesZ_len] at hl
  go_enter Tryd.func26, Tryd.ntmps26
  go_wp2_with fail
  (with_reducible refine (runes_any s hs _).mono ?_)
  rintro e w1 ⟨v, rfl, hown, hb1⟩
  obtain ⟨ao, cap, rfl, hn, hr⟩ := ReadsI.owned hown
  clear hn
  go_wp2_with fail
  (with_reducible refine (encode_any ao cap (runesZ (bs s)) _ hr (runesZ_wf _) (by omega)).mono ?_)
  rintro e w2 ⟨rfl, hb2⟩
  go_wp2
  go_ret
  exact ⟨rfl, nx hb1 hb2⟩

set_option maxHeartbeats 400000 in
theorem refmend_any (s : ByteArray) (hs : s.size ≤ 1048576) (w : World) :
    Calls Tryd.prog 27 #[.string s] w fun e w' => e = .returned (.string (encS (runesZ (bs s)))) ∧ Below w.heap.size w w' := by
  have hl := bs_len_le s
  rw [← runesZ_len] at hl
  go_enter Tryd.func27, Tryd.ntmps27
  go_wp2_with fail
  (with_reducible refine (refrunes_any s hs _).mono ?_)
  rintro e w1 ⟨v, rfl, hown, hb1⟩
  obtain ⟨ao, cap, rfl, hn, hr⟩ := ReadsI.owned hown
  clear hn
  go_wp2_with fail
  (with_reducible refine (refEncode_any ao cap (runesZ (bs s)) _ hr (by omega)).mono ?_)
  rintro e w2 ⟨rfl, hb2⟩
  go_wp2
  go_ret
  exact ⟨rfl, nx hb1 hb2⟩
end Go.Proofs.YtnfjohlbpbonhaaDoor
