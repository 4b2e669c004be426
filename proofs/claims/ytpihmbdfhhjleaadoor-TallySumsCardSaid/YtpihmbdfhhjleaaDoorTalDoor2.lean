/-
  A list of tallies that is handed in: opened, tally by tally.
-/
import Derived.Test.YtpihmbdfhhjleaaDoorTalDoor
import Derived.Test.YtpihmbdfhhjleaaDoorTalMade
import Derived.Deep.Slices
namespace Go.Proofs.YtpihmbdfhhjleaaDoor
open Go.ChangeShapes Go.WideShapes Go.ChangeAt Go.RowKit Go.Deep

theorem weightsAll_mem {H : Type} {P : Program} {e : TypeId} : ∀ {l : List (DataW H)} {d : DataW H}, d ∈ l → ∀ n ∈ d.weights P e, n ∈ DataW.weightsAll P e l
  | d0 :: l, d, hd, n, hn => by
    rw [DataW.weightsAll, List.mem_append]
    rcases List.mem_cons.1 hd with rfl | h
    · exact .inl hn
    · exact .inr (weightsAll_mem h n hn)

theorem trod_tally {H : Type} {enc : TypeId × Value → H} {W : World} {base : Nat} {spare : Nat → Bool} {held : Bool} {fuel : Nat} {cs : List Value} {y : DataW H × List MemPlace}
    (hf : DataW.trod enc Tryd.prog W base spare held fuel 23 cs = some y) :
    ∃ x : Rec, cs = recCells x ∧ y.1 = .agg [.lit (.int .i64 x.b), .lit (.int .i64 x.c), .lit (.int .i64 x.l), .lit (.string x.h.data.toList), .lit (.string x.t.data.toList)] ∧
      (Lit.int .i64 x.b).wf = true ∧ (Lit.int .i64 x.c).wf = true ∧ (Lit.int .i64 x.l).wf = true := by
  obtain ⟨xs, n, _, hx, hcl, hlen, hfs⟩ := DataW.trod_struct Tryd.underlying23 hf
  obtain ⟨c0, c1, c2, c3, c4, rfl⟩ := list5 (hcl.trans cells_tally)
  obtain ⟨x0, x1, x2, x3, x4, rfl⟩ := list5 (hlen.trans rfl)
  have t0 := hfs 0 _ rfl
  have t1 := hfs 1 _ rfl
  have t2 := hfs 2 _ rfl
  have t3 := hfs 3 _ rfl
  have t4 := hfs 4 _ rfl
  simp [cells_int, cells_string] at t0 t1 t2 t3 t4
  obtain ⟨b, e0, rfl, w0⟩ := DataW.trod_int Tryd.underlying3 t0
  obtain ⟨c, e1, rfl, w1⟩ := DataW.trod_int Tryd.underlying3 t1
  obtain ⟨l, e2, rfl, w2⟩ := DataW.trod_int Tryd.underlying3 t2
  obtain ⟨p, e3, rfl, _⟩ := DataW.trod_string Tryd.underlying9 t3
  obtain ⟨q, e4, rfl, _⟩ := DataW.trod_string Tryd.underlying9 t4
  simp at e0 e1 e2 e3 e4
  subst e0 e1 e2 e3 e4
  exact ⟨⟨b, c, l, p, q⟩, rfl, by rw [hx]; rfl, w0, w1, w2⟩

theorem open_tallies {H : Type} {enc : TypeId × Value → H} {W : World} {base : Nat} {spare : Nat → Bool} {held : Bool} {r : Reach} {b0 : Nat} {v : Value} {d : DataW H} {p : List MemPlace}
    (hv : Value.okWide Tryd.prog W r b0 38 v) (h : DataW.Trod enc Tryd.prog W base spare held 38 v d p) (hw : ∀ n ∈ DataW.weights Tryd.prog 38 d, n ≤ reachBytes) :
    ∃ (ao : Option Addr) (n cap : Nat) (xs : List Rec), v = .slice ao n cap ∧ xs.length = n ∧ n * 56 ≤ 140737488351232 ∧ (∀ i (hi : i < xs.length), (xs[i]'hi).fit) ∧ RowT W ao xs ∧ (∀ g o, ao = some ⟨g, o, none⟩ → 0 < n → g < W.heap.size) := by
  obtain ⟨ao, n, cap, rfl⟩ := okWide_slice Tryd.underlying38 hv
  obtain ⟨fuel, hf⟩ := h
  rcases open_slice Tryd.underlying38 hf with ⟨hcs, _⟩ | ⟨a, len, cap', m, n', D, Pl, hcs, hba, hlc, _, hm, hx, hall⟩
  · simp [Value.cells] at hcs
    obtain ⟨rfl, rfl, rfl⟩ := hcs
    exact ⟨none, 0, 0, [], rfl, rfl, by omega, fun i hi => by simp at hi, fun i hi => by simp at hi, fun g o e => by cases e⟩
  · simp [Value.cells] at hcs
    obtain ⟨rfl, rfl, rfl⟩ := hcs
    have hd : d = .slice ((List.range n).map D) ((List.range (m - n)).map fun j => D (n + j)) := congrArg Prod.fst hx
    subst hd
    have hnm : n ≤ m := by rw [hm]; split <;> omega
    have hbytes := hw ((((List.range n).map D).length + ((List.range (m - n)).map fun j => D (n + j)).length) * Tryd.prog.bytesOf 23) (by simp [DataW.weights, Tryd.underlying38])
    have hb56 : Tryd.prog.bytesOf 23 = 56 := by kernel_rfl
    rw [hb56] at hbytes
    simp [reachBytes] at hbytes
    have hsp : 0 < n → a.spot = none := by
      intro h0n
      obtain ⟨cs', hc, ht⟩ := hall 0 (by omega)
      rw [cells_tally] at hc
      obtain ⟨x, rfl, hD, _⟩ := trod_tally ht
      obtain ⟨_, _, hcell⟩ := World.cells?_some hc
      have h0 := hcell 0 (by omega)
      have hs := World.cell?_spot (h0.trans rfl : W.cell? _ = some (.int .i64 x.b))
      simpa [Addr.add] using hs
    have key : ∀ i, i < n → ∃ x : Rec, x.fit ∧ ∃ g o, a = ⟨g, o, none⟩ ∧ RecAt W g (o + i * 5) x := by
      intro i hi
      obtain ⟨cs', hc, ht⟩ := hall i (by omega)
      rw [cells_tally] at hc
      obtain ⟨x, rfl, hD, w0, w1, w2⟩ := trod_tally ht
      obtain ⟨_, hlen, hcell⟩ := World.cells?_some hc
      obtain ⟨g, o, spot⟩ := a
      have hspot : spot = none := hsp (by omega)
      subst hspot
      have hc2 : ∀ j, j < 5 → W.cell? ⟨g, o + i * 5 + j, none⟩ = (recCells x)[j]? := fun j hj => by
        have := hcell j hj
        rwa [Addr.add_lit, Addr.add_lit] at this
      have hmem : D i ∈ (List.range n).map D := List.mem_map.2 ⟨i, List.mem_range.2 hi, rfl⟩
      have hwt : ∀ k ∈ DataW.weights Tryd.prog 23 (D i), k ≤ reachBytes := fun k hk => hw k (by
        simp only [DataW.weights, Tryd.underlying38, List.mem_cons, List.mem_append]
        exact .inr (.inl (weightsAll_mem hmem k hk)))
      simp only at hD
      rw [hD] at hwt
      have l1 := hwt x.h.data.toList.length (by simp [DataW.weights, Tryd.underlying23, DataW.weightsEach])
      have l2 := hwt x.t.data.toList.length (by simp [DataW.weights, Tryd.underlying23, DataW.weightsEach])
      simp only [reachBytes] at l1 l2
      exact ⟨x, fit_of w0 w1 w2 ⟨l1, l2⟩, g, o, rfl, hc2 0 (by omega), hc2 1 (by omega), hc2 2 (by omega), hc2 3 (by omega), hc2 4 (by omega)⟩
    have hx2 : ∀ i, ∃ x : Rec, i < n → (x.fit ∧ ∃ g o, a = ⟨g, o, none⟩ ∧ RecAt W g (o + i * 5) x) := by
      intro i
      by_cases hi : i < n
      · obtain ⟨x, hx⟩ := key i hi
        exact ⟨x, fun _ => hx⟩
      · exact ⟨zeroR, fun h => absurd h hi⟩
    let f : Nat → Rec := fun i => Classical.choose (hx2 i)
    have hfs : ∀ i, i < n → ((f i).fit ∧ ∃ g o, a = ⟨g, o, none⟩ ∧ RecAt W g (o + i * 5) (f i)) := fun i hi => Classical.choose_spec (hx2 i) hi
    refine ⟨some a, n, cap, (List.range n).map f, rfl, by simp, by omega, fun i hi => ?_, fun i hi => ?_, fun g o e hn => ?_⟩
    · simp at hi ⊢
      exact (hfs i hi).1
    · simp at hi
      obtain ⟨g, o, e, hr⟩ := (hfs i hi).2
      exact ⟨g, o, by rw [e], by simpa using hr⟩
    · obtain ⟨g', o', e', hr⟩ := (hfs 0 hn).2
      rw [e'] at e
      injection e with e
      injection e with e1 e2
      subst e1
      exact World.block_lt_of_cell? W _ hr.1
end Go.Proofs.YtpihmbdfhhjleaaDoor
