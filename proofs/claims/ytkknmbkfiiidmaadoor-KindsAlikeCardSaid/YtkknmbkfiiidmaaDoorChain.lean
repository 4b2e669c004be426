/-
  Functions of one rune that ask range after range: one law for each kind of test, and for chains of tests.
-/
import Derived.Test.YtkknmbkfiiidmaaDoorKit
import Derived.Test.YtkknmbkfiiidmaaDoorKindLaw
namespace Go.Proofs.YtkknmbkfiiidmaaDoor
open Go.RowKit


theorem put_same {a : Act} {i : Nat} {v : Value} (h : i < a.tmps.size) : (a.put (some i) v).tmps[i]? = some v := by
  simp [Act.put, h]
theorem put_other {a : Act} {i j : Nat} {v : Value} (h : i ≠ j) : (a.put (some i) v).tmps[j]? = a.tmps[j]? := by
  simp [Act.put, h]
theorem put_size {a : Act} {i : Nat} {v : Value} : (a.put (some i) v).tmps.size = a.tmps.size := by simp [Act.put]
theorem put_defers {a : Act} {i : Nat} {v : Value} : (a.put (some i) v).defers = a.defers := rfl
theorem eval_of {a : Act} {i : Nat} {v : Value} (h : a.tmps[i]? = some v) : a.eval (.tmp i) = v := by
  simp [Act.eval, Array.getD_eq_getD_getElem?, h]

theorem wpl_value {P : Program} {ops : Array Oper} {Q : Exit → Act → World → Prop} {rest : List Oper} {o : Oper} {a : Act} {w : World} {v : Value} {d : Nat} (hw : Region.wanted o (yielded ops a.tmps) = true) (hd : o.dst = some d)
    (he : (execOp a.eval o).run P w = .ok (.value v) w) (h : wpList P ops Q rest (a.put (some d) v) w) : wpList P ops Q (o :: rest) a w := by
  refine wpList_step fun K hK => ?_
  rw [if_pos hw]
  unfold Oper.wp
  rw [he]
  show K (a.put o.dst v) w
  rw [hd]
  exact hK _ _ h
theorem wpl_skip {P : Program} {ops : Array Oper} {Q : Exit → Act → World → Prop} {rest : List Oper} {o : Oper} {a : Act} {w : World} {d : Nat} (hw : Region.wanted o (yielded ops a.tmps) = false) (hd : o.dst = some d)
    (h : wpList P ops Q rest (a.put (some d) undef) w) : wpList P ops Q (o :: rest) a w := by
  refine wpList_skip hw ?_
  rw [hd]
  exact h
theorem run_move {P : Program} {a : Act} {w : World} {d : Nat} {x : Operand} {ty : TypeId} {p : String} {f : Array Edge} {g : Option (Nat × Bool)} {v : Value} (h : a.eval x = v) : (execOp a.eval { dst := some d, op := .move x, type := ty, pos := p, after := f, guard := g }).run P w = .ok (.value v) w := by
  subst h
  simp [go_sem]

/-- The frame: its first slot is the rune, nothing is deferred. -/
structure Rn (a : Act) (n : Nat) (r : Int) : Prop where
  size : a.tmps.size = n
  zero : a.tmps[0]? = some (.int .i32 r)
  defs : a.defers = []
theorem Rn.put {a : Act} {n : Nat} {r : Int} (h : Rn a n r) {i : Nat} (hi : 0 < i) (v : Value) : Rn (a.put (some i) v) n r :=
  ⟨by rw [put_size]; exact h.size, by rw [put_other (by omega)]; exact h.zero, h.defs⟩

theorem run_geq {P : Program} {a : Act} {w : World} {d : Nat} {x y : Operand} {t ty : TypeId} {p : String} {f : Array Edge} {g : Option (Nat × Bool)} {u v : Int} (hx : a.eval x = .int .i32 u) (hy : a.eval y = .int .i32 v) :
    (execOp a.eval { dst := some d, op := .binOp .geq t x y t, type := ty, pos := p, after := f, guard := g }).run P w = .ok (.value (.bool (decide (v ≤ u)))) w := by
  generalize a.eval = ρ at hx hy ⊢
  simp [go_sem, hx, hy]
theorem run_leq {P : Program} {a : Act} {w : World} {d : Nat} {x y : Operand} {t ty : TypeId} {p : String} {f : Array Edge} {g : Option (Nat × Bool)} {u v : Int} (hx : a.eval x = .int .i32 u) (hy : a.eval y = .int .i32 v) :
    (execOp a.eval { dst := some d, op := .binOp .leq t x y t, type := ty, pos := p, after := f, guard := g }).run P w = .ok (.value (.bool (decide (u ≤ v)))) w := by
  generalize a.eval = ρ at hx hy ⊢
  simp [go_sem, hx, hy]
theorem run_eql {P : Program} {a : Act} {w : World} {d : Nat} {x y : Operand} {t ty : TypeId} {p : String} {f : Array Edge} {g : Option (Nat × Bool)} {u v : Int} (hx : a.eval x = .int .i32 u) (hy : a.eval y = .int .i32 v) :
    (execOp a.eval { dst := some d, op := .binOp .eql t x y t, type := ty, pos := p, after := f, guard := g }).run P w = .ok (.value (.bool (u == v))) w := by
  generalize a.eval = ρ at hx hy ⊢
  simp [go_sem, hx, hy]
theorem run_assign {P : Program} {a : Act} {w : World} {d : Nat} {x : Operand} {ty : TypeId} {p : String} {f : Array Edge} {g : Option (Nat × Bool)} {v : Value} (h : a.eval x = v) : (execOp a.eval { dst := some d, op := .assign x, type := ty, pos := p, after := f, guard := g }).run P w = .ok (.value v) w := by
  subst h
  simp [go_sem]
theorem run_pick {P : Program} {a : Act} {w : World} {d : Nat} {x y z : Operand} {ty : TypeId} {p : String} {f : Array Edge} {g : Option (Nat × Bool)} {b : Bool} {v : Value} (h : a.eval x = .bool b) (h1 : (if b = true then a.eval y else a.eval z) = v) : (execOp a.eval { dst := some d, op := .pick x y z, type := ty, pos := p, after := f, guard := g }).run P w = .ok (.value v) w := by
  subst h1
  generalize a.eval = ρ at h ⊢
  cases b <;> simp [go_sem, h]

theorem eval_const' (a : Act) (v : Value) : a.eval (.const v) = v := rfl

theorem range_test {P : Program} {Q : Exit → Act → World → Prop} {a : Act} {w : World} {n : Nat} {r : Int} {id k d : Nat} {lo hi : Int} {tt tb : TypeId} {p1 p2 p3 p4 p5 p6 p7 : String} {f1 f2 f3 f4 f5 f6 f7 : Array Edge} (ha : Rn a n r) (hd : 0 < d) (hk : d < k) (hn : k + 5 < n)
    (h : ∀ a', Rn a' n r → a'.tmps[d]? = some (.bool (decide (lo ≤ r) && decide (r ≤ hi))) → Q .normal a' w) :
    (Code.region id #[{ dst := some k, op := .move (.tmp 0), type := tt, pos := p1, after := f1, guard := none },
      { dst := some (k + 1), op := .binOp .geq tt (.tmp k) (.const (.int .i32 lo)) tt, type := tb, pos := p2, after := f2, guard := none },
      { dst := some (k + 2), op := .move (.tmp (k + 1)), type := tb, pos := p3, after := f3, guard := none },
      { dst := some (k + 3), op := .move (.tmp 0), type := tt, pos := p4, after := f4, guard := some (2, true) },
      { dst := some (k + 4), op := .binOp .leq tt (.tmp (k + 3)) (.const (.int .i32 hi)) tt, type := tb, pos := p5, after := f5, guard := some (2, true) },
      { dst := some (k + 5), op := .pick (.tmp (k + 2)) (.tmp (k + 4)) (.const (.bool false)), type := tb, pos := p6, after := f6, guard := none },
      { dst := some d, op := .assign (.tmp (k + 5)), type := tb, pos := p7, after := f7, guard := none }] false).wp P Q a w := by
  have hs := ha.size
  refine wp_region_lit ?_
  refine wpl_value rfl rfl (run_move (eval_of ha.zero)) ?_
  have h1 := ha.put (i := k) (by omega) (.int .i32 r)
  have s1 := h1.size
  refine wpl_value rfl rfl (run_geq (eval_of (put_same (by omega))) (eval_const' _ _)) ?_
  have h2 := h1.put (i := k + 1) (by omega) (.bool (decide (lo ≤ r)))
  have s2 := h2.size
  refine wpl_value rfl rfl (run_move (eval_of (put_same (by omega)))) ?_
  have h3 := h2.put (i := k + 2) (by omega) (.bool (decide (lo ≤ r)))
  have s3 := h3.size
  have q3 := put_same (a := (a.put (some k) (.int .i32 r)).put (some (k + 1)) (.bool (decide (lo ≤ r)))) (i := k + 2) (v := .bool (decide (lo ≤ r))) (by omega)
  generalize ((a.put (some k) (.int .i32 r)).put (some (k + 1)) (.bool (decide (lo ≤ r)))).put (some (k + 2)) (.bool (decide (lo ≤ r))) = A at h3 s3 q3 ⊢
  clear h1 s1 h2 s2
  by_cases hlo : lo ≤ r
  · have e : decide (lo ≤ r) = true := decide_eq_true hlo
    rw [e] at q3
    refine wpl_value (by simp [Region.wanted, yielded, q3]) rfl (run_move (eval_of h3.zero)) ?_
    have h4 := h3.put (i := k + 3) (by omega) (.int .i32 r)
    have s4 := h4.size
    refine wpl_value (by simp [Region.wanted, yielded, put_other, q3]) rfl (run_leq (eval_of (put_same (by omega))) (eval_const' _ _)) ?_
    have h5 := h4.put (i := k + 4) (by omega) (.bool (decide (r ≤ hi)))
    have s5 := h5.size
    refine wpl_value rfl rfl (run_pick (b := true) (v := .bool (decide (r ≤ hi))) (eval_of (by rw [put_other (by omega), put_other (by omega)]; exact q3)) (by rw [if_pos rfl]; exact eval_of (put_same (by omega)))) ?_
    have h6 := h5.put (i := k + 5) (by omega) (.bool (decide (r ≤ hi)))
    have s6 := h6.size
    refine wpl_value rfl rfl (run_assign (eval_of (put_same (by omega)))) ?_
    exact h _ (h6.put hd _) (by rw [put_same (by omega), e, Bool.true_and])
  · have e : decide (lo ≤ r) = false := decide_eq_false hlo
    rw [e] at q3
    refine wpl_skip (by simp [Region.wanted, yielded, q3]) rfl ?_
    have h4 := h3.put (i := k + 3) (by omega) undef
    have s4 := h4.size
    refine wpl_skip (by simp [Region.wanted, yielded, put_other, q3]) rfl ?_
    have h5 := h4.put (i := k + 4) (by omega) undef
    have s5 := h5.size
    refine wpl_value rfl rfl (run_pick (b := false) (v := .bool false) (eval_of (by rw [put_other (by omega), put_other (by omega)]; exact q3)) (by rw [if_neg Bool.false_ne_true]; exact eval_const' _ _)) ?_
    have h6 := h5.put (i := k + 5) (by omega) (.bool false)
    have s6 := h6.size
    refine wpl_value rfl rfl (run_assign (eval_of (put_same (by omega)))) ?_
    exact h _ (h6.put hd _) (by rw [put_same (by omega), e, Bool.false_and])

theorem eq_test {P : Program} {Q : Exit → Act → World → Prop} {a : Act} {w : World} {n : Nat} {r : Int} {id k d : Nat} {c : Int} {tt tb : TypeId} {p1 p2 p3 : String} {f1 f2 f3 : Array Edge} (ha : Rn a n r) (hd : 0 < d) (hk : d < k) (hn : k + 1 < n)
    (h : ∀ a', Rn a' n r → a'.tmps[d]? = some (.bool (r == c)) → Q .normal a' w) :
    (Code.region id #[{ dst := some k, op := .move (.tmp 0), type := tt, pos := p1, after := f1, guard := none },
      { dst := some (k + 1), op := .binOp .eql tt (.tmp k) (.const (.int .i32 c)) tt, type := tb, pos := p2, after := f2, guard := none },
      { dst := some d, op := .assign (.tmp (k + 1)), type := tb, pos := p3, after := f3, guard := none }] false).wp P Q a w := by
  have hs := ha.size
  refine wp_region_lit ?_
  refine wpl_value rfl rfl (run_move (eval_of ha.zero)) ?_
  have h1 := ha.put (i := k) (by omega) (.int .i32 r)
  have s1 := h1.size
  refine wpl_value rfl rfl (run_eql (eval_of (put_same (by omega))) (eval_const' _ _)) ?_
  have h2 := h1.put (i := k + 1) (by omega) (.bool (r == c))
  have s2 := h2.size
  refine wpl_value rfl rfl (run_assign (eval_of (put_same (by omega)))) ?_
  exact h _ (h2.put hd _) (put_same (by omega))

/-! ### Chains -/
/-- The code leaves in slot d whether .. , and the rune where it was. -/
def Chain (P : Program) (c : Code) (n d : Nat) (r : Int) (B : Bool) : Prop :=
  ∀ (Q : Exit → Act → World → Prop) (a : Act) (w : World), Rn a n r → (∀ a', Rn a' n r → a'.tmps[d]? = some (.bool B) → Q .normal a' w) → c.wp P Q a w

theorem inR_cons (p : Int × Int) (l : List (Int × Int)) (r : Int) : inR (p :: l) r = ((decide (p.1 ≤ r) && decide (r ≤ p.2)) || inR l r) := rfl
theorem inR_one (lo hi r : Int) : inR [(lo, hi)] r = (decide (lo ≤ r) && decide (r ≤ hi)) := by simp [inR]
theorem inR_eq (c r : Int) : inR [(c, c)] r = (r == c) := by
  rw [inR_one]
  by_cases h : r = c
  · subst h; simp
  · rw [beq_eq_false_iff_ne.2 h]
    by_cases h1 : c ≤ r
    · have : ¬ r ≤ c := by omega
      simp [this]
    · simp [h1]

theorem chain_range {P : Program} {n : Nat} {r : Int} {id k d : Nat} {lo hi : Int} {tt tb : TypeId} {p1 p2 p3 p4 p5 p6 p7 : String} {f1 f2 f3 f4 f5 f6 f7 : Array Edge} (hd : 0 < d) (hk : d < k) (hn : k + 5 < n) :
    Chain P (Code.region id #[{ dst := some k, op := .move (.tmp 0), type := tt, pos := p1, after := f1, guard := none },
      { dst := some (k + 1), op := .binOp .geq tt (.tmp k) (.const (.int .i32 lo)) tt, type := tb, pos := p2, after := f2, guard := none },
      { dst := some (k + 2), op := .move (.tmp (k + 1)), type := tb, pos := p3, after := f3, guard := none },
      { dst := some (k + 3), op := .move (.tmp 0), type := tt, pos := p4, after := f4, guard := some (2, true) },
      { dst := some (k + 4), op := .binOp .leq tt (.tmp (k + 3)) (.const (.int .i32 hi)) tt, type := tb, pos := p5, after := f5, guard := some (2, true) },
      { dst := some (k + 5), op := .pick (.tmp (k + 2)) (.tmp (k + 4)) (.const (.bool false)), type := tb, pos := p6, after := f6, guard := none },
      { dst := some d, op := .assign (.tmp (k + 5)), type := tb, pos := p7, after := f7, guard := none }] false) n d r (inR [(lo, hi)] r) :=
  fun Q a w ha h => range_test ha hd hk hn (by rw [inR_one] at h; exact h)
theorem chain_eq {P : Program} {n : Nat} {r : Int} {id k d : Nat} {c : Int} {tt tb : TypeId} {p1 p2 p3 : String} {f1 f2 f3 : Array Edge} (hd : 0 < d) (hk : d < k) (hn : k + 1 < n) :
    Chain P (Code.region id #[{ dst := some k, op := .move (.tmp 0), type := tt, pos := p1, after := f1, guard := none },
      { dst := some (k + 1), op := .binOp .eql tt (.tmp k) (.const (.int .i32 c)) tt, type := tb, pos := p2, after := f2, guard := none },
      { dst := some d, op := .assign (.tmp (k + 1)), type := tb, pos := p3, after := f3, guard := none }] false) n d r (inR [(c, c)] r) :=
  fun Q a w ha h => eq_test ha hd hk hn (by rw [inR_eq] at h; exact h)
theorem chain_or {P : Program} {n : Nat} {r : Int} {d : Nat} {x y : Code} {p : Int × Int} {l : List (Int × Int)} (hx : Chain P x n d r (inR [p] r)) (hy : Chain P y n d r (inR l r)) :
    Chain P (x.seq (Code.cond (.tmp d) Code.skip y)) n d r (inR (p :: l) r) := by
  intro Q a w ha h
  refine wp_seq (hx _ a w ha (fun a' ha' hb => ?_))
  show (Code.cond (.tmp d) Code.skip y).wp P Q a' w
  have e : inR (p :: l) r = (inR [p] r || inR l r) := by rw [inR_cons, inR_one]
  rw [e] at h
  refine wp_cond (eval_of hb) ?_
  cases hc : inR [p] r
  · rw [if_neg Bool.false_ne_true]
    refine hy Q a' w ha' (fun a2 h2 hb2 => h a2 h2 ?_)
    rw [hc, Bool.false_or]
    exact hb2
  · rw [if_pos rfl]
    refine wp_skip (h a' ha' ?_)
    rw [hc] at hb ⊢
    rw [Bool.true_or]
    exact hb

/-- A constant is laid into a slot. -/
theorem seq_set {P : Program} {Q : Exit → Act → World → Prop} {a : Act} {w : World} {n : Nat} {r : Int} {id d : Nat} {v : Value} {ty : TypeId} {p : String} {f : Array Edge} {y : Code} (ha : Rn a n r) (hd : 0 < d) (hn : d < n)
    (h : ∀ a', Rn a' n r → a'.tmps[d]? = some v → y.wp P Q a' w) : ((Code.region id #[{ dst := some d, op := .assign (.const v), type := ty, pos := p, after := f, guard := none }] false).seq y).wp P Q a w := by
  have hs := ha.size
  refine wp_seq (wp_region_lit ?_)
  refine wpl_value rfl rfl (run_assign rfl) ?_
  exact h _ (ha.put hd v) (put_same (by omega))

/-- A function of one rune, its result in slot 2. -/
theorem calls_rn {P : Program} {f : FuncId} {fn : Func} {c : Code} {n : Nat} {r : Int} {w : World} {R : Ending → World → Prop} (hf : P.funcs[f]? = some fn) (hb : fn.body = some c) (hn : fn.ntmps = n) (h1 : 1 ≤ n) (hr : fn.results = #[ResultVar.tmp 2])
    (h : ∀ a, Rn a n r → c.wp P (fun e a' w' => e = .ret ∧ w' = w ∧ ∃ v, a'.tmps[2]? = some v ∧ a'.defers = [] ∧ R (.returned v) w) a w) : Calls P f #[.int .i32 r] w R := by
  refine calls_of_wp hf hb ?_
  have ha : Rn { tmps := #[.int .i32 r] ++ Array.replicate (fn.ntmps - #[Value.int .i32 r].size) undef, defers := [] } n r := by
    refine ⟨?_, ?_, rfl⟩
    · simp; omega
    · rw [Array.getElem?_append_left (by simp)]; rfl
  refine wp_mono (h _ ha) ?_
  rintro e a' w' ⟨rfl, rfl, v, h2, h3, h4⟩
  refine ⟨h3, v, ?_, h4⟩
  simp [results, hr, go_sem, h2]

/-- 'result = constant; return'. -/
theorem ret_set {P : Program} {Q : Exit → Act → World → Prop} {a : Act} {w : World} {n : Nat} {r : Int} {id : Nat} {v : Value} {ty : TypeId} {p : String} {f : Array Edge} (ha : Rn a n r) (hn : 2 < n)
    (h : ∀ a', Rn a' n r → a'.tmps[2]? = some v → Q .ret a' w) : ((Code.region id #[{ dst := some 2, op := .assign (.const v), type := ty, pos := p, after := f, guard := none }] false).seq Code.ret).wp P Q a w :=
  seq_set ha (by decide) hn fun a' h' hv => wp_ret (h a' h' hv)
/-- 'switch { case a, b, ..: return u }; return v'. -/
theorem or_fn {P : Program} {Q : Exit → Act → World → Prop} {a : Act} {w : World} {n d bl i1 i2 : Nat} {r : Int} {B : Bool} {c : Code} {u v : Value} {t1 t2 : TypeId} {p1 p2 : String} {f1 f2 : Array Edge} (hc : Chain P c n d r B) (ha : Rn a n r) (hn : 2 < n)
    (h : ∀ a', Rn a' n r → a'.tmps[2]? = some (if B = true then u else v) → Q .ret a' w) :
    ((Code.block bl (c.seq (Code.cond (.tmp d) ((Code.region i1 #[{ dst := some 2, op := .assign (.const u), type := t1, pos := p1, after := f1, guard := none }] false).seq Code.ret) Code.skip))).seq
      ((Code.region i2 #[{ dst := some 2, op := .assign (.const v), type := t2, pos := p2, after := f2, guard := none }] false).seq Code.ret)).wp P Q a w := by
  refine wp_seq (wp_block (wp_seq (hc _ a w ha (fun a' ha' hb => ?_))))
  show (Code.cond (.tmp d) _ Code.skip).wp P _ a' w
  refine wp_cond (eval_of hb) ?_
  cases B
  · rw [if_neg Bool.false_ne_true] at h ⊢
    refine wp_skip ?_
    show (Code.seq _ _).wp P Q a' w
    exact ret_set ha' hn h
  · rw [if_pos rfl] at h ⊢
    exact ret_set ha' hn h

/-- 'case ..: x': on with y. -/
theorem case_more {P : Program} {Q : Exit → Act → World → Prop} {a : Act} {w : World} {n d : Nat} {r : Int} {B : Bool} {c x y : Code} (hc : Chain P c n d r B) (ha : Rn a n r)
    (hT : B = true → ∀ a', Rn a' n r → x.wp P Q a' w) (hF : B = false → ∀ a', Rn a' n r → y.wp P Q a' w) : (c.seq (Code.cond (.tmp d) x y)).wp P Q a w := by
  refine wp_seq (hc _ a w ha (fun a' ha' hb => ?_))
  show (Code.cond (.tmp d) x y).wp P Q a' w
  refine wp_cond (eval_of hb) ?_
  cases B
  · rw [if_neg Bool.false_ne_true]; exact hF rfl a' ha'
  · rw [if_pos rfl]; exact hT rfl a' ha'
theorem run_lss {P : Program} {a : Act} {w : World} {d : Nat} {x y : Operand} {t ty : TypeId} {p : String} {f : Array Edge} {g : Option (Nat × Bool)} {u v : Int} (hx : a.eval x = .int .i32 u) (hy : a.eval y = .int .i32 v) :
    (execOp a.eval { dst := some d, op := .binOp .lss t x y t, type := ty, pos := p, after := f, guard := g }).run P w = .ok (.value (.bool (decide (u < v)))) w := by
  generalize a.eval = ρ at hx hy ⊢
  simp [go_sem, hx, hy]
theorem run_add {P : Program} {a : Act} {w : World} {d : Nat} {x y : Operand} {t ty : TypeId} {p : String} {f : Array Edge} {g : Option (Nat × Bool)} {u v : Int} (hx : a.eval x = .int .i32 u) (hy : a.eval y = .int .i32 v) :
    (execOp a.eval { dst := some d, op := .binOp .add t x y t, type := ty, pos := p, after := f, guard := g }).run P w = .ok (.value (.int .i32 (IntKind.i32.wrap (u + v)))) w := by
  generalize a.eval = ρ at hx hy ⊢
  simp [go_sem, hx, hy]
theorem run_sub {P : Program} {a : Act} {w : World} {d : Nat} {x y : Operand} {t ty : TypeId} {p : String} {f : Array Edge} {g : Option (Nat × Bool)} {u v : Int} (hx : a.eval x = .int .i32 u) (hy : a.eval y = .int .i32 v) :
    (execOp a.eval { dst := some d, op := .binOp .sub t x y t, type := ty, pos := p, after := f, guard := g }).run P w = .ok (.value (.int .i32 (IntKind.i32.wrap (u - v)))) w := by
  generalize a.eval = ρ at hx hy ⊢
  simp [go_sem, hx, hy]
theorem chain_lss {P : Program} {n : Nat} {r : Int} {id k d : Nat} {c : Int} {tt tb : TypeId} {p1 p2 p3 : String} {f1 f2 f3 : Array Edge} (hd : 0 < d) (hk : d < k) (hn : k + 1 < n) :
    Chain P (Code.region id #[{ dst := some k, op := .move (.tmp 0), type := tt, pos := p1, after := f1, guard := none },
      { dst := some (k + 1), op := .binOp .lss tt (.tmp k) (.const (.int .i32 c)) tt, type := tb, pos := p2, after := f2, guard := none },
      { dst := some d, op := .assign (.tmp (k + 1)), type := tb, pos := p3, after := f3, guard := none }] false) n d r (decide (r < c)) := by
  intro Q a w ha h
  have hs := ha.size
  refine wp_region_lit ?_
  refine wpl_value rfl rfl (run_move (eval_of ha.zero)) ?_
  have h1 := ha.put (i := k) (by omega) (.int .i32 r)
  have s1 := h1.size
  refine wpl_value rfl rfl (run_lss (eval_of (put_same (by omega))) (eval_const' _ _)) ?_
  have h2 := h1.put (i := k + 1) (by omega) (.bool (decide (r < c)))
  have s2 := h2.size
  refine wpl_value rfl rfl (run_assign (eval_of (put_same (by omega)))) ?_
  exact h _ (h2.put hd _) (put_same (by omega))

/-! ### Rows of the folds -/
theorem fit_one {r lo hi c : Int} : fitB r (lo, hi, 1, c) = inR [(lo, hi)] r := by
  rw [inR_one]
  unfold fitB
  simp [Int.emod_one]
/-- 'return r + c'. -/
theorem ret_add {P : Program} {Q : Exit → Act → World → Prop} {a : Act} {w : World} {n : Nat} {r : Int} {id k : Nat} {c v : Int} {tt : TypeId} {p1 p2 p3 : String} {f1 f2 f3 : Array Edge} (ha : Rn a n r) (hk : 2 < k) (hn : k + 1 < n) (hv : IntKind.i32.wrap (r + c) = v)
    (h : ∀ a', Rn a' n r → a'.tmps[2]? = some (.int .i32 v) → Q .ret a' w) :
    ((Code.region id #[{ dst := some k, op := .move (.tmp 0), type := tt, pos := p1, after := f1, guard := none },
      { dst := some (k + 1), op := .binOp .add tt (.tmp k) (.const (.int .i32 c)) tt, type := tt, pos := p2, after := f2, guard := none },
      { dst := some 2, op := .assign (.tmp (k + 1)), type := tt, pos := p3, after := f3, guard := none }] false).seq Code.ret).wp P Q a w := by
  have hs := ha.size
  refine wp_seq (wp_region_lit ?_)
  refine wpl_value rfl rfl (run_move (eval_of ha.zero)) ?_
  have h1 := ha.put (i := k) (by omega) (.int .i32 r)
  have s1 := h1.size
  refine wpl_value rfl rfl (run_add (eval_of (put_same (by omega))) (eval_const' _ _)) ?_
  rw [hv]
  have h2 := h1.put (i := k + 1) (by omega) (.int .i32 v)
  have s2 := h2.size
  refine wpl_value rfl rfl (run_assign (eval_of (put_same (by omega)))) ?_
  exact wp_ret (h _ (h2.put (by decide) _) (put_same (by omega)))
theorem ret_sub {P : Program} {Q : Exit → Act → World → Prop} {a : Act} {w : World} {n : Nat} {r : Int} {id k : Nat} {c v : Int} {tt : TypeId} {p1 p2 p3 : String} {f1 f2 f3 : Array Edge} (ha : Rn a n r) (hk : 2 < k) (hn : k + 1 < n) (hv : IntKind.i32.wrap (r - c) = v)
    (h : ∀ a', Rn a' n r → a'.tmps[2]? = some (.int .i32 v) → Q .ret a' w) :
    ((Code.region id #[{ dst := some k, op := .move (.tmp 0), type := tt, pos := p1, after := f1, guard := none },
      { dst := some (k + 1), op := .binOp .sub tt (.tmp k) (.const (.int .i32 c)) tt, type := tt, pos := p2, after := f2, guard := none },
      { dst := some 2, op := .assign (.tmp (k + 1)), type := tt, pos := p3, after := f3, guard := none }] false).seq Code.ret).wp P Q a w := by
  have hs := ha.size
  refine wp_seq (wp_region_lit ?_)
  refine wpl_value rfl rfl (run_move (eval_of ha.zero)) ?_
  have h1 := ha.put (i := k) (by omega) (.int .i32 r)
  have s1 := h1.size
  refine wpl_value rfl rfl (run_sub (eval_of (put_same (by omega))) (eval_const' _ _)) ?_
  rw [hv]
  have h2 := h1.put (i := k + 1) (by omega) (.int .i32 v)
  have s2 := h2.size
  refine wpl_value rfl rfl (run_assign (eval_of (put_same (by omega)))) ?_
  exact wp_ret (h _ (h2.put (by decide) _) (put_same (by omega)))
/-- 'return r'. -/
theorem ret_self {P : Program} {Q : Exit → Act → World → Prop} {a : Act} {w : World} {n : Nat} {r : Int} {id k : Nat} {tt : TypeId} {p1 p3 : String} {f1 f3 : Array Edge} (ha : Rn a n r) (hk : 2 < k) (hn : k < n)
    (h : ∀ a', Rn a' n r → a'.tmps[2]? = some (.int .i32 r) → Q .ret a' w) :
    ((Code.region id #[{ dst := some k, op := .move (.tmp 0), type := tt, pos := p1, after := f1, guard := none },
      { dst := some 2, op := .assign (.tmp k), type := tt, pos := p3, after := f3, guard := none }] false).seq Code.ret).wp P Q a w := by
  have hs := ha.size
  refine wp_seq (wp_region_lit ?_)
  refine wpl_value rfl rfl (run_move (eval_of ha.zero)) ?_
  have h1 := ha.put (i := k) (by omega) (.int .i32 r)
  have s1 := h1.size
  refine wpl_value rfl rfl (run_assign (eval_of (put_same (by omega)))) ?_
  exact wp_ret (h _ (h1.put (by decide) _) (put_same (by omega)))

/-- A chain of rows. -/
def FChain (P : Program) (c : Code) (n : Nat) (r : Int) (L : List (Int × Int × Int × Int)) : Prop :=
  ∀ (Q : Exit → Act → World → Prop) (a : Act) (w : World), Rn a n r → (∀ q, L.find? (fitB r) = some q → ∀ a', Rn a' n r → a'.tmps[2]? = some (.int .i32 (r + q.2.2.2)) → Q .ret a' w) → (L.find? (fitB r) = none → ∀ a', Rn a' n r → Q .normal a' w) → c.wp P Q a w
theorem fchain_nil {P : Program} {n : Nat} {r : Int} : FChain P Code.skip n r [] := fun _ a _ ha _ h => wp_skip (h rfl a ha)
theorem fchain_cons {P : Program} {n d : Nat} {r : Int} {x y z : Code} {q : Int × Int × Int × Int} {L : List (Int × Int × Int × Int)} (hx : Chain P x n d r (fitB r q))
    (hz : fitB r q = true → ∀ (Q : Exit → Act → World → Prop) (a : Act) (w : World), Rn a n r → (∀ a', Rn a' n r → a'.tmps[2]? = some (.int .i32 (r + q.2.2.2)) → Q .ret a' w) → z.wp P Q a w) (hy : FChain P y n r L) :
    FChain P (x.seq (Code.cond (.tmp d) z y)) n r (q :: L) := by
  intro Q a w ha h1 h2
  refine case_more hx ha (fun hB a' h' => hz hB Q a' w h' (h1 q (by rw [List.find?_cons, hB]))) (fun hB a' h' => hy Q a' w h' (fun q' hq' => h1 q' (by rw [List.find?_cons, hB]; exact hq')) (fun hq' => h2 (by rw [List.find?_cons, hB]; exact hq')))
end Go.Proofs.YtkknmbkfiiidmaaDoor
