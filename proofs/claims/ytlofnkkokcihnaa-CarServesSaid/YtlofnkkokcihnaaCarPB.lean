/-
  The functions of grips compute what their words say, continued.
-/
import Derived.Test.YtlofnkkokcihnaaCarPA
namespace Go.Proofs.Ytlofnkkokcihnaa
open Go.Lite

/-! ### Bounds -/
theorem row_len {l : List (List D)} (h : rowOk l = true) : 1 ≤ l.length ∧ l.length ≤ 10 := by
  simp only [rowOk, Bool.and_eq_true, Lite.within_iff] at h
  omega
theorem row_knot {l : List (List D)} (h : rowOk l = true) {j : Nat} (hj : j < l.length) : (-40 ≤ ix (l.getD j []) 0 ∧ ix (l.getD j []) 0 ≤ 80) ∧ (0 ≤ ix (l.getD j []) 1 ∧ ix (l.getD j []) 1 ≤ 1000) ∧ (j = 0 ∨ ix (l.getD (j - 1) []) 0 < ix (l.getD j []) 0) := by
  simp only [rowOk, Bool.and_eq_true, allFrom_iff] at h
  have := h.1 j (Nat.zero_le _) (by omega)
  simp only [knotAt, Bool.and_eq_true, Lite.within_iff, Bool.or_eq_true, decide_eq_true_eq] at this
  exact ⟨this.1.1, this.1.2, this.2⟩
theorem interp_between {a b : List D} {d : Int} (ha : 0 ≤ ix a 1 ∧ ix a 1 ≤ 1000) (hb : 0 ≤ ix b 1 ∧ ix b 1 ≤ 1000) (h1 : ix a 0 ≤ d) (h2 : d ≤ ix b 0) (h3 : ix a 0 < ix b 0) : 0 ≤ interp a b d ∧ interp a b d ≤ 1000 := by
  unfold interp
  have := @Lite.tdiv_between (ix b 1 - ix a 1) (d - ix a 0) (ix b 0 - ix a 0) (by omega) (by omega) (by omega)
  generalize ((ix b 1 - ix a 1) * (d - ix a 0)).tdiv (ix b 0 - ix a 0) = x at *
  omega
theorem freshFrom_range {l : List (List D)} {d : Int} (h : rowOk l = true) : ∀ (k i : Nat), 1 ≤ i → i + k = l.length → ix (l.getD (i - 1) []) 0 ≤ d → 0 ≤ freshFrom l d i k ∧ freshFrom l d i k ≤ 1000
  | 0, i, h1, h2, h3 => by
    simp only [freshFrom]
    have := (row_knot h (j := l.length - 1) (by omega)).2.1
    omega
  | k + 1, i, h1, h2, h3 => by
    simp only [freshFrom]
    have ha := row_knot h (j := i - 1) (by omega)
    have hb := row_knot h (j := i) (by omega)
    split
    · exact interp_between ha.2.1 hb.2.1 h3 ‹_› (hb.2.2.resolve_left (by omega))
    · refine freshFrom_range h k (i + 1) (by omega) (by omega) ?_
      simp only [Nat.add_sub_cancel]
      omega
theorem freshV_range {l : List (List D)} {d : Int} (h : rowOk l = true) : 0 ≤ freshV l d ∧ freshV l d ≤ 1000 := by
  unfold freshV
  have hl := row_len h
  split
  · have := (row_knot h (j := 0) (by omega)).2.1
    omega
  · refine freshFrom_range h _ _ (by omega) (by omega) ?_
    simp only [Nat.sub_self]
    omega
/-- One step of the reckoning between two knots, within the machine's numbers. -/
theorem interp_wrap {a b : List D} {d : Int} (ha : 0 ≤ ix a 1 ∧ ix a 1 ≤ 1000) (hb : 0 ≤ ix b 1 ∧ ix b 1 ≤ 1000) (ha0 : -40 ≤ ix a 0 ∧ ix a 0 ≤ 80) (hb0 : -40 ≤ ix b 0 ∧ ix b 0 ≤ 80) (hd : -40 ≤ d ∧ d ≤ 80) :
    IntKind.wrap IntKind.i64 (ix a 1 + IntKind.wrap IntKind.i64 (Int.tdiv (IntKind.wrap IntKind.i64 (IntKind.wrap IntKind.i64 (ix b 1 - ix a 1) * IntKind.wrap IntKind.i64 (d - ix a 0))) (IntKind.wrap IntKind.i64 (ix b 0 - ix a 0)))) = interp a b d := by
  unfold interp
  rw [wrap_id (x := ix b 1 - ix a 1) (by omega) (by omega), wrap_id (x := d - ix a 0) (by omega) (by omega), wrap_id (x := ix b 0 - ix a 0) (by omega) (by omega)]
  have h1 : ((ix b 1 - ix a 1) * (d - ix a 0)).natAbs ≤ 1000 * 120 := mul_abs (by omega) (by omega)
  rw [wrap_abs h1 (by decide)]
  have h2 := @Lite.tdiv_abs _ (ix b 0 - ix a 0) _ h1
  rw [wrap_abs h2 (by decide)]
  generalize ((ix b 1 - ix a 1) * (d - ix a 0)).tdiv (ix b 0 - ix a 0) = x at *
  exact wrap_id (by omega) (by omega)

theorem ok79_7 (n : Nat) : LoopSim C (n + 1) 79 (loopOf C.P 79 7) (mkL l79_7 G79_7) := by
  refine loop_of hC (sp := sp79) (lp := lp79) trivial [] (by kernel_rfl) rfl (fun k hk => by cases hk) (by kernel_rfl) (fun ds => (((ds.getD 1 default).L.length : Int) - (ds.getD 2 default).I).toNat) fun ds r h => ?_
  unfold G79_7 at h
  split at h
  · rename_i a b c
    obtain ⟨hp, h⟩ := need_some h
    rw [yes_iff] at hp
    obtain ⟨h1, h2, h3, h4, h5⟩ := hp
    have hl := row_len h1
    refine ⟨by rw [fuelC]; simp; omega, ?_⟩
    rw [show roundT C (mkTab sp79 lp79) 79 (loopOf C.P 79 7) l79_7 [a, b, c] = _ from t79_7 a b c]
    obtain ⟨k, hk⟩ : ∃ k : Nat, c.I = k := ⟨c.I.toNat, by omega⟩
    simp only [run_ite, run_need, run_leaf, hk, Int.toNat_natCast] at h h4 ⊢
    refine find_loop (q := fun j => !decide (a.I ≤ ix (b.L.getD j []) 0)) (i := k) (len := b.L.length) (val := fun i k => (.ret, [.i (freshFrom b.L a.I i k)])) (w := (.ret, [.i (interp (b.L.getD (k - 1) []) (b.L.getD k []) a.I)])) [D.i a.I, D.l b.L, D.i (k + 1 : Nat)] h ?_ ?_ ?_
    · intro k'
      simp only [freshFrom]
      by_cases hh : a.I ≤ ix (b.L.getD k []) 0
      · simp only [hh, decide_true, Bool.not_true, Bool.false_eq_true, if_true, if_false]
      · simp only [hh, decide_false, Bool.not_false, if_true, if_false]
    · by_cases hlt : k < b.L.length
      · have ka := row_knot h1 (j := k - 1) (by omega)
        have kb := row_knot h1 (j := k) hlt
        have kk := kb.2.2.resolve_left (by omega)
        simp only [wrap_succ (show k < 9223372036854775807 by omega), wrap_pred (show k < 9223372036854775807 by omega), toNat_pred, ix_def, Nat.zero_add]
        rw [interp_wrap ka.2.1 kb.2.1 ka.1 kb.1 ⟨h2, h3⟩, wrap_id (x := ix (b.L.getD k []) 0 - ix (b.L.getD (k - 1) []) 0) (by omega) (by omega)]
        have e1 : ((ix (b.L.getD k []) 0 - ix (b.L.getD (k - 1) []) 0 == 0) = false) := beq_eq_false_iff_ne.2 (by omega)
        grind
      · grind
    · intro hlt hp hh
      refine ⟨Eq.trans (need_yes (p := _) (t := _) ?_) hh, ?_⟩
      · simp only [I_i, L_l]
        exact ⟨h1, h2, h3, by omega, by omega⟩
      · show ((b.L.length : Int) - ((k + 1 : Nat) : Int)).toNat < ((b.L.length : Int) - c.I).toNat
        omega
  · cases h
theorem rowFor_true {a b : List (List D)} {e : Int} : rowFor a b e true = rowAt b e.toNat := rfl
theorem rowFor_false {a b : List (List D)} {e : Int} : rowFor a b e false = rowAt a e.toNat := rfl
/-- What reading a row at a degree comes to. -/
theorem fresh_run {l : List (List D)} {d : Int} (h1 : rowOk l = true) (h2 : -40 ≤ d) (h3 : d ≤ 80) :
    (T.need (decide ((0 : Int) ≤ (0 : Int) ∧ (0 : Int) < (↑(List.length l) : Int))) (T.ite (decide (d ≤ D.I (List.getD (List.getD l (Int.toNat (0 : Int)) []) 0 default))) (T.need (decide ((0 : Int) ≤ (0 : Int) ∧ (0 : Int) < (↑(List.length l) : Int))) (T.leaf [D.i (D.I (List.getD (List.getD l (Int.toNat (0 : Int)) []) (0 + 1) default))])) (T.need (yes (rowOk l = true ∧ (-40 : Int) ≤ d ∧ d ≤ (80 : Int) ∧ (1 : Int) ≤ (1 : Int) ∧ (1 : Int) ≤ (↑(List.length l) : Int))) (T.ite (allFrom (fun j => !decide (d ≤ ix (List.getD l j []) 0)) (Int.toNat (1 : Int)) (List.length l - Int.toNat (1 : Int))) (T.need (decide ((0 : Int) ≤ IntKind.wrap IntKind.i64 ((↑(List.length l) : Int) - (1 : Int)) ∧ IntKind.wrap IntKind.i64 ((↑(List.length l) : Int) - (1 : Int)) < (↑(List.length l) : Int))) (T.leaf [D.i (D.I (List.getD (List.getD l (Int.toNat (IntKind.wrap IntKind.i64 ((↑(List.length l) : Int) - (1 : Int)))) []) (0 + 1) default))])) (T.leaf [D.i (freshFrom l d (Int.toNat (1 : Int)) (List.length l - Int.toNat (1 : Int)))]))))).run = some [D.i (freshV l d)] := by
  have hl := row_len h1
  have hall : ∀ k i, allFrom (fun j => !decide (d ≤ ix (l.getD j []) 0)) i k = true → freshFrom l d i k = ix (l.getD (l.length - 1) []) 1 := by
    intro k
    induction k with
    | zero => intro i _; rfl
    | succ k ih =>
      intro i h
      simp only [allFrom, Bool.and_eq_true] at h
      simp only [freshFrom]
      rw [if_neg (by simpa using h.1), ih _ h.2]
  have hn : ∃ m : Nat, l.length = m + 1 := ⟨l.length - 1, by omega⟩
  obtain ⟨m, hm⟩ := hn
  simp only [run_ite, run_need, run_leaf, ix_def, Nat.zero_add, wrap_pred (show l.length < 9223372036854775807 by omega), toNat_pred]
  unfold freshV
  have c1 : decide ((0 : Int) ≤ 0 ∧ (0 : Int) < (l.length : Int)) = true := decide_eq_true ⟨by omega, by omega⟩
  have c2 : decide ((0 : Int) ≤ (l.length : Int) - 1 ∧ (l.length : Int) - 1 < (l.length : Int)) = true := decide_eq_true ⟨by omega, by omega⟩
  have c3 : yes (rowOk l = true ∧ (-40 : Int) ≤ d ∧ d ≤ (80 : Int) ∧ (1 : Int) ≤ (1 : Int) ∧ (1 : Int) ≤ (↑(List.length l) : Int)) = true := yes_true ⟨h1, h2, h3, by omega, by omega⟩
  rw [c1, c2, c3]
  simp only [if_true, Int.toNat_zero, show Int.toNat 1 = 1 from rfl]
  split
  · rename_i hc
    rw [if_pos (of_decide_eq_true hc)]
  · rename_i hc
    rw [if_neg (fun h => hc (decide_eq_true h))]
    split
    · rename_i hc
      rw [hall _ _ hc]
    · rfl
theorem ok79 (n : Nat) : FnOK C (n + 2) 79 (mkF s79 G79) := by
  refine fn_of hC (sp := sp79) (lp := lp79) trivial (by kernel_rfl) [7] (by kernel_rfl) (by kernel_rfl) (fun k hk L hL => by simp at hk; subst hk; cases hL; exact ok79_7 n) fun ds r h => ?_
  unfold G79 at h
  split at h
  · rename_i a b c d e f g
    obtain ⟨hp, h⟩ := need_some h
    rw [yes_iff] at hp
    obtain ⟨⟨h1, h2, h3, h4⟩, h5, h6⟩ := hp
    rw [← h]
    refine (congrArg T.run (t79 a b c d e f g)).trans ?_
    rw [run_need, if_pos (decide_eq_true ⟨h1, h2⟩), run_ite]
    cases hg : g.B with
    | true =>
      rw [hg, rowFor_true] at h4
      simp only [if_true, rowFor_true]
      rw [run_need, if_pos (decide_eq_true ⟨h1, h3⟩)]
      exact fresh_run h4 h5 h6
    | false =>
      rw [hg, rowFor_false] at h4
      simp only [Bool.false_eq_true, if_false, rowFor_false]
      exact fresh_run h4 h5 h6
  · cases h
/-- What the grip is, within the machine's numbers. -/
theorem grip_wrap {g d h : Int} (hg : 0 ≤ g ∧ g ≤ 1000) (hd : 0 ≤ d ∧ d ≤ 1000) (hh : 0 ≤ h ∧ h ≤ 1000000) :
    IntKind.wrap IntKind.i64 (g - IntKind.wrap IntKind.i64 (Int.tdiv (IntKind.wrap IntKind.i64 (IntKind.wrap IntKind.i64 (g * d) * h)) (1000000000 : Int))) = gripV g d h := by
  unfold gripV
  have h1 : (g * d).natAbs ≤ 1000 * 1000 := mul_abs (by omega) (by omega)
  rw [wrap_abs h1 (by decide)]
  have h2 : (g * d * h).natAbs ≤ 1000 * 1000 * 1000000 := mul_abs h1 (by omega)
  rw [wrap_abs h2 (by decide)]
  have h3 := @Lite.tdiv_abs _ 1000000000 _ h2
  rw [wrap_abs h3 (by decide)]
  generalize (g * d * h).tdiv 1000000000 = x at *
  exact wrap_id (by omega) (by omega)
theorem ok48 (n : Nat) : FnOK C (n + 3) 48 (mkF s48 G48) := by
  refine fn_of hC (sp := sp48) (lp := lp48) ⟨ok79 n, trivial⟩ (by kernel_rfl) [] (by kernel_rfl) rfl (fun k hk => by cases hk) fun ds r h => ?_
  unfold G48 at h
  split at h
  · rename_i a b c d e f g h0
    obtain ⟨hp, h⟩ := need_some h
    rw [yes_iff] at hp
    obtain ⟨hs, h5, h6, h7, h8, h9, h10⟩ := hp
    rw [← h]
    refine (congrArg T.run (t48 a b c d e f g h0)).trans ?_
    rw [need_yes ⟨hs, h5, h6⟩, run_need, if_pos rfl, grip_wrap (freshV_range hs.2.2.2) ⟨h7, h8⟩ ⟨h9, h10⟩]
    rfl
  · cases h
theorem surf_of {dry wet wear : List (List D)} {loss e : Int} {w : Bool} (h : compoundOk dry wet wear loss = true) (h2 : within e 0 (dry.length - 1) = true) : surfOk dry wet e w ∧ 0 ≤ loss ∧ loss ≤ 1000 := by
  simp only [compoundOk, Bool.and_eq_true, Lite.within_iff, decide_eq_true_eq, rowsOk, allFrom_iff] at h h2
  obtain ⟨⟨⟨⟨⟨⟨h3, h4⟩, h5⟩, h6⟩, h7⟩, h8⟩, h9⟩ := h
  refine ⟨⟨h2.1, by omega, by omega, ?_⟩, h6⟩
  cases w with
  | true => exact h8 _ (by omega) (by omega)
  | false => exact h7 _ (by omega) (by omega)
theorem ok17 (n : Nat) : FnOK C (n + 7) 17 (mkF s17 G17) := by
  refine fn_of hC (sp := sp17) (lp := lp17) ⟨ok46 n, ok47 (n + 5), ok48 (n + 3), trivial⟩ (by kernel_rfl) [] (by kernel_rfl) rfl (fun k hk => by cases hk) fun ds r h => ?_
  unfold G17 at h
  split at h
  · rename_i a b c d e f g h0
    obtain ⟨hp, h⟩ := need_some h
    rw [yes_iff] at hp
    rw [← h]
    refine (congrArg T.run (t17 a b c d e f g h0)).trans ?_
    rw [need_yes hp]
    have hb : big = 4611686018427387904 := rfl
    have hlen := hp.1.1
    simp only [wrap_pred (show a.L.length < 9223372036854775807 by omega), run_ite, run_leaf, run_need]
    by_cases c1 : compoundOk a.L b.L c.L d.I = true
    · by_cases c2 : within e.I 0 ((a.L.length : Int) - 1) = true
      · by_cases c3 : within f.I (-40) 80 = true
        · by_cases c4 : within h0.I 0 1000000 = true
          · have hs := surf_of (w := g.B) c1 c2
            rw [c1, c2, c3, c4]
            rw [Lite.within_iff] at c3 c4
            simp only [Bool.not_true, Bool.false_eq_true, if_false, Bool.and_self, if_true]
            rw [if_pos (yes_true ⟨hs.1, c3.1, c3.2, hs.2.1, hs.2.2, c4.1, c4.2⟩)]
          · simp [c1, c2, c3, c4]
        · simp [c1, c2, c3]
      · simp [c1, c2]
    · simp [c1]
  · cases h
end Go.Proofs.Ytlofnkkokcihnaa
